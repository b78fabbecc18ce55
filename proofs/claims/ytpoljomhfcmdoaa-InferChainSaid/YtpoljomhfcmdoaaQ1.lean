/- Ranges in order: which samples they have, that these tell them, and how many there are. -/
import Derived.Test.YtpoljomhfcmdoaaF1
import Derived.Test.YtpoljomhfcmdoaaC1
import Derived.Test.YtpoljomhfcmdoaaVhP
import Derived.KernelRfl
set_option maxRecDepth 4000
set_option linter.all false
set_option linter.unusedVariables false
set_option linter.unusedSimpArgs false
namespace Go.Vg
open Go

def inR (x : Int) (r : infer_Range) : Prop := r.From ≤ x ∧ x < r.To
def mem (x : Int) (l : List infer_Range) : Prop := ∃ r, r ∈ l ∧ inR x r
def Rise : List infer_Range → Prop
  | [] => True
  | r :: l => r.From < r.To ∧ (∀ q, q ∈ l → r.To < q.From) ∧ Rise l
theorem mem_nil {x : Int} : ¬ mem x [] := fun ⟨_, h, _⟩ => by simp at h
theorem mem_cons {x : Int} {r : infer_Range} {l : List infer_Range} : mem x (r :: l) ↔ inR x r ∨ mem x l := by simp [mem]
theorem mem_append {x : Int} {a b : List infer_Range} : mem x (a ++ b) ↔ mem x a ∨ mem x b := by
  simp only [mem, List.mem_append, or_and_right, exists_or]
theorem mem_one {x : Int} {r : infer_Range} : mem x [r] ↔ inR x r := by simp [mem]
theorem mem_perm {x : Int} {a b : List infer_Range} (h : ∀ r, r ∈ a ↔ r ∈ b) : mem x a ↔ mem x b := by simp only [mem, h]
theorem rise_lt {r : infer_Range} {l : List infer_Range} (h : Rise (r :: l)) {x : Int} (hx : mem x l) : r.To < x := by
  obtain ⟨q, hq, h1, h2⟩ := hx
  have := h.2.1 q hq
  omega
theorem rise_ne {l : List infer_Range} (h : Rise l) {r : infer_Range} (hr : r ∈ l) : r.From < r.To := by
  induction l with
  | nil => simp at hr
  | cons q l ih =>
    rcases List.mem_cons.1 hr with rfl | hr
    · exact h.1
    · exact ih h.2.2 hr
theorem rise_from {r q : infer_Range} {l m : List infer_Range} (ha : Rise (r :: l)) (hb : Rise (q :: m)) (h : ∀ x, mem x (r :: l) → mem x (q :: m)) : q.From ≤ r.From := by
  have h1 := ha.1
  have h2 := hb.1
  rcases mem_cons.1 (h r.From (mem_cons.2 (.inl ⟨by omega, h1⟩))) with h3 | h3
  · exact h3.1
  · have := rise_lt hb h3; omega
theorem rise_to {r q : infer_Range} {l m : List infer_Range} (hb : Rise (q :: m)) (h : ∀ x, mem x (r :: l) → mem x (q :: m)) (e : r.From = q.From) : r.To ≤ q.To := by
  refine Int.not_lt.1 fun hlt => ?_
  have h2 := hb.1
  rcases mem_cons.1 (h q.To (mem_cons.2 (.inl ⟨by omega, hlt⟩))) with h3 | h3
  · exact absurd h3.2 (by omega)
  · have := rise_lt hb h3; omega
theorem rise_unique : ∀ (a b : List infer_Range), Rise a → Rise b → (∀ x, mem x a ↔ mem x b) → a = b
  | [], [], _, _, _ => rfl
  | [], q :: m, _, hb, h => absurd ((h q.From).2 (mem_cons.2 (.inl ⟨by omega, hb.1⟩))) mem_nil
  | r :: l, [], ha, _, h => absurd ((h r.From).1 (mem_cons.2 (.inl ⟨by omega, ha.1⟩))) mem_nil
  | r :: l, q :: m, ha, hb, h => by
    have e1 : r.From = q.From := by
      have := rise_from ha hb fun x => (h x).1
      have := rise_from hb ha fun x => (h x).2
      omega
    have e2 : r.To = q.To := by
      have := rise_to hb (fun x => (h x).1) e1
      have := rise_to ha (fun x => (h x).2) e1.symm
      omega
    have e : r = q := by
      obtain ⟨a, b⟩ := r; obtain ⟨c, d⟩ := q
      simp only at e1 e2; rw [e1, e2]
    subst e
    rw [rise_unique l m ha.2.2 hb.2.2 fun x => ⟨fun hx => ?_, fun hx => ?_⟩]
    · rcases mem_cons.1 ((h x).1 (mem_cons.2 (.inr hx))) with h3 | h3
      · have := rise_lt ha hx; exact absurd h3.2 (by omega)
      · exact h3
    · rcases mem_cons.1 ((h x).2 (mem_cons.2 (.inr hx))) with h3 | h3
      · have := rise_lt hb hx; exact absurd h3.2 (by omega)
      · exact h3
theorem rise_snoc : ∀ (l : List infer_Range) (x : infer_Range), Rise (l ++ [x]) ↔ Rise l ∧ x.From < x.To ∧ ∀ q, q ∈ l → q.To < x.From
  | [], x => by simp [Rise]
  | r :: l, x => by
    simp only [List.cons_append, Rise, rise_snoc l x, List.mem_append, List.mem_cons, List.not_mem_nil, or_false]
    constructor
    · rintro ⟨h1, h2, h3, h4, h5⟩
      exact ⟨⟨h1, fun q hq => h2 q (.inl hq), h3⟩, h4, fun q hq => hq.elim (fun e => by subst e; exact h2 x (.inr rfl)) (h5 q)⟩
    · rintro ⟨⟨h1, h2, h3⟩, h4, h5⟩
      exact ⟨h1, fun q hq => hq.elim (h2 q) (fun e => by subst e; exact h5 r (.inl rfl)), h3, h4, fun q hq => h5 q (.inr hq)⟩
/-- Bounds are told by the samples. -/
theorem rise_bounds {l : List infer_Range} (h : Rise l) {lo hi : Int} (hm : ∀ x, mem x l → lo ≤ x ∧ x < hi) {r : infer_Range} (hr : r ∈ l) : lo ≤ r.From ∧ r.From < r.To ∧ r.To ≤ hi := by
  have h0 := rise_ne h hr
  have h1 := hm r.From ⟨r, hr, by omega, h0⟩
  have h2 := hm (r.To - 1) ⟨r, hr, by omega, by omega⟩
  omega
theorem rise_none {l : List infer_Range} (h : Rise l) (hm : ∀ x, ¬ mem x l) : l = [] := rise_unique l [] h trivial fun x => ⟨fun hx => absurd hx (hm x), fun hx => absurd hx mem_nil⟩

/-! ### How many samples -/
def cnt (p : Nat → Bool) : Nat → Nat
  | 0 => 0
  | n + 1 => cnt p n + (p n).toNat
theorem cnt_or {p q : Nat → Bool} (h : ∀ x, p x = true → q x = false) : ∀ n, cnt (fun x => p x || q x) n = cnt p n + cnt q n
  | 0 => rfl
  | n + 1 => by
    simp only [cnt, cnt_or h n]
    have : (p n || q n).toNat = (p n).toNat + (q n).toNat := by
      cases hp : p n with
      | true => simp [h n hp]
      | false => simp
    omega
theorem cnt_not (p : Nat → Bool) : ∀ n, cnt p n + cnt (fun x => !p x) n = n
  | 0 => rfl
  | n + 1 => by
    have := cnt_not p n
    have h2 : (p n).toNat + (!p n).toNat = 1 := by cases p n <;> rfl
    simp only [cnt]
    omega
theorem cnt_congr {p q : Nat → Bool} : ∀ n, (∀ x, x < n → p x = q x) → cnt p n = cnt q n
  | 0, _ => rfl
  | n + 1, h => by simp only [cnt, cnt_congr n (fun x hx => h x (by omega)), h n (by omega)]
theorem cnt_range {f t : Int} (h0 : 0 ≤ f) (h1 : f ≤ t) : ∀ (n : Nat), (cnt (fun x => decide (f ≤ (x : Int)) && decide ((x : Int) < t)) n : Int) = min t n - min f n
  | 0 => by simp only [cnt]; omega
  | n + 1 => by
    have := cnt_range h0 h1 n
    simp only [cnt]
    by_cases h2 : f ≤ (n : Int)
    · by_cases h3 : (n : Int) < t
      · simp only [h2, h3, decide_true, Bool.and_true, Bool.toNat_true]; omega
      · simp only [h2, h3, decide_true, decide_false, Bool.and_false, Bool.toNat_false]; omega
    · simp only [h2, decide_false, Bool.false_and, Bool.toNat_false]; omega
def memB (l : List infer_Range) (x : Nat) : Bool := l.any fun r => decide (r.From ≤ (x : Int)) && decide ((x : Int) < r.To)
theorem memB_iff {l : List infer_Range} {x : Nat} : memB l x = true ↔ mem x l := by simp [memB, mem, inR]
def lens (total : Int) (l : List infer_Range) : Int := (l.map fun r => min r.To total - min r.From total).sum
theorem lens_cnt (n : Nat) : ∀ (l : List infer_Range), Rise l → (∀ r, r ∈ l → 0 ≤ r.From) → (cnt (memB l) n : Int) = lens n l
  | [], _, _ => by
    have : ∀ n, cnt (memB []) n = 0 := fun n => by
      induction n with
      | zero => rfl
      | succ n ih => simp [cnt, ih, memB]
    simp [this, lens]
  | r :: l, h, h0 => by
    have ih := lens_cnt n l h.2.2 fun q hq => h0 q (List.mem_cons_of_mem _ hq)
    have e : memB (r :: l) = fun x : Nat => (decide (r.From ≤ (x : Int)) && decide ((x : Int) < r.To)) || memB l x := by funext x; simp [memB]
    rw [e, cnt_or (fun x hx => ?_)]
    · have h1 := h.1
      have := cnt_range (h0 r List.mem_cons_self) (Int.le_of_lt h1) n
      simp only [lens, List.map_cons, List.sum_cons] at *
      omega
    · simp only [Bool.and_eq_true, decide_eq_true_eq] at hx
      cases hm : memB l x with
      | false => rfl
      | true =>
        have := rise_lt h (memB_iff.1 hm)
        omega
/-- What is covered and what is missing are all. -/
theorem lens_all {a b : List infer_Range} {n : Nat} (ha : Rise a) (hb : Rise b) (ha0 : ∀ r, r ∈ a → 0 ≤ r.From) (hb0 : ∀ r, r ∈ b → 0 ≤ r.From) (h : ∀ x : Nat, x < n → (mem x b ↔ ¬ mem x a)) : lens n b + lens n a = n := by
  rw [← lens_cnt n a ha ha0, ← lens_cnt n b hb hb0]
  have h1 := cnt_not (memB a) n
  have h2 : cnt (memB b) n = cnt (fun x => !memB a x) n := cnt_congr n fun x hx => by
    have := h x hx
    rw [← memB_iff, ← memB_iff] at this
    cases h3 : memB a x <;> cases h4 : memB b x <;> simp_all
  omega
end Go.Vg
