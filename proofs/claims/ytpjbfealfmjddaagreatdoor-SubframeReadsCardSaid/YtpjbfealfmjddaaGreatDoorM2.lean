/- The plain laws: rice's plans, predictions -/
import Derived.Test.YtpjbfealfmjddaaGreatDoorM1
set_option maxRecDepth 4000
set_option linter.all false
set_option linter.unusedVariables false
set_option linter.unusedSimpArgs false
namespace Go.Vg

/-- **A loop of so many rounds**: what holds ahead of each, and of the answer. -/
theorem iter_for {α A : Type} {step : α → Option (α ⊕ A)} (n : Nat) (st : Nat → α → Prop) (Q : A → Prop) (hn : n < 2 ^ 60)
    (h : ∀ i a, i < n → st i a → (∃ a', step a = some (.inl a') ∧ st (i + 1) a') ∨ ∃ r, step a = some (.inr r) ∧ Q r)
    (hend : ∀ a, st n a → ∃ r, step a = some (.inr r) ∧ Q r) {a0 : α} (h0 : st 0 a0) : ∃ r, iter step a0 = some r ∧ Q r := by
  have key : ∀ k i a, i + k = n → st i a → ∀ m, k < m → ∃ r, iterN step m a = some r ∧ Q r := by
    intro k
    induction k with
    | zero =>
      intro i a hi ha m hm
      obtain ⟨m, rfl⟩ : ∃ q, m = q + 1 := ⟨m - 1, by omega⟩
      obtain rfl : i = n := by omega
      obtain ⟨r, h1, h2⟩ := hend a ha
      rw [iterN_succ, h1]
      exact ⟨r, rfl, h2⟩
    | succ k ih =>
      intro i a hi ha m hm
      obtain ⟨m, rfl⟩ : ∃ q, m = q + 1 := ⟨m - 1, by omega⟩
      rw [iterN_succ]
      rcases h i a (by omega) ha with ⟨a', h1, h2⟩ | ⟨r, h1, h2⟩
      · rw [h1]; exact ih (i + 1) a' (by omega) h2 m (by omega)
      · rw [h1]; exact ⟨r, rfl, h2⟩
  exact key n 0 a0 (by omega) h0 ROUNDS (Nat.lt_trans hn (by decide))

theorem W_succ {i : Nat} (h : i < 2 ^ 60) : W ((i : Int) + 1) = ((i + 1 : Nat) : Int) := by rw [W_id (by omega) (by omega)]; omega

/-- A loop that looks for the first of some kind. -/
theorem find_loop {l : List Int} {step : Int → Option (Int ⊕ Int)} (B : Int → Bool) (hl : l.length < 2 ^ 40)
    (h : ∀ (i : Nat) x, l[i]? = some x → step (i : Int) = if B x = true then some (.inr (i : Int)) else some (.inl (W ((i : Int) + 1)))) (hend : step (l.length : Int) = some (.inr (-1))) :
    ∃ r, iter step 0 = some r ∧ decide (r ≥ 0) = l.any B := by
  refine iter_for l.length (fun i a => a = (i : Int) ∧ ∀ j x, j < i → l[j]? = some x → B x = false) _ (by omega) (fun i a hi ha => ?_) (fun a ha => ?_) ⟨rfl, fun j x hj => absurd hj (Nat.not_lt_zero _)⟩
  · obtain ⟨rfl, hall⟩ := ha
    rw [h i _ (List.getElem?_eq_getElem hi)]
    cases hB : B l[i] with
    | true =>
      right
      refine ⟨_, rfl, ?_⟩
      rw [List.any_eq_true.2 ⟨_, List.getElem_mem hi, hB⟩]
      exact decide_eq_true (by omega)
    | false =>
      left
      refine ⟨_, rfl, W_succ (by omega), fun j x hj hx => ?_⟩
      rcases Nat.lt_or_ge j i with h5 | h5
      · exact hall j x h5 hx
      · obtain rfl : j = i := by omega
        rw [List.getElem?_eq_getElem hi] at hx
        cases hx; exact hB
  · obtain ⟨rfl, hall⟩ := ha
    refine ⟨_, hend, ?_⟩
    have : l.any B = false := by
      rw [List.any_eq_false]
      intro x hx
      obtain ⟨j, hj, rfl⟩ := List.getElem_of_mem hx
      rw [hall j _ hj (List.getElem?_eq_getElem hj)]
      exact Bool.false_ne_true
    rw [this]; rfl

theorem foldR_range {E X R A : Type} {step : E → X → Option (X ⊕ R)} {done : X → Option A} {ret : R → Option A} (n : Nat) (f : Nat → E) (st : Nat → X → Prop) (h : ∀ i x, i < n → st i x → ∃ x', step (f i) x = some (.inl x') ∧ st (i + 1) x') {x0 : X} (h0 : st 0 x0) :
    ∃ x, st n x ∧ foldR step done ret ((List.range n).map f) x0 = done x := by
  have key : ∀ k s x, s + k = n → st s x → ∃ x', st n x' ∧ foldR step done ret ((List.range' s k).map f) x = done x' := by
    intro k
    induction k with
    | zero => intro s x hs hx; obtain rfl : s = n := by omega
              exact ⟨x, hx, rfl⟩
    | succ k ih =>
      intro s x hs hx
      obtain ⟨x', h1, h2⟩ := h s x (by omega) hx
      rw [List.range'_succ, List.map_cons, foldR, h1]
      exact ih (s + 1) x' (by omega) h2
  rw [List.range_eq_range']
  exact key n 0 x0 (by omega) h0
theorem foldR_total {E X R A : Type} {step : E → X → Option (X ⊕ R)} {done : X → Option A} {ret : R → Option A} (es : List E) (h : ∀ e, e ∈ es → ∀ x, ∃ y, step e x = some y) (hd : ∀ x, ∃ r, done x = some r) (hr : ∀ q, ∃ r, ret q = some r) (x0 : X) : ∃ r, foldR step done ret es x0 = some r := by
  induction es generalizing x0 with
  | nil => exact hd x0
  | cons e es ih =>
    obtain ⟨y, hy⟩ := h e (List.mem_cons_self ..) x0
    rw [foldR, hy]
    cases y with
    | inl x' => exact ih (fun e he => h e (List.mem_cons_of_mem _ he)) x'
    | inr q => exact hr q

theorem shr_int (x : Int) {s : Nat} (hs : s ≤ 64) : shD .shr .i64 x (s : Int) = x / 2 ^ s := by
  simp only [shD, IntKind.bits, Int.toNat_natCast]
  rw [Nat.min_eq_left hs]
  exact Int.fdiv_eq_ediv_of_nonneg _ (Int.le_of_lt (Int.pow_pos (by decide)))
theorem pow_le {a b : Nat} (h : a ≤ b) : (2 : Nat) ^ a ≤ 2 ^ b := Nat.pow_le_pow_right (by omega) h
theorem pow_cast (n : Nat) : ((2 ^ n : Nat) : Int) = (2 : Int) ^ n := by push_cast; rfl
theorem pow_posI (n : Nat) : (0 : Int) < 2 ^ n := Int.pow_pos (by decide)
theorem idx_nat {α : Type} {l : List α} {i : Nat} (h : i < l.length) : idx l (i : Int) = some l[i] := idx_ok (List.getElem?_eq_getElem h)
theorem ite_or {a b : Bool} : (if a = true then true else b) = (a || b) := by cases a <;> rfl
theorem ite_and {a b : Bool} : (if a = true then b else false) = (a && b) := by cases a <;> rfl
end Go.Vg

namespace Go.Vg

theorem contains_x1 {l : List Int} {k : Int} (hl : l.length < 2 ^ 40) : slices_ContainsFunc_sint_int l k = some (l.any fun x => decide (x < W (0 - k)) || decide (x ≥ k)) := by
  unfold slices_ContainsFunc_sint_int slices_IndexFunc_sint_int
  obtain ⟨r, h1, h2⟩ := find_loop (l := l) (step := slices_IndexFunc_sint_int_L1 l k) (fun x => decide (x < W (0 - k)) || decide (x ≥ k)) hl (fun i x hx => by
    have hi := (List.getElem?_eq_some_iff.1 hx).1
    unfold slices_IndexFunc_sint_int_L1
    rw [if_pos (by simpa using hi), idx_ok hx]
    simp only [Option.bind_some, subframe_fits_c1, ite_or]
    rfl) (by
    unfold slices_IndexFunc_sint_int_L1 slices_IndexFunc_sint_int_K1
    rw [if_neg (by simp)]; rfl)
  rw [h1]
  exact congrArg some h2
theorem contains_x3 {l : List Int} {k : Int} (hl : l.length < 2 ^ 40) : slices_ContainsFunc_sint_int_x3 l k = some (l.any fun x => decide (x < W (0 - k)) || decide (x ≥ k)) := by
  unfold slices_ContainsFunc_sint_int_x3 slices_IndexFunc_sint_int_x3
  obtain ⟨r, h1, h2⟩ := find_loop (l := l) (step := slices_IndexFunc_sint_int_x3_L1 l k) (fun x => decide (x < W (0 - k)) || decide (x ≥ k)) hl (fun i x hx => by
    have hi := (List.getElem?_eq_some_iff.1 hx).1
    unfold slices_IndexFunc_sint_int_x3_L1
    rw [if_pos (by simpa using hi), idx_ok hx]
    simp only [Option.bind_some, predict_Check_c1, ite_or]
    rfl) (by
    unfold slices_IndexFunc_sint_int_x3_L1 slices_IndexFunc_sint_int_x3_K1
    rw [if_neg (by simp)]; rfl)
  rw [h1]
  exact congrArg some h2
theorem contains_x4 {l : List Int} {g : Int → Option Bool} {B : Int → Bool} (hl : l.length < 2 ^ 40) (hg : ∀ x, g x = some (B x)) : slices_ContainsFunc_sint_int_x4 l g = some (l.any B) := by
  unfold slices_ContainsFunc_sint_int_x4 slices_IndexFunc_sint_int_x4
  obtain ⟨r, h1, h2⟩ := find_loop (l := l) (step := slices_IndexFunc_sint_int_x4_L1 l g) B hl (fun i x hx => by
    have hi := (List.getElem?_eq_some_iff.1 hx).1
    unfold slices_IndexFunc_sint_int_x4_L1
    rw [if_pos (by simpa using hi), idx_ok hx]
    simp only [Option.bind_some, hg]
    rfl) (by
    unfold slices_IndexFunc_sint_int_x4_L1 slices_IndexFunc_sint_int_x4_K1
    rw [if_neg (by simp)]; rfl)
  rw [h1]
  exact congrArg some h2

/-- May all numbers be written in so many bits, with their sign? -/
def FitsP (n : Nat) (l : List Int) : Prop := ∀ x, x ∈ l → -(2 : Int) ^ (n - 1) ≤ x ∧ x < (2 : Int) ^ (n - 1)
theorem fits_spec {n : Nat} {l : List Int} (h1 : 1 ≤ n) (hn : n ≤ 48) (hl : l.length < 2 ^ 40) : ∃ b, subframe_fits (n : Int) l = some b ∧ (b = true ↔ FitsP n l) := by
  unfold subframe_fits
  have e1 : W ((n : Int) - 1) = ((n - 1 : Nat) : Int) := by rw [W_id (by omega) (by omega)]; omega
  have hp : (2 : Nat) ^ (n - 1) ≤ 2 ^ 47 := pow_le (by omega)
  have hc := pow_cast (n - 1)
  have hq := pow_posI (n - 1)
  rw [e1, need_ok (by simp), pow_shl (by omega)]
  unfold lett
  simp only [contains_x1 hl, Option.bind_some]
  refine ⟨_, rfl, ?_⟩
  have e2 : W (0 - ((2 ^ (n - 1) : Nat) : Int)) = -(2 : Int) ^ (n - 1) := by rw [W_id (by omega) (by omega)]; omega
  rw [e2, Bool.not_eq_true', List.any_eq_false]
  unfold FitsP
  refine forall_congr' fun x => forall_congr' fun _ => ?_
  rw [hc]
  simp only [Bool.or_eq_true, decide_eq_true_eq]
  omega
theorem may_spec {l : List Int} (hl : l.length < 2 ^ 40) : ∃ b, predict_may l = some b ∧ (b = true ↔ ∀ x, x ∈ l → -4294967296 ≤ x ∧ x < 4294967296) := by
  unfold predict_may
  rw [contains_x4 (B := fun x => decide (x < (-4294967296)) || decide (x ≥ 4294967296)) hl (fun x => by unfold predict_may_c1; rw [ite_or])]
  simp only [Option.bind_some]
  refine ⟨_, rfl, ?_⟩
  rw [Bool.not_eq_true', List.any_eq_false]
  refine forall_congr' fun x => forall_congr' fun _ => ?_
  simp only [Bool.or_eq_true, decide_eq_true_eq]
  omega
end Go.Vg

namespace Go.Vg

/-- What predict.Check tells where its code is 0. -/
structure LinOk (p : predict_Linear) : Prop where
  len : p.Coefs.length ≤ 32
  p1 : 1 ≤ p.Precision
  p2 : p.Precision ≤ 15
  s1 : 0 ≤ p.Shift
  s2 : p.Shift ≤ 15
  fit : FitsP p.Precision.toNat p.Coefs
theorem pcheck_spec (p : predict_Linear) (hl : p.Coefs.length < 2 ^ 40) : ∃ c, predict_Check p = some c ∧ (c = 0 ↔ LinOk p) := by
  unfold predict_Check
  simp only [ite_or]
  by_cases hc : ((p.Coefs.length : Int) > 32 ∨ p.Precision < 1) ∨ p.Precision > 15 ∨ p.Shift < 0 ∨ p.Shift > 15
  · rw [if_pos (by simp only [Bool.or_eq_true, decide_eq_true_eq]; omega)]
    refine ⟨_, rfl, ⟨fun h => (nomatch h), fun h => ?_⟩⟩
    have := h.len; have := h.p1; have := h.p2; have := h.s1; have := h.s2
    omega
  · rw [if_neg (by simp only [Bool.or_eq_true, decide_eq_true_eq]; omega)]
    obtain ⟨n, hn⟩ := Int.eq_ofNat_of_zero_le (show 0 ≤ p.Precision by omega)
    have e1 : W (p.Precision - 1) = ((n - 1 : Nat) : Int) := by rw [W_id (by omega) (by omega)]; omega
    have hp : (2 : Nat) ^ (n - 1) ≤ 2 ^ 14 := pow_le (by omega)
    have hc := pow_cast (n - 1)
    have hq := pow_posI (n - 1)
    rw [e1, need_ok (by simp), pow_shl (by omega)]
    unfold lett
    simp only [contains_x3 hl, Option.bind_some]
    have e2 : W (0 - ((2 ^ (n - 1) : Nat) : Int)) = -(2 : Int) ^ (n - 1) := by rw [W_id (by omega) (by omega)]; omega
    have hiff : (p.Coefs.any fun x => decide (x < W (0 - ((2 ^ (n - 1) : Nat) : Int))) || decide (x ≥ ((2 ^ (n - 1) : Nat) : Int))) = false ↔ FitsP p.Precision.toNat p.Coefs := by
      rw [e2, List.any_eq_false, hn, hc]
      unfold FitsP
      refine forall_congr' fun x => forall_congr' fun _ => ?_
      simp only [Bool.or_eq_true, decide_eq_true_eq, Int.toNat_natCast]
      omega
    cases hb : (p.Coefs.any fun x => decide (x < W (0 - ((2 ^ (n - 1) : Nat) : Int))) || decide (x ≥ ((2 ^ (n - 1) : Nat) : Int))) with
    | true =>
      rw [if_pos rfl]
      refine ⟨_, rfl, fun h => (nomatch h), fun h => ?_⟩
      rw [hiff.2 h.fit] at hb
      cases hb
    | false =>
      rw [if_neg (by decide)]
      exact ⟨_, rfl, fun _ => ⟨by omega, by omega, by omega, by omega, by omega, hiff.1 hb⟩, fun _ => rfl⟩

/-- Are all samples such that they may be told? -/
def MayP (l : List Int) : Prop := ∀ x, x ∈ l → -4294967296 ≤ x ∧ x < 4294967296
theorem told_spec {p : predict_Linear} {l : List Int} (hp : LinOk p) (hl : l.length < 2 ^ 40) (hc : p.Coefs.length ≤ l.length) (hm : MayP l) :
    ∃ t, predict_Linear_told p l = some t ∧ -4503599627370496 ≤ t ∧ t ≤ 4503599627370496 := by
  have hlen := hp.len
  unfold predict_Linear_told
  have e1 : W ((l.length : Int) - (p.Coefs.length : Int)) = ((l.length - p.Coefs.length : Nat) : Int) := by rw [W_id (by omega) (by omega)]; omega
  rw [e1, sub_ok (by omega) (by omega)]
  simp only [Option.bind_some, predict_back, backF]
  have hdl : ((l.drop (l.length - p.Coefs.length)).take (l.length - (l.length - p.Coefs.length))).length = p.Coefs.length := by simp; omega
  generalize hL : (l.drop (l.length - p.Coefs.length)).take (l.length - (l.length - p.Coefs.length)) = L at *
  have hmL : MayP L := fun x hx => hm x (by rw [← hL] at hx; exact List.mem_of_mem_drop (List.mem_of_mem_take hx))
  unfold backN
  obtain ⟨n, hn⟩ := Int.eq_ofNat_of_zero_le (show 0 ≤ p.Precision by have := hp.p1; omega)
  have hp2 := hp.p2
  have hpw : (2 : Nat) ^ (n - 1) ≤ 2 ^ 14 := pow_le (by omega)
  have hpc := pow_cast (n - 1)
  have hpq := pow_posI (n - 1)
  refine Exists.elim (foldR_range (step := predict_Linear_told_L1 p) (done := predict_Linear_told_K2 p) (ret := fun b => nomatch b) L.length (fun (i : Nat) => (Int.ofNat i, L.getD (L.length - 1 - i) 0)) (fun i a => -(i * 70368744177664) ≤ a ∧ a ≤ (i * 70368744177664 : Int)) (fun i a hi ha => ?_) (x0 := 0) (by simp)) ?_
  · unfold predict_Linear_told_L1
    have hi' : i < p.Coefs.length := by omega
    have hv : L.length - 1 - i < L.length := by omega
    have eg : L.getD (L.length - 1 - i) 0 = L[L.length - 1 - i] := by simp [List.getD, hv]
    have m1 := hmL _ (List.getElem_mem hv)
    have m2 := hp.fit _ (List.getElem_mem hi')
    simp only [Int.ofNat_eq_natCast, idx_nat hi', Option.bind_some, eg]
    rw [hn, Int.toNat_natCast] at m2
    generalize p.Coefs[i] = c at *
    generalize L[L.length - 1 - i] = y at *
    have c1 : -16384 ≤ c := by omega
    have c2 : c ≤ 16384 := by omega
    have y1 : -4294967296 ≤ y := m1.1
    have y2 : y ≤ 4294967296 := by omega
    have hcy : -70368744177664 ≤ c * y ∧ c * y ≤ 70368744177664 := by
      have a1 := Int.mul_nonneg (show 0 ≤ 16384 - c by omega) (show 0 ≤ 4294967296 - y by omega)
      have a2 := Int.mul_nonneg (show 0 ≤ 16384 + c by omega) (show 0 ≤ 4294967296 + y by omega)
      have a3 := Int.mul_nonneg (show 0 ≤ 16384 - c by omega) (show 0 ≤ 4294967296 + y by omega)
      have a4 := Int.mul_nonneg (show 0 ≤ 16384 + c by omega) (show 0 ≤ 4294967296 - y by omega)
      simp only [Int.mul_sub, Int.mul_add, Int.sub_mul, Int.add_mul] at a1 a2 a3 a4
      omega
    have hi32 : i < 32 := by omega
    refine ⟨_, rfl, ?_⟩
    rw [W_id (x := c * y) (by omega) (by omega), W_id (by omega) (by omega)]
    push_cast
    omega
  · rintro x ⟨⟨hx1, hx2⟩, h2⟩
    obtain ⟨s, hs⟩ := Int.eq_ofNat_of_zero_le hp.s1
    have hs2 := hp.s2
    have hK : predict_Linear_told_K2 p x = some (x / 2 ^ s) := by
      unfold predict_Linear_told_K2 predict_Linear_told_K1
      rw [need_ok (by simp [hs]), hs, shr_int _ (by omega)]
    refine ⟨_, h2.trans hK, ?_⟩
    have q1 := pow_posI s
    have b1 : -4503599627370496 ≤ x := by omega
    have b2 : x ≤ 4503599627370496 := by omega
    constructor
    · refine Int.le_ediv_of_mul_le q1 ?_
      have := Int.mul_le_mul_of_nonneg_left (show (1 : Int) ≤ 2 ^ s by omega) (show (0 : Int) ≤ 4503599627370496 by decide)
      omega
    · refine Int.ediv_le_of_le_mul q1 ?_
      have := Int.mul_le_mul_of_nonneg_left (show (1 : Int) ≤ 2 ^ s by omega) (show (0 : Int) ≤ 4503599627370496 by decide)
      omega

end Go.Vg

namespace Go.Vg

/-- What rice.head tells where its code is 0. -/
structure HeadOk (m o b s : Int) : Prop where
  b1 : 1 ≤ b
  b2 : b ≤ 65535
  s1 : 0 ≤ s
  s2 : s ≤ 32
  m1 : 0 ≤ m
  m2 : m ≤ 1
  o1 : 0 ≤ o
  o2 : o ≤ 15
  dv : b.toNat % 2 ^ o.toNat = 0
  mo : s.toNat < b.toNat / 2 ^ o.toNat
theorem head_spec (m o b s : Int) : ∃ c, rice_head m o b s = some c ∧ (c = 0 ↔ HeadOk m o b s) := by
  unfold rice_head
  simp only [ite_or]
  by_cases h1 : (b < 1 ∨ b > 65535) ∨ s < 0 ∨ s > 32
  · rw [if_pos (by simp only [Bool.or_eq_true, decide_eq_true_eq]; omega)]
    exact ⟨_, rfl, fun h => (nomatch h), fun h => by have := h.b1; have := h.b2; have := h.s1; have := h.s2; omega⟩
  rw [if_neg (by simp only [Bool.or_eq_true, decide_eq_true_eq]; omega)]
  by_cases h2 : (m < 0 ∨ m > 1) ∨ o < 0 ∨ o > 15
  · rw [if_pos (by simp only [Bool.or_eq_true, decide_eq_true_eq]; omega)]
    exact ⟨_, rfl, fun h => (nomatch h), fun h => by have := h.m1; have := h.m2; have := h.o1; have := h.o2; omega⟩
  rw [if_neg (by simp only [Bool.or_eq_true, decide_eq_true_eq]; omega)]
  obtain ⟨p, rfl⟩ := Int.eq_ofNat_of_zero_le (show 0 ≤ o by omega)
  obtain ⟨n, rfl⟩ := Int.eq_ofNat_of_zero_le (show 0 ≤ b by omega)
  obtain ⟨k, rfl⟩ := Int.eq_ofNat_of_zero_le (show 0 ≤ s by omega)
  have hp : (2 : Nat) ^ p ≤ 2 ^ 15 := pow_le (by omega)
  have h0 : 0 < (2 : Nat) ^ p := Nat.pow_pos (by omega)
  rw [need_ok (by simp), need_ok (by simp), pow_shl (by omega), pow_mask (by omega), and_nat (by omega) (by omega), Nat.and_two_pow_sub_one_eq_mod, shr_nat (by omega)]
  by_cases h3 : n % 2 ^ p = 0
  · rw [if_neg (by simp [h3])]
    have hdc : ((n / 2 ^ p : Nat) : Int) ≤ (k : Int) ↔ ¬ k < n / 2 ^ p := by
      generalize n / 2 ^ p = q
      omega
    by_cases h4 : k < n / 2 ^ p
    · rw [if_neg (by rw [decide_eq_true_eq, hdc]; exact fun h => h h4)]
      exact ⟨_, rfl, fun _ => ⟨by omega, by omega, by omega, by omega, by omega, by omega, by omega, by omega, h3, h4⟩, fun _ => rfl⟩
    · rw [if_pos (by rw [decide_eq_true_eq, hdc]; exact h4)]
      exact ⟨_, rfl, fun h => (nomatch h), fun h => absurd h.mo h4⟩
  · rw [if_pos (by simp; exact_mod_cast h3)]
    exact ⟨_, rfl, fun h => (nomatch h), fun h => absurd h.dv h3⟩

theorem one_total {v par n : Int} (hp : par = -1 ∨ 0 ≤ par) : ∃ r, rice_one v par n = some r := by
  unfold rice_one
  obtain ⟨f, hf⟩ := fold_flag v
  rw [hf]
  simp only [Option.bind_some]
  by_cases hb : (decide (-2147483648 < v) && decide (v < 2147483648)) = true
  · rw [hb, if_neg (by decide)]
    simp only [Bool.and_eq_true, decide_eq_true_eq] at hb
    rcases hp with rfl | hp
    · rw [if_pos (by rfl)]
      obtain ⟨w, hw, _⟩ := width_spec hb.1 hb.2
      rw [hw]
      exact ⟨_, rfl⟩
    · rw [if_neg (by simp; omega), need_ok (by simpa using hp), need_ok (by simpa using hp)]
      exact ⟨_, rfl⟩
  · rw [if_pos (by rw [Bool.not_eq_true']; exact Bool.eq_false_iff.2 hb)]
    exact ⟨_, rfl⟩
theorem some_total {xs : List Int} {par n : Int} (hl : xs.length < 2 ^ 40) (hp : par = -1 ∨ 0 ≤ par) : ∃ r, rice_some xs par n = some r := by
  unfold rice_some
  refine Exists.elim (iter_for (step := rice_some_L1 xs par n) xs.length (fun i a => a.2 = (i : Int)) (fun _ => True) (by omega) (fun i a hi ha => ?_) (fun a ha => ?_) (a0 := (0, 0)) rfl) (fun r hr => ⟨r, hr.1⟩)
  · unfold rice_some_L1
    rw [ha, if_pos (by simpa using hi), idx_nat hi]
    simp only [Option.bind_some]
    obtain ⟨q, hq⟩ := one_total (v := xs[i]) (n := n) hp
    rw [hq]
    simp only [Option.bind_some]
    split
    · exact .inr ⟨_, rfl, trivial⟩
    · exact .inl ⟨_, rfl, W_succ (by omega)⟩
  · unfold rice_some_L1
    rw [ha, if_neg (by simp)]
    exact ⟨_, rfl, trivial⟩

/-- What rice.Check tells where its code is 0. -/
structure PlanOk (p : rice_Plan) (b s : Int) : Prop where
  head : HeadOk p.Method p.Order b s
  len1 : p.Params.length = 2 ^ p.Order.toNat
  len2 : p.Bits.length = 2 ^ p.Order.toNat
  par : ∀ i : Nat, i < p.Params.length → ∃ par n, idx p.Params (i : Int) = some par ∧ idx p.Bits (i : Int) = some n ∧ ParOk p.Method.toNat par n
theorem Method_nat {p : rice_Plan} {b s : Int} (h : HeadOk p.Method p.Order b s) : ∃ m : Nat, m ≤ 1 ∧ p.Method = (m : Int) := by
  obtain ⟨m, hm⟩ := Int.eq_ofNat_of_zero_le h.m1
  exact ⟨m, by have := h.m2; omega, hm⟩
theorem rcheck_spec (p : rice_Plan) (b s : Int) (hl : p.Params.length < 2 ^ 40) : ∃ c, rice_Check p b s = some c ∧ (c = 0 → PlanOk p b s) := by
  unfold rice_Check
  obtain ⟨c0, h0, h0'⟩ := head_spec p.Method p.Order b s
  rw [h0]
  simp only [Option.bind_some]
  rcases (Decidable.em (c0 = 0)).symm with hc0 | hc0
  · rw [if_pos (by simpa using hc0)]
    exact ⟨_, rfl, fun h => absurd h hc0⟩
  rw [if_neg (by simpa using hc0)]
  have hh := h0'.1 hc0
  obtain ⟨m, hm, hM⟩ := Method_nat hh
  obtain ⟨o, ho⟩ := Int.eq_ofNat_of_zero_le hh.o1
  have ho2 := hh.o2
  have hp : (2 : Nat) ^ o ≤ 2 ^ 15 := pow_le (by omega)
  have hg : decide (p.Order ≥ 0) = true := by rw [ho]; simp
  rw [need_ok hg, need_ok hg, ho, pow_shl (by omega)]
  unfold rice_Check_K1
  by_cases h1 : p.Params.length = 2 ^ o
  · rw [if_neg (by rw [h1]; simp)]
    by_cases h2 : p.Bits.length = 2 ^ o
    · rw [if_neg (by rw [h2]; simp)]
      obtain ⟨c, hc, _⟩ := iter_for (step := rice_Check_L1 p) (A := Int) p.Params.length (fun i a => a = (i : Int)) (fun _ => True) (by omega) (fun i a hi ha => by
        subst ha
        unfold rice_Check_L1 rice_Check_K3
        rw [if_pos (by simpa using hi), idx_nat hi, idx_nat (l := p.Bits) (i := i) (by omega), hM, escape_spec hm]
        simp only [Option.bind_some]
        (repeat' split) <;> first | exact .inl ⟨_, rfl, W_succ (by omega)⟩ | exact .inr ⟨_, rfl, trivial⟩) (fun a ha => by
        subst ha
        unfold rice_Check_L1
        rw [if_neg (by simp)]
        exact ⟨_, rfl, trivial⟩) (a0 := (0 : Int)) rfl
      refine ⟨c, hc, fun h => ⟨hh, by rw [ho]; exact h1, by rw [ho]; exact h2, ?_⟩⟩
      rw [hM]
      exact check_ok hm hM hl (by rw [hc, h])
    · rw [if_pos (by simp; exact_mod_cast h2)]
      exact ⟨_, rfl, fun h => (nomatch h)⟩
  · rw [if_pos (by simp; exact_mod_cast h1), if_pos rfl]
    exact ⟨_, rfl, fun h => (nomatch h)⟩

/-- Where a part of a list begins, and what it is. -/
def partXs (d : List Int) (s skip i : Nat) : List Int := (d.drop (i * s - skip)).take (((i + 1) * s - skip) - (i * s - skip))
theorem part_sub {d : List Int} {b o skip i : Nat} (hb : d.length + skip = b) (hdv : b % 2 ^ o = 0) (hmo : skip < b / 2 ^ o) (hi : i < 2 ^ o) :
    sub d (max 0 (Int.ofNat (i * (b / 2 ^ o)) - Int.ofNat skip)) (Int.ofNat ((i + 1) * (b / 2 ^ o)) - Int.ofNat skip) = some (partXs d (b / 2 ^ o) skip i) ∧
    (Int.ofNat ((i + 1) * (b / 2 ^ o)) - Int.ofNat skip) - (max 0 (Int.ofNat (i * (b / 2 ^ o)) - Int.ofNat skip)) = ((partXs d (b / 2 ^ o) skip i).length : Int) := by
  have h1 : 2 ^ o * (b / 2 ^ o) = b := by have := Nat.div_add_mod b (2 ^ o); omega
  have h2 : (i + 1) * (b / 2 ^ o) ≤ 2 ^ o * (b / 2 ^ o) := Nat.mul_le_mul_right _ hi
  have h3 : (i + 1) * (b / 2 ^ o) = i * (b / 2 ^ o) + b / 2 ^ o := Nat.succ_mul ..
  generalize b / 2 ^ o = s at *
  have e1 : max 0 (Int.ofNat (i * s) - Int.ofNat skip) = ((i * s - skip : Nat) : Int) := by simp only [Int.ofNat_eq_natCast]; omega
  have e2 : Int.ofNat ((i + 1) * s) - Int.ofNat skip = (((i + 1) * s - skip : Nat) : Int) := by simp only [Int.ofNat_eq_natCast]; omega
  rw [e1, e2]
  refine ⟨sub_ok (by omega) (by omega), ?_⟩
  unfold partXs
  rw [List.length_take, List.length_drop]
  omega

theorem size_spec (p : rice_Plan) (skip : Nat) (d : List Int) (hs : skip ≤ 32) (hd : d.length < 2 ^ 40) (hl : p.Params.length < 2 ^ 40) : ∃ z c, rice_Size p (skip : Int) d = some (z, c) ∧
    (c = 0 → PlanOk p ((d.length + skip : Nat) : Int) (skip : Int) ∧ ∀ i : Nat, i < 2 ^ p.Order.toNat → ∃ par n, idx p.Params (i : Int) = some par ∧ idx p.Bits (i : Int) = some n ∧ PartOk p.Method.toNat par n (partXs d ((d.length + skip) / 2 ^ p.Order.toNat) skip i)) := by
  unfold rice_Size
  have e0 : W ((d.length : Int) + (skip : Int)) = ((d.length + skip : Nat) : Int) := by rw [W_id (by omega) (by omega)]; omega
  rw [e0]
  obtain ⟨c0, h0, h0'⟩ := rcheck_spec p ((d.length + skip : Nat) : Int) (skip : Int) hl
  rw [h0]
  simp only [Option.bind_some]
  rcases (Decidable.em (c0 = 0)).symm with hc0 | hc0
  · rw [if_pos (by simpa using hc0)]
    exact ⟨_, _, rfl, fun h => absurd h hc0⟩
  rw [if_neg (by simpa using hc0)]
  have hk := h0' hc0
  have hh := hk.head
  obtain ⟨m, hm, hM⟩ := Method_nat hh
  obtain ⟨o, ho⟩ := Int.eq_ofNat_of_zero_le hh.o1
  have ho2 := hh.o2
  have hb2 := hh.b2
  simp only [lett, rice_parts, Option.bind_some]
  unfold partsF
  rw [if_pos ⟨by omega, by omega, by omega, by omega, by omega, by omega⟩]
  simp only [Option.bind_some, Int.toNat_natCast, ho]
  have hdv := hh.dv
  have hmo := hh.mo
  rw [ho] at hdv hmo
  simp only [Int.toNat_natCast] at hdv hmo
  have hlen := hk.len1
  rw [ho, Int.toNat_natCast] at hlen
  have hpar := hk.par
  rw [hM, Int.toNat_natCast] at hpar
  obtain ⟨r, hr⟩ := foldR_total (step := rice_Size_L1 p d) (done := rice_Size_K2) (ret := rice_Size_K3) (partsN (d.length + skip) o skip) (fun e he x => by
    unfold partsN at he
    obtain ⟨i, hi, rfl⟩ := List.mem_map.1 he
    rw [List.mem_range] at hi
    obtain ⟨par, n, g1, g2, g3⟩ := hpar i (by omega)
    unfold rice_Size_L1
    simp only [(part_sub (d := d) rfl hdv hmo hi).1, Int.ofNat_eq_natCast, g1, g2, Option.bind_some]
    have g4 : par = -1 ∨ 0 ≤ par := by
      rcases g3 with h | h
      · exact .inl h.1
      · exact .inr h.1
    obtain ⟨r, hr⟩ := some_total (xs := partXs d ((d.length + skip) / 2 ^ o) skip i) (n := n) (by unfold partXs; simp; omega) g4
    have := (part_sub (d := d) rfl hdv hmo hi).1
    simp only [Int.ofNat_eq_natCast] at this
    rw [this]
    simp only [Option.bind_some, hr]
    (repeat' split) <;> exact ⟨_, rfl⟩) (fun x => ⟨_, rfl⟩) (fun q => ⟨_, rfl⟩) 6
  refine ⟨r.1, r.2, hr, fun hz => ⟨hk, fun i hi => ?_⟩⟩
  have hr' : foldR (rice_Size_L1 p d) rice_Size_K2 rice_Size_K3 (partsN (d.length + skip) o skip) 6 = some (r.1, 0) := by rw [hr, ← hz]
  have hmem : ((Int.ofNat i, (⟨max 0 (Int.ofNat (i * ((d.length + skip) / 2 ^ o)) - Int.ofNat skip), Int.ofNat ((i + 1) * ((d.length + skip) / 2 ^ o)) - Int.ofNat skip⟩ : Arr2 Int)) : Int × Arr2 Int) ∈ partsN (d.length + skip) o skip := by
    unfold partsN
    exact List.mem_map.2 ⟨i, List.mem_range.2 hi, rfl⟩
  obtain ⟨xs, par, n, c, g1, g2, g3, g4⟩ := size_parts _ _ _ hr' _ hmem
  rw [(part_sub (d := d) rfl hdv hmo hi).1] at g1
  cases g1
  obtain ⟨par', n', q1, q2, q3⟩ := hpar i (by omega)
  simp only [Int.ofNat_eq_natCast] at g2 g3
  rw [g2] at q1
  rw [g3] at q2
  cases q1
  cases q2
  refine ⟨par, n, g2, g3, ?_⟩
  rw [hM, Int.toNat_natCast]
  exact part_ok hm (by unfold partXs; simp; omega) q3 g4
end Go.Vg

namespace Go.Vg

theorem flatMap_len {α β : Type} {l : List α} {f : α → List β} {k : Nat} (h : ∀ x, x ∈ l → (f x).length ≤ k) : (l.flatMap f).length ≤ l.length * k := by
  induction l with
  | nil => simp
  | cons x l ih =>
    have h1 := h x (List.mem_cons_self ..)
    have h2 := ih fun y hy => h y (List.mem_cons_of_mem _ hy)
    simp only [List.flatMap_cons, List.length_append, List.length_cons, Nat.succ_mul]
    omega
theorem part_len {m : Nat} {par n : Int} {xs : List Int} (hm : m ≤ 1) (h : PartOk m par n xs) : (partBits m par n xs).length ≤ 10 + xs.length * 65568 := by
  have hE := escN_le hm
  unfold partBits
  rcases h with ⟨rfl, h0, h1, hv⟩ | ⟨h0, h1, rfl, hv⟩
  · rw [if_pos rfl]
    have := flatMap_len (l := xs) (f := escBits n.toNat) (k := 65568) (fun x _ => by rw [escBits_length]; omega)
    simp only [List.length_append, bitsOf_length]
    omega
  · rw [if_neg (by omega)]
    have := flatMap_len (l := xs) (f := codeBits par.toNat) (k := 65568) (fun x hx => by rw [codeBits_length]; have := (hv x hx).2.2; omega)
    simp only [List.length_append, bitsOf_length]
    omega
theorem parts_len {m : Nat} (hm : m ≤ 1) (qs : List Part) (h : ∀ q, q ∈ qs → PartOk m q.par q.n q.xs) : (qs.flatMap (Part.bits m)).length ≤ qs.length * 10 + (qs.flatMap Part.xs).length * 65568 := by
  induction qs with
  | nil => simp
  | cons q qs ih =>
    have h1 := part_len hm (h q (List.mem_cons_self ..))
    have h2 := ih fun y hy => h y (List.mem_cons_of_mem _ hy)
    have h3 : (q.bits m).length = (partBits m q.par q.n q.xs).length := rfl
    simp only [List.flatMap_cons, List.length_append, List.length_cons, Nat.succ_mul, Nat.add_mul]
    omega

/-- A plan's parts over residuals. -/
def planParts (p : rice_Plan) (d : List Int) (skip : Nat) : List Part :=
  (List.range (2 ^ p.Order.toNat)).map fun i => ⟨(Int.ofNat i, ⟨max 0 (Int.ofNat (i * ((d.length + skip) / 2 ^ p.Order.toNat)) - Int.ofNat skip), Int.ofNat ((i + 1) * ((d.length + skip) / 2 ^ p.Order.toNat)) - Int.ofNat skip⟩), p.Params.getD i 0, p.Bits.getD i 0, partXs d ((d.length + skip) / 2 ^ p.Order.toNat) skip i⟩
def planBits (p : rice_Plan) (d : List Int) (skip : Nat) : List Bool := riceBits p.Method.toNat p.Order.toNat (planParts p d skip)
theorem parts_e (p : rice_Plan) (d : List Int) (skip : Nat) : partsN (d.length + skip) p.Order.toNat skip = (planParts p d skip).map Part.e := by
  unfold planParts partsN
  rw [List.map_map]
  rfl
theorem getD_eq {l : List Int} {i : Nat} {x : Int} (h : idx l (i : Int) = some x) : l.getD i 0 = x := by
  obtain ⟨_, _, h3⟩ := idx_some h
  simp only [Int.toNat_natCast] at h3
  simp [List.getD, h3]
theorem map_getD (l : List Int) (n : Nat) (h : l.length = n) : (List.range n).map (fun i => l.getD i 0) = l := by
  apply List.ext_getElem?
  intro i
  rw [List.getElem?_map]
  by_cases hi : i < n
  · rw [List.getElem?_range hi, List.getElem?_eq_getElem (by omega)]
    simp [List.getD, List.getElem?_eq_getElem (show i < l.length by omega)]
  · rw [List.getElem?_eq_none (by simp; omega), List.getElem?_eq_none (by omega)]
    rfl

section
variable {p : rice_Plan} {skip : Nat} {d : List Int} {z : Int}
theorem plan_all (hs : skip ≤ 32) (hd : d.length < 2 ^ 20) (hl : p.Params.length < 2 ^ 40) (hz : rice_Size p (skip : Int) d = some (z, 0)) :
    PlanOk p ((d.length + skip : Nat) : Int) (skip : Int) ∧ ((planParts p d skip).flatMap Part.xs = d) ∧ ((planParts p d skip).map Part.par = p.Params) ∧ ((planParts p d skip).map Part.n = p.Bits) ∧
    ∀ q, q ∈ planParts p d skip → (idx p.Params q.e.1 = some q.par ∧ idx p.Bits q.e.1 = some q.n ∧ sub d q.e.2.a0 q.e.2.a1 = some q.xs ∧ q.xs.length < 2 ^ 20 ∧ PartOk p.Method.toNat q.par q.n q.xs) ∧ W (q.e.2.a1 - q.e.2.a0) = (q.xs.length : Int) := by
  obtain ⟨z', c, h1, h2⟩ := size_spec p skip d hs (by omega) hl
  rw [hz] at h1
  cases h1
  obtain ⟨hk, hall⟩ := h2 rfl
  have hh := hk.head
  obtain ⟨o, ho⟩ := Int.eq_ofNat_of_zero_le hh.o1
  have hdv := hh.dv
  have hmo := hh.mo
  have hl1 := hk.len1
  have hl2 := hk.len2
  have ho2 := hh.o2
  have hpo : (2 : Nat) ^ p.Order.toNat ≤ 2 ^ 15 := pow_le (by omega)
  simp only [Int.toNat_natCast] at hdv hmo
  have hb : (d.length + skip) = 2 ^ p.Order.toNat * ((d.length + skip) / 2 ^ p.Order.toNat) := by have := Nat.div_add_mod (d.length + skip) (2 ^ p.Order.toNat); omega
  refine ⟨hk, ?_, ?_, ?_, fun q hq => ?_⟩
  · unfold planParts
    rw [List.flatMap_map]
    exact parts_all d ((d.length + skip) / 2 ^ p.Order.toNat) skip (2 ^ p.Order.toNat) hb
  · unfold planParts
    rw [List.map_map]
    exact map_getD _ _ hl1
  · unfold planParts
    rw [List.map_map]
    exact map_getD _ _ hl2
  · unfold planParts at hq
    obtain ⟨i, hi, rfl⟩ := List.mem_map.1 hq
    rw [List.mem_range] at hi
    obtain ⟨par, n, g1, g2, g3⟩ := hall i hi
    obtain ⟨k1, k2⟩ := part_sub (d := d) rfl hdv hmo hi
    have hxl : (partXs d ((d.length + skip) / 2 ^ p.Order.toNat) skip i).length ≤ d.length := by unfold partXs; simp; omega
    simp only [getD_eq g1, getD_eq g2]
    refine ⟨⟨g1, g2, k1, by omega, g3⟩, ?_⟩
    rw [k2, W_id (by omega) (by omega)]
theorem plan_len (hs : skip ≤ 32) (hd : d.length < 2 ^ 20) (hl : p.Params.length < 2 ^ 40) (hz : rice_Size p (skip : Int) d = some (z, 0)) :
    (planBits p d skip).length ≤ 6 + p.Params.length * 10 + d.length * 65568 := by
  obtain ⟨hk, h1, h2, h3, h4⟩ := plan_all hs hd hl hz
  obtain ⟨m, hm, hM⟩ := Method_nat hk.head
  have := parts_len (m := p.Method.toNat) (by omega) (planParts p d skip) fun q hq => (h4 q hq).1.2.2.2.2
  rw [h1] at this
  have e := congrArg List.length h2
  rw [List.length_map] at e
  unfold planBits riceBits
  simp only [List.length_append, bitsOf_length]
  omega
end
end Go.Vg
