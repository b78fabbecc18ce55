/- What Join and Missing answer. -/
import Derived.Test.YtpoljomhfcmdoaaQ1
set_option maxRecDepth 4000
set_option linter.all false
set_option linter.unusedVariables false
set_option linter.unusedSimpArgs false
namespace Go.Vg
open Go

def B41 : Int := 2199023255552
/-- No number is great. -/
def Lim (l : List infer_Range) : Prop := ∀ r, r ∈ l → -B41 ≤ r.From ∧ r.From ≤ B41 ∧ -B41 ≤ r.To ∧ r.To ≤ B41
theorem Lim.wsub {l : List infer_Range} (h : Lim l) {r : infer_Range} (hr : r ∈ l) : W (r.To - r.From) = r.To - r.From := by
  have := h r hr; unfold B41 at this; exact W_id (by omega) (by omega)
theorem len_eq {r : infer_Range} (h : W (r.To - r.From) = r.To - r.From) : infer_Range_Len r = some (max 0 (r.To - r.From)) := by
  simp only [infer_Range_Len, h]
  congr 1
  split <;> omega
def emp (r : infer_Range) : Bool := decide (r.To ≤ r.From)
theorem join_c1_eq {r : infer_Range} (h : W (r.To - r.From) = r.To - r.From) : infer_Join_c1 r = some (emp r) := by
  simp only [infer_Join_c1, len_eq h, Option.bind_some, emp]
  congr 1
  rw [Bool.eq_iff_iff]
  simp only [beq_iff_eq, decide_eq_true_eq]
  omega

section
variable {g : infer_Range → Option Bool} {p : infer_Range → Bool} {l : List infer_Range}
theorem indexFunc_eq (hg : ∀ r, r ∈ l → g r = some (p r)) (hl : l.length ≤ 100000) :
    ∃ i : Int, slices_IndexFunc_sinfer_Range_infer_Range l g = some i ∧ ((i = -1 ∧ l.filter (fun r => !p r) = l) ∨ ∃ k : Nat, i = k ∧ k < l.length ∧ (l.take (k + 1)).filter (fun r => !p r) = l.take k) := by
  unfold slices_IndexFunc_sinfer_Range_infer_Range
  refine iter_of (fun i : Int => ∃ k : Nat, i = k ∧ k ≤ l.length ∧ (l.take k).filter (fun r => !p r) = l.take k) (fun i => (l.length - i).toNat) _ (fun i hi => ?_) ⟨0, rfl, by omega, by simp⟩ (lt_ROUNDS (by omega))
  obtain ⟨k, rfl, hk, hf⟩ := hi
  simp only [slices_IndexFunc_sinfer_Range_infer_Range_L1]
  by_cases h : k < l.length
  · rw [if_pos (by simpa using h)]
    have e1 : l[k]? = some l[k] := List.getElem?_eq_getElem h
    rw [idx_ok e1]
    simp only [Option.bind_some, hg _ (List.getElem_mem h)]
    have e2 : l.take (k + 1) = l.take k ++ [l[k]] := by rw [List.take_add_one, e1]; rfl
    cases hp : p l[k] with
    | true =>
      right
      refine ⟨_, rfl, .inr ⟨k, rfl, h, ?_⟩⟩
      rw [e2, List.filter_append, hf]; simp [hp]
    | false =>
      left
      refine ⟨_, rfl, ⟨k + 1, ?_, by omega, ?_⟩, ?_⟩
      · rw [W_id (by omega) (by omega)]; omega
      · rw [e2, List.filter_append, hf]; simp [hp]
      · rw [W_id (by omega) (by omega)]; omega
  · rw [if_neg (by simpa using h)]
    right
    refine ⟨_, rfl, .inl ⟨rfl, ?_⟩⟩
    rwa [List.take_of_length_le (by omega)] at hf
theorem deleteFunc_eq (hg : ∀ r, r ∈ l → g r = some (p r)) (hl : l.length ≤ 100000) : slices_DeleteFunc_sinfer_Range_infer_Range l g = some (l.filter fun r => !p r) := by
  unfold slices_DeleteFunc_sinfer_Range_infer_Range
  obtain ⟨i, h1, h2⟩ := indexFunc_eq hg hl
  rw [h1, Option.bind_some]
  rcases h2 with ⟨rfl, h2⟩ | ⟨k, rfl, hk, h2⟩
  · rw [if_pos (by simp), h2]
  · rw [if_neg (by simp), W_id (by omega) (by omega)]
    refine iter_eq (fun a : Int × Int × List infer_Range => ∃ i j : Nat, a.1 = i ∧ a.2.1 = j ∧ i < j ∧ j ≤ l.length ∧ a.2.2.length = l.length ∧ a.2.2.take i = (l.take j).filter (fun r => !p r) ∧ a.2.2.drop j = l.drop j) (fun a => (l.length - a.2.1).toNat) _ (fun a ha => ?_)
      ⟨k, k + 1, rfl, by simp only; omega, by omega, by omega, rfl, h2.symm, rfl⟩ (lt_ROUNDS (by simp only; omega))
    obtain ⟨i', j', m⟩ := a
    obtain ⟨i, j, rfl, rfl, hij, hj, hm, ht, hd⟩ := ha
    simp only at hm ht hd
    simp only [slices_DeleteFunc_sinfer_Range_infer_Range_L1]
    by_cases h : j < l.length
    · left
      rw [if_pos (by simp; omega), need_ok (by simp), need_ok (by simp; omega)]
      have e0 : m[j]? = l[j]? := by
        have := congrArg (fun q => q[0]?) hd
        simpa using this
      have e1 : m[j]? = some l[j] := by rw [e0]; exact List.getElem?_eq_getElem h
      have e2 : l.take (j + 1) = l.take j ++ [l[j]] := by rw [List.take_add_one, List.getElem?_eq_getElem h]; rfl
      rw [idx_ok e1]
      simp only [Option.bind_some, hg _ (List.getElem_mem h)]
      cases hp : p l[j] with
      | true =>
        rw [if_neg (by simp)]
        simp only [slices_DeleteFunc_sinfer_Range_infer_Range_K2]
        refine ⟨_, rfl, ⟨i, j + 1, rfl, ?_, by omega, by omega, hm, ?_, ?_⟩, ?_⟩
        · simp only; rw [W_id (by omega) (by omega)]; omega
        · simp only; rw [ht, e2, List.filter_append]; simp [hp]
        · simp only; rw [← List.drop_drop, ← List.drop_drop, hd]
        · simp only; rw [W_id (by omega) (by omega)]; omega
      | false =>
        rw [if_pos (by simp), need_ok (by simp), need_ok (by simp; omega)]
        simp only [upd, Option.bind_some, slices_DeleteFunc_sinfer_Range_infer_Range_K2, Int.toNat_natCast]
        refine ⟨_, rfl, ⟨i + 1, j + 1, ?_, ?_, by omega, by omega, by simpa using hm, ?_, ?_⟩, ?_⟩
        · simp only; rw [W_id (by omega) (by omega)]; omega
        · simp only; rw [W_id (by omega) (by omega)]; omega
        · simp only
          rw [e2, List.filter_append, ← ht, List.take_add_one, List.take_set_of_le (by omega), List.getElem?_set_self (by omega)]
          simp [hp]
        · simp only
          rw [List.drop_set_of_lt (by omega), ← List.drop_drop, ← List.drop_drop, hd]
        · simp only; rw [W_id (by omega) (by omega)]; omega
    · right
      rw [if_neg (by simp; omega)]
      have hjl : j = l.length := by omega
      subst hjl
      have ht' : m.take i = l.filter fun r => !p r := by rw [ht, List.take_of_length_le (by omega)]
      have s1 : sub m (i : Int) ((m.length : Nat) : Int) = some (m.drop i) := by
        rw [sub_ok (by omega) (by omega), List.take_of_length_le (by simp)]
      simp only [slices_DeleteFunc_sinfer_Range_infer_Range_K1]
      rw [s1, Option.bind_some, if_pos (by simp; omega)]
      have hc : clr m (i : Int) ((m.length : Int) - i) ⟨0, 0⟩ = some (m.take i ++ List.replicate (m.length - i) ⟨0, 0⟩) := by
        unfold clr
        have e : ((m.length : Int) - i).toNat = m.length - i := by omega
        rw [if_pos ⟨by omega, by omega⟩, e]
        congr 2
        rw [Int.toNat_natCast, List.drop_of_length_le (by omega), List.append_nil]
      rw [hc, Option.bind_some]
      have s2 : sub (m.take i ++ List.replicate (m.length - i) (⟨0, 0⟩ : infer_Range)) 0 (i : Int) = some (m.take i) := by
        have := sub_ok (l := m.take i ++ List.replicate (m.length - i) (⟨0, 0⟩ : infer_Range)) (i := 0) (j := i) (by omega) (by simp; omega)
        rw [show ((0 : Nat) : Int) = 0 from rfl] at this
        rw [this]
        simp only [List.drop_zero, Nat.sub_zero]
        rw [List.take_append_of_le_length (by simp; omega), List.take_take]
        congr 2; omega
      rw [s2, Option.bind_some, ht']
      rfl
end

/-- What Join answers: ranges that rise, of the same samples. -/
theorem join_spec {l : List infer_Range} (hl : l.length ≤ 100000) (hb : Lim l) : ∃ j, infer_Join l = some j ∧ Rise j ∧ (∀ x, mem x j ↔ mem x l) ∧ j.length ≤ l.length := by
  unfold infer_Join
  have e0 : slices_Clone_sinfer_Range_infer_Range l = some l := by
    unfold slices_Clone_sinfer_Range_infer_Range
    rw [app_ok (by simp; omega)]; rfl
  rw [e0, Option.bind_some, deleteFunc_eq (p := emp) (fun r hr => join_c1_eq (hb.wsub hr)) hl, Option.bind_some, sortRanges]
  have hfl : (l.filter fun r => !emp r).length ≤ l.length := List.length_filter_le _ _
  rw [if_pos (by omega), Option.bind_some]
  have hperm := isort_perm rless (l.filter fun r => !emp r)
  have hord := isort_ord rless (fun x y => by simp only [rless, decide_eq_true_eq, decide_eq_false_iff_not]; omega) (fun x y z => by simp only [rless, decide_eq_false_iff_not]; omega) (l.filter fun r => !emp r)
  generalize isort rless (l.filter fun r => !emp r) = s at hperm hord
  have hslen : s.length ≤ l.length := by rw [hperm.length_eq]; exact hfl
  have hs0 : ∀ r, r ∈ s → r.From < r.To := fun r hr => by
    have := (List.mem_filter.1 (hperm.mem_iff.1 hr)).2
    simp only [emp, Bool.not_eq_true', decide_eq_false_iff_not] at this
    omega
  have hsl : ∀ x, mem x s ↔ mem x l := fun x => by
    simp only [mem]
    constructor
    · rintro ⟨r, hr, hx⟩
      exact ⟨r, (List.mem_filter.1 (hperm.mem_iff.1 hr)).1, hx⟩
    · rintro ⟨r, hr, hx⟩
      refine ⟨r, hperm.mem_iff.2 (List.mem_filter.2 ⟨hr, ?_⟩), hx⟩
      simp only [emp, Bool.not_eq_true', decide_eq_false_iff_not]
      have := hx.1; have := hx.2; omega
  clear hb e0 hfl hperm
  obtain ⟨j, h1, h2, h3, h4⟩ : ∃ r, iter (infer_Join_L1 s) (0, []) = some r ∧ Rise r ∧ (∀ x, mem x r ↔ mem x s) ∧ r.length ≤ s.length := by
    refine iter_of (fun a : Int × List infer_Range => ∃ k : Nat, a.1 = k ∧ k ≤ s.length ∧ Rise a.2 ∧ (∀ x, mem x a.2 ↔ mem x (s.take k)) ∧ a.2.length ≤ k ∧ ∀ q, q ∈ s.drop k → ∀ r, r ∈ a.2 → r.From ≤ q.From) (fun a => (s.length - a.1).toNat) _ (fun a ha => ?_)
      ⟨0, rfl, by omega, trivial, fun x => by simp, by simp, fun q _ r hr => by simp at hr⟩ (lt_ROUNDS (by simp; omega))
    obtain ⟨k', out⟩ := a
    obtain ⟨k, rfl, hk, hR, hM, hL, hD⟩ := ha
    simp only at hR hM hL hD
    simp only [infer_Join_L1]
    by_cases h : k < s.length
    · left
      rw [if_pos (by simpa using h), need_ok (by simp), need_ok (by simpa using h)]
      have e1 : s[k]? = some s[k] := List.getElem?_eq_getElem h
      rw [idx_ok e1, Option.bind_some]
      generalize hp : s[k] = p at *
      have e2 : s.take (k + 1) = s.take k ++ [p] := by rw [List.take_add_one, e1]; rfl
      have e3 : s.drop k = p :: s.drop (k + 1) := by rw [← hp]; exact List.drop_eq_getElem_cons h
      have hp0 := hs0 p (by rw [← hp]; exact List.getElem_mem h)
      have hnext : ∀ q, q ∈ s.drop (k + 1) → p.From ≤ q.From := fun q hq => by
        have h0 : Ord rless (s.drop k) := hord.sublist (List.drop_sublist k s)
        rw [e3] at h0
        have := (List.pairwise_cons.1 h0).1 q hq
        simp only [rless, decide_eq_false_iff_not] at this
        omega
      have hmt : ∀ out' : List infer_Range, (∀ x, mem x out' ↔ mem x out ∨ inR x p) → ∀ x, mem x out' ↔ mem x (s.take (k + 1)) := fun out' ho x => by
        rw [ho, e2, mem_append, hM, mem_one]
      rcases List.eq_nil_or_concat out with rfl | ⟨init, last, rfl⟩
      · rw [if_neg (by simp), app_ok (by simp), Option.bind_some]
        simp only [infer_Join_K2]
        refine ⟨_, rfl, ⟨k + 1, ?_, by omega, ⟨hp0, fun q hq => by simp at hq, trivial⟩, hmt _ fun x => by rw [mem_append, mem_one], by simp, fun q hq r hr => ?_⟩, ?_⟩
        · simp only; rw [W_id (by omega) (by omega)]; omega
        · simp only [List.nil_append, List.mem_singleton] at hr; subst hr; exact hnext q hq
        · simp only; rw [W_id (by omega) (by omega)]; omega
      · simp only [List.concat_eq_append] at hR hM hL hD hmt ⊢
        have hlast := hD p (by rw [e3]; exact List.mem_cons_self) last (by simp)
        rw [rise_snoc] at hR
        obtain ⟨r1, r2, r3⟩ := hR
        rw [if_pos (by simp)]
        have hW : W (((init ++ [last]).length : Int) - 1) = (init.length : Nat) := by
          simp only [List.length_append, List.length_cons, List.length_nil] at *
          rw [W_id (by omega) (by omega)]; omega
        rw [hW, need_ok (by simp), need_ok (by simp; omega), idx_ok (show (init ++ [last])[init.length]? = some last by simp), Option.bind_some]
        by_cases hc : p.From ≤ last.To
        · rw [if_pos (by simpa using hc), need_ok (by simp), need_ok (by simp; omega), Option.bind_some, need_ok (by simp), need_ok (by simp; omega)]
          have hu : updf (init ++ [last]) (init.length : Int) (fun q11 => (⟨q11.From, (if p.To > last.To then p.To else last.To)⟩ : infer_Range)) = some (init ++ [⟨last.From, if p.To > last.To then p.To else last.To⟩]) := by
            unfold updf
            rw [idx_ok (show (init ++ [last])[init.length]? = some last by simp)]
            simp
          rw [hu, Option.bind_some]
          simp only [infer_Join_K2]
          have hto : last.To ≤ (if p.To > last.To then p.To else last.To) ∧ p.To ≤ (if p.To > last.To then p.To else last.To) ∧ ((if p.To > last.To then p.To else last.To) = p.To ∨ (if p.To > last.To then p.To else last.To) = last.To) := by split <;> omega
          generalize (if p.To > last.To then p.To else last.To) = T at hto
          refine ⟨_, rfl, ⟨k + 1, ?_, by omega, (rise_snoc _ _).2 ⟨r1, by simp only; omega, r3⟩, hmt _ fun x => ?_, by simp at hL ⊢; omega, fun q hq r hr => ?_⟩, ?_⟩
          · simp only; rw [W_id (by omega) (by omega)]; omega
          · rw [mem_append, mem_append, mem_one, mem_one]
            simp only [inR]
            constructor
            · rintro (hx | hx)
              · exact .inl (.inl hx)
              · by_cases hx2 : x < last.To
                · exact .inl (.inr ⟨hx.1, hx2⟩)
                · right; omega
            · rintro ((hx | hx) | hx)
              · exact .inl hx
              · right; omega
              · right; omega
          · simp only [List.mem_append, List.mem_singleton] at hr
            have := hnext q hq
            rcases hr with hr | rfl
            · have := r3 r hr; have := rise_ne r1 hr; omega
            · simp only; omega
          · simp only; rw [W_id (by omega) (by omega)]; omega
        · rw [if_neg (by simpa using hc), app_ok (by simp at hL ⊢; omega), Option.bind_some]
          simp only [infer_Join_K2]
          refine ⟨_, rfl, ⟨k + 1, ?_, by omega, (rise_snoc _ _).2 ⟨(rise_snoc _ _).2 ⟨r1, r2, r3⟩, hp0, fun q hq => ?_⟩, hmt _ fun x => by rw [mem_append, mem_one], by simp at hL ⊢; omega, fun q hq r hr => ?_⟩, ?_⟩
          · simp only; rw [W_id (by omega) (by omega)]; omega
          · simp only [List.mem_append, List.mem_singleton] at hq
            rcases hq with hq | rfl
            · have := r3 q hq; omega
            · omega
          · have := hnext q hq
            rcases List.mem_append.1 hr with hr | hr
            · have := hD p (by rw [e3]; exact List.mem_cons_self) r hr; omega
            · simp only [List.mem_singleton] at hr; subst hr; omega
          · simp only; rw [W_id (by omega) (by omega)]; omega
    · right
      rw [if_neg (by simpa using h)]
      have : k = s.length := by omega
      subst this
      refine ⟨_, rfl, hR, fun x => ?_, hL⟩
      rw [hM, List.take_of_length_le (by omega)]
  exact ⟨j, h1, h2, fun x => (h3 x).trans (hsl x), by omega⟩
end Go.Vg
