/- How two ranges compare, and what is needed of it to sort. -/
import Derived.Test.YtpoljomhfcmdoaaF1
set_option maxRecDepth 4000
set_option linter.all false
set_option linter.unusedVariables false
set_option linter.unusedSimpArgs false
namespace Go.Vg
open Go

theorem compare_eq (x y : Int) : cmp_Compare_int x y = some (if x < y then -1 else if x > y then 1 else 0) := by
  simp only [cmp_Compare_int, cmp_isNaN_int, Option.bind_some]
  have : (x != x) = false := by simp
  have h2 : (y != y) = false := by simp
  simp only [this, h2, Bool.false_eq_true, if_false, decide_eq_true_eq]
  split <;> rename_i h1
  · rfl
  · split <;> rfl
theorem or2_eq (a b : Int) : cmp_Or_int [a, b] = some (if a ≠ 0 then a else b) := by
  unfold cmp_Or_int iter
  refine iterN_mono (n := 4) (by unfold ROUNDS; omega) ?_
  have w1 : W 1 = 1 := by decide
  have w2 : W 2 = 2 := by decide
  by_cases h : a = 0
  · subst h
    by_cases h2 : b = 0
    · subst h2
      simp [iterN_succ, cmp_Or_int_L1, idx, w1, w2, cmp_Or_int_K1]
    · simp [iterN_succ, cmp_Or_int_L1, idx, w1, w2, h2]
  · simp [iterN_succ, cmp_Or_int_L1, idx, h]
/-- One range is ahead of another. -/
abbrev rless (x y : infer_Range) : Bool := decide (x.From < y.From ∨ x.From = y.From ∧ x.To < y.To)
theorem join_c2_eq (x y : infer_Range) : infer_Join_c2 x y = some (if x.From < y.From then -1 else if x.From > y.From then 1 else if x.To < y.To then -1 else if x.To > y.To then 1 else 0) := by
  simp only [infer_Join_c2, compare_eq, or2_eq, Option.bind_some]
  congr 1
  split
  · simp
  · split
    · simp
    · simp
theorem join_c2_lt (x y : infer_Range) : decide ((infer_Join_c2 x y).getD 0 < 0) = rless x y := by
  rw [join_c2_eq]
  simp only [Option.getD_some, rless]
  by_cases h1 : x.From < y.From
  · simp [h1]
  · by_cases h2 : x.From > y.From
    · simp [h1, h2]; omega
    · have : x.From = y.From := by omega
      by_cases h3 : x.To < y.To
      · simp [this, h3]
      · by_cases h4 : x.To > y.To
        · simp [this, h3, h4]
        · simp [this, h3, h4]
theorem sortRanges (l : List infer_Range) : sortG l infer_Join_c2 = if l.length < 4611686018427387904 then some (isort rless l) else none := by
  unfold sortG sortF
  simp only [join_c2_lt]
theorem rless_swo : Go.Sort.SWO (fun x y => decide ((infer_Join_c2 x y).getD 0 < 0)) := by
  simp only [join_c2_lt]
  refine ⟨fun x => ?_, fun x y z => ?_, fun x y z => ?_⟩ <;> simp only [rless, decide_eq_true_eq, decide_eq_false_iff_not] <;> omega
theorem rless_tot (x y : infer_Range) (h1 : ¬ (infer_Join_c2 x y).getD 0 < 0) (h2 : ¬ (infer_Join_c2 y x).getD 0 < 0) : x = y := by
  have h1 : rless x y = false := by rw [← join_c2_lt]; simpa using h1
  have h2 : rless y x = false := by rw [← join_c2_lt]; simpa using h2
  simp only [rless, decide_eq_false_iff_not] at h1 h2
  obtain ⟨a, b⟩ := x
  obtain ⟨a', b'⟩ := y
  simp only at h1 h2
  have : a = a' := by omega
  have : b = b' := by omega
  subst_vars; rfl
end Go.Vg
