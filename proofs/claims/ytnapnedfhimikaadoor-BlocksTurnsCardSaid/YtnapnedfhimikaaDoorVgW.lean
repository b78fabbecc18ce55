/- Tables of types, as a program has them. -/
import Derived.Test.YtnapnedfhimikaaDoorVgV
import Derived.KernelRfl
set_option maxRecDepth 4000
set_option linter.all false
set_option linter.unusedVariables false
set_option linter.unusedSimpArgs false
namespace Go.Vg
open Go

def tiOf (P : Program) (t : TypeId) : Option TI :=
  match P.info? t, P.underlying t with
  | some info, some desc => match info.zero with
    | some zv => some ⟨TD.of desc, info.size, info.bytes, zv.cells.toList.map constV⟩
    | none => none
  | _, _ => none
def tabOf (P : Program) : List Nat → Tab
  | [] => []
  | t :: r => match tiOf P t with
    | some ti => (t, ti) :: tabOf P r
    | none => tabOf P r
def fieldsOk (P : Program) : TypeDesc → Bool
  | .struct fs => fs.toList.all fun f => ((P.info? f.type).map (·.size)).isSome
  | _ => true
def tyOk (P : Program) (t : TypeId) : Bool :=
  match P.info? t, P.underlying t with
  | some info, some desc => match info.zero with
    | some zv => (eqN zv.cells.size info.size) && zv.cells.toList.all Value.oneCell' && fieldsOk P desc
    | none => true
  | _, _ => true
theorem tabOk_of {P : Program} : ∀ {ts : List Nat}, ts.all (tyOk P) = true → TabOk P (tabOf P ts)
  | [], _ => ⟨fun t ti h => by simp [tabOf, tlook] at h⟩
  | t :: r, h => by
    simp only [List.all_cons, Bool.and_eq_true] at h
    have ih := tabOk_of h.2
    simp only [tabOf]
    split
    · rename_i ti hti
      refine ⟨fun t' ti' h' => ?_⟩
      simp only [tlook] at h'
      cases hb : (eqN t t') with
      | false => rw [hb] at h'; exact ih.ok t' ti' h'
      | true =>
        rw [hb] at h'
        have e1 := eqN_true hb
        simp only [cond_true, Option.some.injEq] at h'
        subst h'
        rw [← e1]
        unfold tiOf at hti
        split at hti
        · rename_i info desc h1 h2
          split at hti
          · rename_i zv h3
            simp only [Option.some.injEq] at hti
            subst hti
            have hk := h.1
            unfold tyOk at hk
            rw [h1, h2] at hk
            simp only [h3, Bool.and_eq_true] at hk
            refine ⟨info, zv, desc, h1, h2, rfl, rfl, rfl, h3, rfl, eqN_true hk.1.1, fun v hv => ?_, fun fields hf f hff => ?_⟩
            · exact List.all_eq_true.1 hk.1.2 v (by simpa using hv)
            · subst hf
              exact List.all_eq_true.1 hk.2 f hff
          · cases hti
        · cases hti
    · exact ih

theorem wrap64 {x : Int} (h1 : -9223372036854775808 ≤ x) (h2 : x ≤ 9223372036854775807) : IntKind.i64.wrap x = x := wrap_id (by rw [has_iff]; exact ⟨h1, h2⟩)
theorem add64 {x y : Int} (h1 : -9223372036854775808 ≤ x + y) (h2 : x + y ≤ 9223372036854775807) : arD .add .i64 x y = x + y := wrap64 h1 h2
theorem sub64 {x y : Int} (h1 : -9223372036854775808 ≤ x - y) (h2 : x - y ≤ 9223372036854775807) : arD .sub .i64 x y = x - y := wrap64 h1 h2
theorem mul64 {x y : Int} (h1 : -9223372036854775808 ≤ x * y) (h2 : x * y ≤ 9223372036854775807) : arD .mul .i64 x y = x * y := wrap64 h1 h2

theorem lssT {a b : IE} (h : (BE.cmp .lss a b).den = true) : a.den < b.den := by simpa [BE.den, cmpD] using h
theorem lssF {a b : IE} (h : (BE.cmp .lss a b).den = false) : ¬ (a.den < b.den) := by simpa [BE.den, cmpD] using h
theorem leqT {a b : IE} (h : (BE.cmp .leq a b).den = true) : a.den ≤ b.den := by simpa [BE.den, cmpD] using h
theorem leqF {a b : IE} (h : (BE.cmp .leq a b).den = false) : ¬ (a.den ≤ b.den) := by simpa [BE.den, cmpD] using h
theorem gtrT {a b : IE} (h : (BE.cmp .gtr a b).den = true) : a.den > b.den := by simpa [BE.den, cmpD] using h
theorem gtrF {a b : IE} (h : (BE.cmp .gtr a b).den = false) : ¬ (a.den > b.den) := by simpa [BE.den, cmpD] using h
theorem geqT {a b : IE} (h : (BE.cmp .geq a b).den = true) : a.den ≥ b.den := by simpa [BE.den, cmpD] using h
theorem geqF {a b : IE} (h : (BE.cmp .geq a b).den = false) : ¬ (a.den ≥ b.den) := by simpa [BE.den, cmpD] using h
theorem eqlT {a b : IE} (h : (BE.cmp .eql a b).den = true) : a.den = b.den := by simpa [BE.den, cmpD] using h
theorem eqlF {a b : IE} (h : (BE.cmp .eql a b).den = false) : ¬ (a.den = b.den) := by simpa [BE.den, cmpD] using h
theorem neqT {a b : IE} (h : (BE.cmp .neq a b).den = true) : a.den ≠ b.den := by simpa [BE.den, cmpD] using h
theorem neqF {a b : IE} (h : (BE.cmp .neq a b).den = false) : ¬ (a.den ≠ b.den) := by simpa [BE.den, cmpD] using h

end Go.Vg
