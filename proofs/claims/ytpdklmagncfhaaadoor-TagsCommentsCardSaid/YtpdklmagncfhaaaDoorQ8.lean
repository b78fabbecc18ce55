/- Inputs' shapes, and what they are in the plain laws. -/
import Derived.Test.YtpdklmagncfhaaaDoorA7
import Derived.Test.YtpdklmagncfhaaaDoorF1
import Derived.Test.YtpdklmagncfhaaaDoorM1
set_option maxRecDepth 4000
set_option linter.all false
set_option linter.unusedVariables false
set_option linter.unusedSimpArgs false
namespace Go.Vg
open Go
abbrev shC : Sh := .pair .str (.sl .str)
def mkC (x : shC.T) : tags_Comments := ⟨x.1, x.2⟩
theorem isB_wf {l : List Int} (h : V.wf (Sh.val (.sl (.int .u8)) l)) : isB l := fun x hx => by
  have h : l.length ≤ LIM ∧ ∀ p, p ∈ l → V.wf (.int .u8 (.v p)) := h
  have := (has_iff _ _).1 (h.2 x hx)
  simp only [lo, hi, IE.den] at this
  omega
theorem lenC {x : shC.T} (h : V.wf (Sh.val shC x)) : (mkC x).L.length ≤ 9223372036854775807 := by
  have h : V.wf (.str (.v x.1)) ∧ V.wf (Sh.val (.sl .str) x.2) ∧ True := h
  have h2 : x.2.length ≤ LIM ∧ _ := h.2.1
  exact h2.1
end Go.Vg
