/- Inputs' shapes, and what they are in the plain laws. -/
import Derived.Test.YtpdklmagncfhaaaDoorA7
import Derived.Test.YtpdklmagncfhaaaDoorF1
import Derived.Test.YtpdklmagncfhaaaDoorM1
set_option maxRecDepth 4000
set_option linter.all false
set_option linter.unusedVariables false
set_option linter.unusedSimpArgs false
namespace Go.Vg
open Go
theorem isB_wf {l : List Int} (h : V.wf (Sh.val (.sl (.int .u8)) l)) : isB l := fun x hx => by
  have h : l.length ≤ LIM ∧ ∀ p, p ∈ l → V.wf (.int .u8 (.v p)) := h
  have := (has_iff _ _).1 (h.2 x hx)
  simp only [lo, hi, IE.den] at this
  omega
end Go.Vg
