/- Inputs' shapes, and what they are in the plain laws. -/
import Derived.Test.YtpdklmagncfhaaaDoorA7
import Derived.Test.YtpdklmagncfhaaaDoorF1
import Derived.Test.YtpdklmagncfhaaaDoorM1
set_option maxRecDepth 4000
set_option linter.all false
set_option linter.unusedVariables false
set_option linter.unusedSimpArgs false
namespace Go.Vg
open Go
abbrev shP : Sh := .pair (.int .i64) (.pair .str (.pair .str (.pair (.int .i64) (.pair (.int .i64) (.pair (.int .i64) (.pair (.int .i64) (.sl (.int .u8))))))))
def mkP (x : shP.T) : tags_Picture := ⟨x.1, x.2.1, x.2.2.1, x.2.2.2.1, x.2.2.2.2.1, x.2.2.2.2.2.1, x.2.2.2.2.2.2.1, x.2.2.2.2.2.2.2⟩
theorem isB_wf {l : List Int} (h : V.wf (Sh.val (.sl (.int .u8)) l)) : isB l := fun x hx => by
  have h : l.length ≤ LIM ∧ ∀ p, p ∈ l → V.wf (.int .u8 (.v p)) := h
  have := (has_iff _ _).1 (h.2 x hx)
  simp only [lo, hi, IE.den] at this
  omega
theorem isB_P {x : shP.T} (h : V.wf (Sh.val shP x)) : isB (mkP x).Data := isB_wf h.2.2.2.2.2.2.2.1
end Go.Vg
