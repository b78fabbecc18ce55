/- Inputs' shapes, and what they are in the plain laws. -/
import Derived.Test.YtnapnedfhimikaaDoorF1
import Derived.Test.YtnapnedfhimikaaDoorVgX
set_option maxRecDepth 4000
set_option linter.all false
set_option linter.unusedVariables false
set_option linter.unusedSimpArgs false
namespace Go.Vg
open Go
abbrev shBytes : Sh := .sl (.int .u8)
abbrev shBlock : Sh := .pair (.int .i64) shBytes
def mkBlock (x : shBlock.T) : blocks_Block := ⟨x.1, x.2⟩
theorem len64 {s : Sh} {l : List s.T} {β : Type} {m : s.T → β} (h : V.wf (Sh.val (.sl s) l)) : (l.map m).length ≤ 9223372036854775807 := by
  have h : l.length ≤ LIM ∧ _ := h
  simpa [LIM] using h.1
end Go.Vg
