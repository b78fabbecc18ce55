/- Inputs' shapes, and what they are in the plain laws. -/
import Derived.Test.YtpjbfealfmjddaaGreatDoorA7
import Derived.Test.YtpjbfealfmjddaaGreatDoorF1
set_option maxRecDepth 4000
set_option linter.all false
set_option linter.unusedVariables false
set_option linter.unusedSimpArgs false
namespace Go.Vg
open Go
abbrev shInts : Sh := .sl (.int .i64)
abbrev shLin : Sh := .pair (.int .i64) (.pair (.int .i64) shInts)
abbrev shRice : Sh := .pair (.int .i64) (.pair (.int .i64) (.pair shInts shInts))
abbrev shPlan : Sh := .pair (.int .i64) (.pair (.int .i64) (.pair (.int .i64) (.pair shLin shRice)))
def mkPlan (x : shPlan.T) : subframe_Plan := ⟨x.1, x.2.1, x.2.2.1, ⟨x.2.2.2.1.1, x.2.2.2.1.2.1, x.2.2.2.1.2.2⟩, ⟨x.2.2.2.2.1, x.2.2.2.2.2.1, x.2.2.2.2.2.2.1, x.2.2.2.2.2.2.2⟩⟩
end Go.Vg
