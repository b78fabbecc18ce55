/- Inputs' shapes, and what they are in the plain laws. -/
import Derived.Test.YthnbhhifehkggaaPj
import Derived.Test.YthnbhhifehkggaaA7
set_option maxRecDepth 4000
set_option linter.all false
set_option linter.unusedVariables false
set_option linter.unusedSimpArgs false
namespace Go.Vg
open Go
abbrev shParams : Sh := .pair (.int .i64) (.pair (.int .i64) (.int .i64))
abbrev shGuess : Sh := .pair shParams (.pair .bool (.int .i64))
abbrev shCand : Sh := .pair shParams (.pair (.int .i64) (.pair (.int .i64) (.pair (.int .i64) (.pair (.int .i64) .bool))))
def mkParams (x : shParams.T) : api_Params := ⟨x.1, x.2.1, x.2.2⟩
def mkGuess (x : shGuess.T) : chain_Guess := ⟨mkParams x.1, x.2.1, x.2.2⟩
def mkCand (x : shCand.T) : chain_Cand := ⟨mkParams x.1, x.2.1, x.2.2.1, x.2.2.2.1, x.2.2.2.2.1, x.2.2.2.2.2⟩
end Go.Vg
