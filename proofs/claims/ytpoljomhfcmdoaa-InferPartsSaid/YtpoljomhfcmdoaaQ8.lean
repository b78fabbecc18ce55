/- Inputs' shapes, and what they are in the plain laws. -/
import Derived.Test.YtpoljomhfcmdoaaQ4
import Derived.Test.YtpoljomhfcmdoaaQ7
import Derived.Test.YtpoljomhfcmdoaaVgX
set_option maxRecDepth 4000
set_option linter.all false
set_option linter.unusedVariables false
set_option linter.unusedSimpArgs false
namespace Go.Vg
open Go
abbrev shParams : Sh := .pair (.int .i64) (.pair (.int .i64) (.int .i64))
abbrev shGuess : Sh := .pair shParams (.pair .bool (.int .i64))
abbrev shCand : Sh := .pair shParams (.pair (.int .i64) (.pair (.int .i64) (.pair (.int .i64) (.pair (.int .i64) .bool))))
abbrev shU : Sh := .int .u8
abbrev shSum : Sh := .pair shU (.pair shU (.pair shU (.pair shU (.pair shU (.pair shU (.pair shU (.pair shU (.pair shU (.pair shU (.pair shU (.pair shU (.pair shU (.pair shU (.pair shU shU))))))))))))))
abbrev shInfo : Sh := .pair shParams (.pair (.int .i64) (.pair (.int .i64) (.pair (.int .i64) (.pair (.int .i64) (.pair (.int .i64) shSum)))))
abbrev shRange : Sh := .pair (.int .i64) (.int .i64)
def mkRange (x : shRange.T) : infer_Range := ⟨x.1, x.2⟩
def mkParams (x : shParams.T) : api_Params := ⟨x.1, x.2.1, x.2.2⟩
def mkGuess (x : shGuess.T) : chain_Guess := ⟨mkParams x.1, x.2.1, x.2.2⟩
def mkCand (x : shCand.T) : chain_Cand := ⟨mkParams x.1, x.2.1, x.2.2.1, x.2.2.2.1, x.2.2.2.2.1, x.2.2.2.2.2⟩
def mkSum (y : shSum.T) : Nat → Int := arrn [y.1, y.2.1, y.2.2.1, y.2.2.2.1, y.2.2.2.2.1, y.2.2.2.2.2.1, y.2.2.2.2.2.2.1, y.2.2.2.2.2.2.2.1, y.2.2.2.2.2.2.2.2.1, y.2.2.2.2.2.2.2.2.2.1, y.2.2.2.2.2.2.2.2.2.2.1, y.2.2.2.2.2.2.2.2.2.2.2.1, y.2.2.2.2.2.2.2.2.2.2.2.2.1, y.2.2.2.2.2.2.2.2.2.2.2.2.2.1, y.2.2.2.2.2.2.2.2.2.2.2.2.2.2.1, y.2.2.2.2.2.2.2.2.2.2.2.2.2.2.2]
def mkInfo (x : shInfo.T) : info_Info := ⟨mkParams x.1, x.2.1, x.2.2.1, x.2.2.2.1, x.2.2.2.2.1, x.2.2.2.2.2.1, mkSum x.2.2.2.2.2.2⟩
theorem lo64 {n : Int} (h : V.wf (Sh.val (.int .i64) n)) : -9223372036854775808 ≤ n := by
  have : -9223372036854775808 ≤ n ∧ n ≤ 9223372036854775807 := by
    have h : IntKind.i64.has n := h
    rw [has_iff] at h; exact h
  exact this.1
theorem len64 {s : Sh} {l : List s.T} {β : Type} {m : s.T → β} (h : V.wf (Sh.val (.sl s) l)) : (l.map m).length ≤ 9223372036854775807 := by
  have h : l.length ≤ LIM ∧ _ := h
  simpa [LIM] using h.1
end Go.Vg
