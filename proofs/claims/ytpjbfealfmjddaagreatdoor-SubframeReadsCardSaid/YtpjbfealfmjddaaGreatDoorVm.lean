/- That the code answers so, printed by a program. -/
import Derived.Test.YtpjbfealfmjddaaGreatDoorF1
import Derived.Test.YtpjbfealfmjddaaGreatDoorIt
import Derived.Test.YtpjbfealfmjddaaGreatDoorProg
set_option maxRecDepth 4000
set_option linter.all false
set_option linter.unusedVariables false
set_option linter.unusedSimpArgs false
namespace Go.Proofs.YtpjbfealfmjddaaGreatDoor
open Go Go.Vg
theorem Tryz_mixed : Tryz.prog.follows .mixedOrders = true := by kernel_rfl
end Go.Proofs.YtpjbfealfmjddaaGreatDoor
