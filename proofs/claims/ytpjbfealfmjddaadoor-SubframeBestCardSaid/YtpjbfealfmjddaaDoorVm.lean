/- That the code answers so, printed by a program. -/
import Derived.Test.YtpjbfealfmjddaaDoorF1
import Derived.Test.YtpjbfealfmjddaaDoorIt
import Derived.Test.YtpjbfealfmjddaaDoorProg
set_option maxRecDepth 4000
set_option linter.all false
set_option linter.unusedVariables false
set_option linter.unusedSimpArgs false
namespace Go.Proofs.YtpjbfealfmjddaaDoor
open Go Go.Vg
theorem Tryd_mixed : Tryd.prog.follows .mixedOrders = true := by kernel_rfl
end Go.Proofs.YtpjbfealfmjddaaDoor
