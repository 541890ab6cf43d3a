/- Package unit: plain facts that the contracts need. -/
import Derived.Test.YtblnabilodbceaaDoorU2
set_option linter.unusedVariables false
set_option linter.unusedSimpArgs false
namespace Go.Proofs.YtblnabilodbceaaDoor
open Go
namespace U
theorem mixed : Tryd.prog.follows .mixedOrders = true := by kernel_rfl
theorem o0 : OrcOk Tryd.prog Γ orc0 := OrcOk.none
end U
end Go.Proofs.YtblnabilodbceaaDoor
