/- Package unit: laws reckoned with the ways joined. -/
import Derived.Test.YtblnabilodbceaaDoorU4
import Derived.Test.YtblnabilodbceaaDoorDv21
set_option linter.unusedVariables false
namespace Go.Proofs.YtblnabilodbceaaDoor
open Go
namespace U
noncomputable def trJ (lv : List Nat) (f : FuncId) (args : List V) : Tr (V × St) := evFJ Tryd.prog Γ (cfD Tryd.prog Γ orc31 60 8) lv 60 f args [] []
end U
end Go.Proofs.YtblnabilodbceaaDoor
