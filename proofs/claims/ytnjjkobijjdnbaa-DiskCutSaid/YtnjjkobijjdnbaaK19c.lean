/- Package disk: a crash that the first so many writes survive, reckoned for each number of them. Written by wip/disk/crash.py. -/
import Derived.Test.YtnjjkobijjdnbaaK19b
set_option linter.unusedVariables false
set_option linter.unusedSimpArgs false
set_option maxRecDepth 100000
set_option maxHeartbeats 8000000
namespace Go.Proofs.Ytnjjkobijjdnbaa
open Go
namespace D
theorem crash_14 (n lf : Int) (dur vis b : List Int) (q : List (Ty.den wp)) : crash 14 n lf dur vis b q = crashE 14 n lf dur vis b q := by kernel_rfl
theorem crash_15 (n lf : Int) (dur vis b : List Int) (q : List (Ty.den wp)) : crash 15 n lf dur vis b q = crashE 15 n lf dur vis b q := by kernel_rfl
theorem crash_16 (n lf : Int) (dur vis b : List Int) (q : List (Ty.den wp)) : crash 16 n lf dur vis b q = crashE 16 n lf dur vis b q := by kernel_rfl
end D
end Go.Proofs.Ytnjjkobijjdnbaa

