/- Package disk: a crash that the first so many writes survive, reckoned for each number of them. Written by wip/disk/crash.py. -/
import Derived.Test.YtnjjkobijjdnbaaK19a
set_option linter.unusedVariables false
set_option linter.unusedSimpArgs false
set_option maxRecDepth 100000
set_option maxHeartbeats 8000000
namespace Go.Proofs.Ytnjjkobijjdnbaa
open Go
namespace D
theorem crash_9 (n lf : Int) (dur vis b : List Int) (q : List (Ty.den wp)) : crash 9 n lf dur vis b q = crashE 9 n lf dur vis b q := by kernel_rfl
theorem crash_10 (n lf : Int) (dur vis b : List Int) (q : List (Ty.den wp)) : crash 10 n lf dur vis b q = crashE 10 n lf dur vis b q := by kernel_rfl
theorem crash_11 (n lf : Int) (dur vis b : List Int) (q : List (Ty.den wp)) : crash 11 n lf dur vis b q = crashE 11 n lf dur vis b q := by kernel_rfl
theorem crash_12 (n lf : Int) (dur vis b : List Int) (q : List (Ty.den wp)) : crash 12 n lf dur vis b q = crashE 12 n lf dur vis b q := by kernel_rfl
theorem crash_13 (n lf : Int) (dur vis b : List Int) (q : List (Ty.den wp)) : crash 13 n lf dur vis b q = crashE 13 n lf dur vis b q := by kernel_rfl
end D
end Go.Proofs.Ytnjjkobijjdnbaa

