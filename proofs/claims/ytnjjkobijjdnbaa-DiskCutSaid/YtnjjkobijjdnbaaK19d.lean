/- Package disk: a crash that the first so many writes survive, reckoned for each number of them. Written by wip/disk/crash.py. -/
import Derived.Test.YtnjjkobijjdnbaaK19c
set_option linter.unusedVariables false
set_option linter.unusedSimpArgs false
set_option maxRecDepth 100000
set_option maxHeartbeats 8000000
namespace Go.Proofs.Ytnjjkobijjdnbaa
open Go
namespace D
theorem crash_17 (n lf : Int) (dur vis b : List Int) (q : List (Ty.den wp)) : crash 17 n lf dur vis b q = crashE 17 n lf dur vis b q := by kernel_rfl
theorem crash_18 (n lf : Int) (dur vis b : List Int) (q : List (Ty.den wp)) : crash 18 n lf dur vis b q = crashE 18 n lf dur vis b q := by kernel_rfl
theorem crash_19 (n lf : Int) (dur vis b : List Int) (q : List (Ty.den wp)) : crash 19 n lf dur vis b q = crashE 19 n lf dur vis b q := by kernel_rfl
theorem crash_all (n lf : Int) (dur vis b : List Int) (q : List (Ty.den wp)) : ∀ m : Nat, m < 20 → crash m n lf dur vis b q = crashE m n lf dur vis b q
  | 0, _ => crash_0 n lf dur vis b q
  | 1, _ => crash_1 n lf dur vis b q
  | 2, _ => crash_2 n lf dur vis b q
  | 3, _ => crash_3 n lf dur vis b q
  | 4, _ => crash_4 n lf dur vis b q
  | 5, _ => crash_5 n lf dur vis b q
  | 6, _ => crash_6 n lf dur vis b q
  | 7, _ => crash_7 n lf dur vis b q
  | 8, _ => crash_8 n lf dur vis b q
  | 9, _ => crash_9 n lf dur vis b q
  | 10, _ => crash_10 n lf dur vis b q
  | 11, _ => crash_11 n lf dur vis b q
  | 12, _ => crash_12 n lf dur vis b q
  | 13, _ => crash_13 n lf dur vis b q
  | 14, _ => crash_14 n lf dur vis b q
  | 15, _ => crash_15 n lf dur vis b q
  | 16, _ => crash_16 n lf dur vis b q
  | 17, _ => crash_17 n lf dur vis b q
  | 18, _ => crash_18 n lf dur vis b q
  | 19, _ => crash_19 n lf dur vis b q
  | m + 20, h => by omega
end D
end Go.Proofs.Ytnjjkobijjdnbaa

