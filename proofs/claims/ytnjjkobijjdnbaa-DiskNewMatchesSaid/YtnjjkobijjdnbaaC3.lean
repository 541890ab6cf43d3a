/- DiskNewMatches: for every input the law returns true (New accepts exactly the sizes from 1 to 4194304, and a new disk has that size, no pending writes, and zero bytes), and each argument reads afterwards as it read before. -/
import Derived.Test.YtnjjkobijjdnbaaK4
import Derived.Test.YtnjjkobijjdnbaaK5
set_option linter.unusedVariables false
set_option maxRecDepth 100000
namespace Go.Proofs.Ytnjjkobijjdnbaa
open Go Go.ChangeShapes Go.WideShapes Go.ChangeAt Go.RowKit
namespace D
theorem diskNewMatches_holds : Rows.DiskNewMatchesSaid :=
  OpenClaim.holds_of_wide 3 Try.f3 rfl rfl rfl rfl rfl rfl rfl ⟨rfl, rfl, rfl, rfl, rfl⟩ rfl rfl rfl rfl rfl (by kernel_rfl) Try.func3 (by kernel_rfl)
    (of_decide_eq_true (by kernel_rfl)) (by unfold Func.isWrapper; first | (rw [if_pos (by decide +kernel)]; kernel_rfl) | (rw [if_neg (by decide +kernel)]; exact ⟨rfl, rfl⟩))
    (fun os started H enc _ => lift os started H enc (s := Rows.diskNewMatchesSpec) [.int .i64, .int .i64] (by kernel_rfl) Try.func3 (by kernel_rfl) (by kernel_rfl) (by kernel_rfl) rfl
      (fun ds hl => by match ds, hl with | [_, _], _ => rfl)
      (ChangeSpec.witness6 (enc := enc) (C := Try.checked) false ⟨#[], #[.int .i64 0, .int .i64 0], []⟩ 8 (by kernel_rfl) (by kernel_rfl) (by kernel_rfl) (by kernel_rfl))
      (fun x hw => by
        obtain ⟨n, k, _⟩ := x
        obtain ⟨_, w, _⟩ := hw
        exact law3 n k (wf_in w)))
#print axioms diskNewMatches_holds
end D
end Go.Proofs.Ytnjjkobijjdnbaa
