/- DiskAllSurvive: for every input the law returns true (if all pending writes survive and none is torn, a crash changes nothing that is visible, and a second crash neither; a size of at most 300, at most 60 writes), and each argument reads afterwards as it read before. -/
import Derived.Test.YtnjjkobijjdnbaaM9k
import Derived.Test.YtnjjkobijjdnbaaM9l
set_option linter.unusedVariables false
set_option maxRecDepth 100000
namespace Go.Proofs.Ytnjjkobijjdnbaa
open Go Go.ChangeShapes Go.WideShapes Go.ChangeAt Go.RowKit
namespace D
theorem diskAllSurvive_holds : Rows.DiskAllSurviveSaid :=
  OpenClaim.holds_of_wide 9 Try.f9 rfl rfl rfl rfl rfl rfl rfl ⟨rfl, rfl, rfl, rfl, rfl⟩ rfl rfl rfl rfl rfl (by kernel_rfl) Try.func9 (by kernel_rfl)
    (of_decide_eq_true (by kernel_rfl)) (by unfold Func.isWrapper; first | (rw [if_pos (by decide +kernel)]; kernel_rfl) | (rw [if_neg (by decide +kernel)]; exact ⟨rfl, rfl⟩))
    (fun os started H enc _ => lift os started H enc (s := Rows.diskAllSurviveSpec) [.int .i64, .slice wt] (by kernel_rfl) Try.func9 (by kernel_rfl) (by kernel_rfl) (by kernel_rfl) rfl
      (fun ds hl => by match ds, hl with | [_, _], _ => rfl)
      (ChangeSpec.witness6 (enc := enc) (C := Try.checked) false ⟨#[], #[.int .i64 0, .slice none 0 0], []⟩ 8 (by kernel_rfl) (by kernel_rfl) (by kernel_rfl) (by kernel_rfl))
      (fun x hw => by
        obtain ⟨n, l, _⟩ := x
        obtain ⟨w, ⟨_, h⟩, _⟩ := hw
        exact law9 n l (wf_in w) (fun x hx => wf_in (h x hx).1)))
#print axioms diskAllSurvive_holds
end D
end Go.Proofs.Ytnjjkobijjdnbaa

