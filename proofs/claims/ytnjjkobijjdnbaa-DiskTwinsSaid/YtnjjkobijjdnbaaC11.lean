/- DiskTwins: for every input the law returns true (two disks are independent of each other; at most 30 writes on disks of at most 100 bytes are looked at, every other one on a second disk, and one disk alone does what the first does), and each argument reads afterwards as it read before. -/
import Derived.Test.YtnjjkobijjdnbaaK18
import Derived.Test.YtnjjkobijjdnbaaK5
set_option linter.unusedVariables false
set_option maxRecDepth 100000
namespace Go.Proofs.Ytnjjkobijjdnbaa
open Go Go.ChangeShapes Go.WideShapes Go.ChangeAt Go.RowKit
namespace D
theorem diskTwins_holds : Rows.DiskTwinsSaid :=
  OpenClaim.holds_of_wide 11 Try.f11 rfl rfl rfl rfl rfl rfl rfl ⟨rfl, rfl, rfl, rfl, rfl⟩ rfl rfl rfl rfl rfl (by kernel_rfl) Try.func11 (by kernel_rfl)
    (of_decide_eq_true (by kernel_rfl)) (by unfold Func.isWrapper; first | (rw [if_pos (by decide +kernel)]; kernel_rfl) | (rw [if_neg (by decide +kernel)]; exact ⟨rfl, rfl⟩))
    (fun os started H enc _ => lift os started H enc (s := Rows.diskTwinsSpec) [.int .i64, .slice wt] (by kernel_rfl) Try.func11 (by kernel_rfl) (by kernel_rfl) (by kernel_rfl) rfl
      (fun ds hl => by match ds, hl with | [_, _], _ => rfl)
      (ChangeSpec.witness6 (enc := enc) (C := Try.checked) false ⟨#[], #[.int .i64 0, .slice none 0 0], []⟩ 8 (by kernel_rfl) (by kernel_rfl) (by kernel_rfl) (by kernel_rfl))
      (fun x hw => by
        obtain ⟨n, l, _⟩ := x
        obtain ⟨w, ⟨_, h⟩, _⟩ := hw
        exact law11 n l (wf_in w) (fun x hx => wf_in (h x hx).1)))
#print axioms diskTwins_holds
end D
end Go.Proofs.Ytnjjkobijjdnbaa
