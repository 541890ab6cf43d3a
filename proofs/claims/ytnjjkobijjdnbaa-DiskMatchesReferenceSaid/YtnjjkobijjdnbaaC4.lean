/- DiskMatchesReference: for every input the law returns true (after every call of a sequence all results and the visible content agree with the reference; a size of at most 400, at most 60 arbitrary calls, strings cut to 300 bytes), and each argument reads afterwards as it read before. -/
import Derived.Test.YtnjjkobijjdnbaaM4l
import Derived.Test.YtnjjkobijjdnbaaM4m
set_option linter.unusedVariables false
set_option maxRecDepth 100000
namespace Go.Proofs.Ytnjjkobijjdnbaa
open Go Go.ChangeShapes Go.WideShapes Go.ChangeAt Go.RowKit
namespace D
theorem diskMatchesReference_holds : Rows.DiskMatchesReferenceSaid :=
  OpenClaim.holds_of_wide 4 Try.f4 rfl rfl rfl rfl rfl rfl rfl ⟨rfl, rfl, rfl, rfl, rfl⟩ rfl rfl rfl rfl rfl (by kernel_rfl) Try.func4 (by kernel_rfl)
    (of_decide_eq_true (by kernel_rfl)) (by unfold Func.isWrapper; first | (rw [if_pos (by decide +kernel)]; kernel_rfl) | (rw [if_neg (by decide +kernel)]; exact ⟨rfl, rfl⟩))
    (fun os started H enc _ => lift os started H enc (s := Rows.diskMatchesReferenceSpec) [.int .i64, .slice yt] (by kernel_rfl) Try.func4 (by kernel_rfl) (by kernel_rfl) (by kernel_rfl) rfl
      (fun ds hl => by match ds, hl with | [_, _], _ => rfl)
      (ChangeSpec.witness6 (enc := enc) (C := Try.checked) false ⟨#[], #[.int .i64 0, .slice none 0 0], []⟩ 8 (by kernel_rfl) (by kernel_rfl) (by kernel_rfl) (by kernel_rfl))
      (fun x hw => by
        obtain ⟨n, l, _⟩ := x
        obtain ⟨w, ⟨_, h⟩, _⟩ := hw
        exact SemF.weaken (law4 n l (wf_in w) (fun x hx => ⟨wf_in (h x hx).1, wf_in (h x hx).2.2.1⟩)) (fun _ _ h => by cases h; exact .sb _)))
#print axioms diskMatchesReference_holds
end D
end Go.Proofs.Ytnjjkobijjdnbaa

