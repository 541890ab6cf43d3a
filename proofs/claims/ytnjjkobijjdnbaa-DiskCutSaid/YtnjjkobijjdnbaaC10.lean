/- DiskCut: for every input the law returns true (after Cut(n), exactly n further writes succeed; then every call returns ErrPower until a crash, after which the survivors are there; a size of at most 100, n of at most 20, at most 40 writes), and each argument reads afterwards as it read before. -/
import Derived.Test.YtnjjkobijjdnbaaM10l
import Derived.Test.YtnjjkobijjdnbaaM10m
set_option linter.unusedVariables false
set_option maxRecDepth 100000
namespace Go.Proofs.Ytnjjkobijjdnbaa
open Go Go.ChangeShapes Go.WideShapes Go.ChangeAt Go.RowKit
namespace D
theorem diskCut_holds : Rows.DiskCutSaid :=
  OpenClaim.holds_of_wide 10 Try.f10 rfl rfl rfl rfl rfl rfl rfl ⟨rfl, rfl, rfl, rfl, rfl⟩ rfl rfl rfl rfl rfl (by kernel_rfl) Try.func10 (by kernel_rfl)
    (of_decide_eq_true (by kernel_rfl)) (by unfold Func.isWrapper; first | (rw [if_pos (by decide +kernel)]; kernel_rfl) | (rw [if_neg (by decide +kernel)]; exact ⟨rfl, rfl⟩))
    (fun os started H enc _ => lift os started H enc (s := Rows.diskCutSpec) [.int .i64, .int .i64, .slice wt] (by kernel_rfl) Try.func10 (by kernel_rfl) (by kernel_rfl) (by kernel_rfl) rfl
      (fun ds hl => by match ds, hl with | [_, _, _], _ => rfl)
      (ChangeSpec.witness6 (enc := enc) (C := Try.checked) false ⟨#[], #[.int .i64 0, .int .i64 0, .slice none 0 0], []⟩ 8 (by kernel_rfl) (by kernel_rfl) (by kernel_rfl) (by kernel_rfl))
      (fun x hw => by
        obtain ⟨n, k, l, _⟩ := x
        obtain ⟨w, w2, ⟨_, h⟩, _⟩ := hw
        exact law10 n k l (wf_in w) (wf_in w2) (fun x hx => wf_in (h x hx).1)))
#print axioms diskCut_holds
end D
end Go.Proofs.Ytnjjkobijjdnbaa

