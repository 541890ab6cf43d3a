/- DiskNil: for every input the law returns true (on a nil disk every call returns ErrNil or a zero value), and each argument reads afterwards as it read before. -/
import Derived.Test.YtnjjkobijjdnbaaK4
import Derived.Test.YtnjjkobijjdnbaaK5
set_option linter.unusedVariables false
set_option maxRecDepth 100000
namespace Go.Proofs.Ytnjjkobijjdnbaa
open Go Go.ChangeShapes Go.WideShapes Go.ChangeAt Go.RowKit
namespace D
theorem diskNil_holds : Rows.DiskNilSaid :=
  OpenClaim.holds_of_wide 5 Try.f5 rfl rfl rfl rfl rfl rfl rfl ⟨rfl, rfl, rfl, rfl, rfl⟩ rfl rfl rfl rfl rfl (by kernel_rfl) Try.func5 (by kernel_rfl)
    (of_decide_eq_true (by kernel_rfl)) (by unfold Func.isWrapper; first | (rw [if_pos (by decide +kernel)]; kernel_rfl) | (rw [if_neg (by decide +kernel)]; exact ⟨rfl, rfl⟩))
    (fun os started H enc _ => lift os started H enc (s := Rows.diskNilSpec) [.int .i64, .int .i64, .str, .slice (.int .i64)] (by kernel_rfl) Try.func5 (by kernel_rfl) (by kernel_rfl) (by kernel_rfl) rfl
      (fun ds hl => by match ds, hl with | [_, _, _, _], _ => rfl)
      (ChangeSpec.witness6 (enc := enc) (C := Try.checked) false ⟨#[], #[.int .i64 0, .int .i64 0, .string ⟨#[]⟩, .slice none 0 0], []⟩ 8 (by kernel_rfl) (by kernel_rfl) (by kernel_rfl) (by kernel_rfl))
      (fun x hw => by
        obtain ⟨n, k, s, l, _⟩ := x
        obtain _ := hw
        exact law5 n k s l))
#print axioms diskNil_holds
end D
end Go.Proofs.Ytnjjkobijjdnbaa
