/- DiskCrashBytes: for every input the law returns true (after a crash every byte has its durable value, or the value of the last surviving write that covers it, and only the last survivor may be torn; a size of at most 100, at most 20 writes after a synced content), and each argument reads afterwards as it read before. -/
import Derived.Test.YtnjjkobijjdnbaaM8k
import Derived.Test.YtnjjkobijjdnbaaM8l
set_option linter.unusedVariables false
set_option maxRecDepth 100000
namespace Go.Proofs.Ytnjjkobijjdnbaa
open Go Go.ChangeShapes Go.WideShapes Go.ChangeAt Go.RowKit
namespace D
theorem diskCrashBytes_holds : Rows.DiskCrashBytesSaid :=
  OpenClaim.holds_of_wide 8 Try.f8 rfl rfl rfl rfl rfl rfl rfl ⟨rfl, rfl, rfl, rfl, rfl⟩ rfl rfl rfl rfl rfl (by kernel_rfl) Try.func8 (by kernel_rfl)
    (of_decide_eq_true (by kernel_rfl)) (by unfold Func.isWrapper; first | (rw [if_pos (by decide +kernel)]; kernel_rfl) | (rw [if_neg (by decide +kernel)]; exact ⟨rfl, rfl⟩))
    (fun os started H enc _ => lift os started H enc (s := Rows.diskCrashBytesSpec) [.int .i64, .slice wt, .slice .bool, .int .i64] (by kernel_rfl) Try.func8 (by kernel_rfl) (by kernel_rfl) (by kernel_rfl) rfl
      (fun ds hl => by match ds, hl with | [_, _, _, _], _ => rfl)
      (ChangeSpec.witness6 (enc := enc) (C := Try.checked) false ⟨#[], #[.int .i64 0, .slice none 0 0, .slice none 0 0, .int .i64 0], []⟩ 8 (by kernel_rfl) (by kernel_rfl) (by kernel_rfl) (by kernel_rfl))
      (fun x hw => by
        obtain ⟨n, l, ks, k, _⟩ := x
        obtain ⟨w, ⟨_, h⟩, _⟩ := hw
        exact law8 n l ks k (wf_in w) (fun x hx => wf_in (h x hx).1)))
#print axioms diskCrashBytes_holds
end D
end Go.Proofs.Ytnjjkobijjdnbaa

