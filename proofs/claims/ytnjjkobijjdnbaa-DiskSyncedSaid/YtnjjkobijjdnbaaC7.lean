/- DiskSynced: for every input the law returns true (what was visible at the last Sync survives a crash in which no write survives; at most 60 writes on a disk of at most 300 bytes are looked at, all of them made to fit), and each argument reads afterwards as it read before. -/
import Derived.Test.YtnjjkobijjdnbaaK14
import Derived.Test.YtnjjkobijjdnbaaK5
set_option linter.unusedVariables false
set_option maxRecDepth 100000
namespace Go.Proofs.Ytnjjkobijjdnbaa
open Go Go.ChangeShapes Go.WideShapes Go.ChangeAt Go.RowKit
namespace D
theorem diskSynced_holds : Rows.DiskSyncedSaid :=
  OpenClaim.holds_of_wide 7 Try.f7 rfl rfl rfl rfl rfl rfl rfl ⟨rfl, rfl, rfl, rfl, rfl⟩ rfl rfl rfl rfl rfl (by kernel_rfl) Try.func7 (by kernel_rfl)
    (of_decide_eq_true (by kernel_rfl)) (by unfold Func.isWrapper; first | (rw [if_pos (by decide +kernel)]; kernel_rfl) | (rw [if_neg (by decide +kernel)]; exact ⟨rfl, rfl⟩))
    (fun os started H enc _ => lift os started H enc (s := Rows.diskSyncedSpec) [.int .i64, .slice wt, .int .i64] (by kernel_rfl) Try.func7 (by kernel_rfl) (by kernel_rfl) (by kernel_rfl) rfl
      (fun ds hl => by match ds, hl with | [_, _, _], _ => rfl)
      (ChangeSpec.witness6 (enc := enc) (C := Try.checked) false ⟨#[], #[.int .i64 0, .slice none 0 0, .int .i64 0], []⟩ 8 (by kernel_rfl) (by kernel_rfl) (by kernel_rfl) (by kernel_rfl))
      (fun x hw => by
        obtain ⟨n, l, k, _⟩ := x
        obtain ⟨w, ⟨_, h⟩, _⟩ := hw
        exact law7 n k l (wf_in w) (fun x hx => wf_in (h x hx).1)))
#print axioms diskSynced_holds
end D
end Go.Proofs.Ytnjjkobijjdnbaa
