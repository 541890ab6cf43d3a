/- TallySure: for every input the law returns true (whatever votes come in addition, as long as no count falls and no district has more votes than it can have, the candidate that is sure has the most votes of all, and stays sure, and the rest does not grow: a tally, and at most 30 further returns, that integers determine), and each argument reads afterwards as it read before. -/
import Derived.Test.YtofbchcclkejgaaTSn
import Derived.Test.YtofbchcclkejgaaTSo
set_option linter.unusedVariables false
set_option maxRecDepth 100000
namespace Go.Proofs.Ytofbchcclkejgaa
open Go Go.ChangeShapes Go.WideShapes Go.ChangeAt Go.RowKit
namespace T
theorem wf_five {y : Ty.den five} (h : Ty.wf five y) : okF5 y = true := by
  obtain ⟨h1, h2, h3, h4, h5, _⟩ := h
  unfold okF5
  rw [wf_in h1, wf_in h2, wf_in h3, wf_in h4, wf_in h5]
  rfl
theorem tallySure_holds : Rows.TallySureSaid :=
  OpenClaim.holds_of_wide 5 Try.f5 rfl rfl rfl rfl rfl rfl rfl ⟨rfl, rfl, rfl, rfl, rfl⟩ rfl rfl rfl rfl rfl (by kernel_rfl) Try.func5 (by kernel_rfl)
    (of_decide_eq_true (by kernel_rfl)) (by unfold Func.isWrapper; first | (rw [if_pos (by decide +kernel)]; kernel_rfl) | (rw [if_neg (by decide +kernel)]; exact ⟨rfl, rfl⟩))
    (fun os started H enc _ => lift os started H enc (s := Rows.tallySureSpec) [ity, .slice ity, .slice six, .slice five] (by kernel_rfl) Try.func5 (by kernel_rfl) (by kernel_rfl) (by kernel_rfl) rfl
      (fun ds hl => by match ds, hl with | [_, _, _, _], _ => rfl)
      (ChangeSpec.witness6 (enc := enc) (C := Try.checked) false ⟨#[], #[.int .i64 0, .slice none 0 0, .slice none 0 0, .slice none 0 0], []⟩ 8 (by kernel_rfl) (by kernel_rfl) (by kernel_rfl) (by kernel_rfl))
      (fun x hw => by
        obtain ⟨c, ds, l, y, _⟩ := x
        obtain ⟨w1, ⟨_, w2⟩, ⟨_, w3⟩, ⟨_, w4⟩, _⟩ := hw
        exact sure_ok c ds l y ⟨wf_in w1, fun y hy => wf_in (w2 y hy), fun y hy => wf_six (w3 y hy)⟩ (fun z hz => wf_five (w4 z hz))))
#print axioms tallySure_holds
end T
end Go.Proofs.Ytofbchcclkejgaa

