/- TallyOpen: for every input the law returns true (a candidate that can still win has at least as many votes as each other one if it gets all that are left in all districts; one that cannot has fewer than another one then; and if nobody is sure, at least two can still win, otherwise only the one that is sure: a tally that integers determine), and each argument reads afterwards as it read before. -/
import Derived.Test.YtofbchcclkejgaaTOn
import Derived.Test.YtofbchcclkejgaaTOo
set_option linter.unusedVariables false
set_option maxRecDepth 100000
namespace Go.Proofs.Ytofbchcclkejgaa
open Go Go.ChangeShapes Go.WideShapes Go.ChangeAt Go.RowKit
namespace T
theorem tallyOpen_holds : Rows.TallyOpenSaid :=
  OpenClaim.holds_of_wide 6 Try.f6 rfl rfl rfl rfl rfl rfl rfl ⟨rfl, rfl, rfl, rfl, rfl⟩ rfl rfl rfl rfl rfl (by kernel_rfl) Try.func6 (by kernel_rfl)
    (of_decide_eq_true (by kernel_rfl)) (by unfold Func.isWrapper; first | (rw [if_pos (by decide +kernel)]; kernel_rfl) | (rw [if_neg (by decide +kernel)]; exact ⟨rfl, rfl⟩))
    (fun os started H enc _ => lift os started H enc (s := Rows.tallyOpenSpec) [ity, .slice ity, .slice six] (by kernel_rfl) Try.func6 (by kernel_rfl) (by kernel_rfl) (by kernel_rfl) rfl
      (fun ds hl => by match ds, hl with | [_, _, _], _ => rfl)
      (ChangeSpec.witness6 (enc := enc) (C := Try.checked) false ⟨#[], #[.int .i64 0, .slice none 0 0, .slice none 0 0], []⟩ 8 (by kernel_rfl) (by kernel_rfl) (by kernel_rfl) (by kernel_rfl))
      (fun x hw => by
        obtain ⟨c, ds, l, _⟩ := x
        obtain ⟨w1, ⟨_, w2⟩, ⟨_, w3⟩, _⟩ := hw
        exact openLaw_ok c ds l ⟨wf_in w1, fun y hy => wf_in (w2 y hy), fun y hy => wf_six (w3 y hy)⟩))
#print axioms tallyOpen_holds
end T
end Go.Proofs.Ytofbchcclkejgaa

