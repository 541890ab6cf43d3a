/- UnitMatchesReference: for every input the law returns true (every function of package unit agrees with the reference implementation), and each argument reads afterwards as it read before; the variables measures and outward hold what the program's text lays. -/
import Derived.Test.YtblnabilodbceaaDoorP3
import Derived.Test.YtblnabilodbceaaDoorU6
import Derived.Test.YtblnabilodbceaaDoorCards
import Derived.Test.YtblnabilodbceaaDoorTie
import Derived.SevenTiedAt
set_option linter.unusedVariables false
set_option maxRecDepth 100000
namespace Go.Proofs.YtblnabilodbceaaDoor
open Go Go.ChangeShapes Go.WideShapes Go.ChangeAt Go.RowKit
namespace U
theorem unitMatchesReference_holds : Rows.UnitMatchesReferenceSaid :=
  OpenClaim.holds_of_wide 3 Tryd.f3 rfl rfl rfl rfl rfl rfl rfl ⟨rfl, rfl, rfl, rfl, rfl⟩ rfl rfl rfl rfl rfl (by kernel_rfl) Tryd.func3 (by kernel_rfl)
    (of_decide_eq_true (by kernel_rfl)) (by unfold Func.isWrapper; first | (rw [if_pos (by decide +kernel)]; kernel_rfl) | (rw [if_neg (by decide +kernel)]; exact ⟨rfl, rfl⟩))
    (fun os started H enc _ => lift os started H enc (s := Rows.unitMatchesReferenceSpec) [i3, i3, i3, i3, i2, i2, i1, i1, i1, i1] (by kernel_rfl) Tryd.func3 (by kernel_rfl) (by kernel_rfl) (by kernel_rfl) rfl
      (fun ds hl => by match ds, hl with | [_, _, _, _, _, _, _, _, _, _], _ => rfl)
      (ChangeSpec.witness_shaped (enc := enc) (C := Tryd.checked) (os := os) (X := fun w _ => laidMetH Tryd.prog laid w) false (World.doorLaid Tryd.prog 26 os) #[.agg #[.int .i64 0, .int .i64 0, .int .i64 0], .agg #[.int .i64 0, .int .i64 0, .int .i64 0], .agg #[.int .i64 0, .int .i64 0, .int .i64 0], .agg #[.int .i64 0, .int .i64 0, .int .i64 0], .agg #[.int .i64 0, .int .i64 0], .agg #[.int .i64 0, .int .i64 0], .int .i64 0, .int .i64 0, .int .i64 0, .int .i64 0] 8 rfl (World.shaped_of_RefB (by kernel_rfl) (by kernel_rfl)) (by kernel_rfl) (by kernel_rfl) (by kernel_rfl) (door_met os _))
      (fun x hw => by
        obtain ⟨⟨x0, x1, x2, _⟩, ⟨x3, x4, x5, _⟩, ⟨x6, x7, x8, _⟩, ⟨x9, x10, x11, _⟩, ⟨x12, x13, _⟩, ⟨x14, x15, _⟩, x16, x17, x18, x19, _⟩ := x
        obtain ⟨⟨w0, w1, w2, _⟩, ⟨w3, w4, w5, _⟩, ⟨w6, w7, w8, _⟩, ⟨w9, w10, w11, _⟩, ⟨w12, w13, _⟩, ⟨w14, w15, _⟩, w16, w17, w18, w19, _⟩ := hw
        exact law3 x0 x1 x2 x3 x4 x5 x6 x7 x8 x9 x10 x11 x12 x13 x14 x15 x16 x17 x18 x19 (wfr w0) (wfr w1) (wfr w2) (wfr w3) (wfr w4) (wfr w5) (wfr w6) (wfr w7) (wfr w8) (wfr w9) (wfr w10) (wfr w11) (wfr w12) (wfr w13) (wfr w14) (wfr w15) (wfr w16) (wfr w17) (wfr w18) (wfr w19)))
theorem unitMatchesReference_card : Rows.UnitMatchesReferenceCardSaid :=
  Claim7.holds_tied_plain_at .later [] [.data, .funcs] true (true, "a7c722b547e07662060bca26ee104af9724d8395da2711be96f7bb214d90cd94") false
    unitMatchesReference_holds (fun _ h => by cases h) (by kernel_rfl) (fun _ h => by cases h) unitMatchesReference_row_tie rfl ⟨rfl, rfl⟩ (by kernel_rfl) rfl
    (fun f fn hf hfn => by
      obtain rfl : f = 3 := Option.some.inj ((show Tryd.prog.funcNamed "newswire/newswirelaw05.UnitMatchesReference" = some 3 by kernel_rfl).symm.trans hf) |>.symm
      obtain rfl : fn = Tryd.f3 := (Option.some.inj (Tryd.func3.symm.trans hfn)).symm
      exact ⟨by kernel_rfl, fun j t ht => by
        rw [Tryd.params3] at ht
        have hm : t ∈ ([23, 23, 24, 24, 26, 27, 3, 3, 3, 3] : List TypeId) := by simpa using Array.mem_of_getElem? ht
        have hall : (([23, 23, 24, 24, 26, 27, 3, 3, 3, 3] : List TypeId).all fun u => !Tryd.prog.wantsStandIn u) = true := by kernel_rfl
        exact (show Tryd.prog.wantsStandIn t = false by simpa using List.all_eq_true.1 hall t hm)⟩)
    (by kernel_rfl)
#print axioms unitMatchesReference_card
end U
end Go.Proofs.YtblnabilodbceaaDoor
