/- UnitMonotone: for every input the law returns true (of two amounts of which one contains the other the operations' answers contain each other likewise), and each argument reads afterwards as it read before; the variables measures and outward hold what the program's text lays. -/
import Derived.Test.YtblnabilodbceaaDoorP6
import Derived.Test.YtblnabilodbceaaDoorU6
import Derived.Test.YtblnabilodbceaaDoorCards
import Derived.Test.YtblnabilodbceaaDoorTie
import Derived.SevenTiedAt
set_option linter.unusedVariables false
set_option maxRecDepth 100000
namespace Go.Proofs.YtblnabilodbceaaDoor
open Go Go.ChangeShapes Go.WideShapes Go.ChangeAt Go.RowKit
namespace U
theorem unitMonotone_holds : Rows.UnitMonotoneSaid :=
  OpenClaim.holds_of_wide 6 Tryd.f6 rfl rfl rfl rfl rfl rfl rfl ⟨rfl, rfl, rfl, rfl, rfl⟩ rfl rfl rfl rfl rfl (by kernel_rfl) Tryd.func6 (by kernel_rfl)
    (of_decide_eq_true (by kernel_rfl)) (by unfold Func.isWrapper; first | (rw [if_pos (by decide +kernel)]; kernel_rfl) | (rw [if_neg (by decide +kernel)]; exact ⟨rfl, rfl⟩))
    (fun os started H enc _ => lift os started H enc (s := Rows.unitMonotoneSpec) [i3, i1, i1, i2, i1, i1, i1, i3] (by kernel_rfl) Tryd.func6 (by kernel_rfl) (by kernel_rfl) (by kernel_rfl) rfl
      (fun ds hl => by match ds, hl with | [_, _, _, _, _, _, _, _], _ => rfl)
      (ChangeSpec.witness_shaped (enc := enc) (C := Tryd.checked) (os := os) (X := fun w _ => laidMetH Tryd.prog laid w) false (World.doorLaid Tryd.prog 26 os) #[.agg #[.int .i64 0, .int .i64 0, .int .i64 0], .int .i64 0, .int .i64 0, .agg #[.int .i64 0, .int .i64 0], .int .i64 0, .int .i64 0, .int .i64 0, .agg #[.int .i64 0, .int .i64 0, .int .i64 0]] 8 rfl (World.shaped_of_RefB (by kernel_rfl) (by kernel_rfl)) (by kernel_rfl) (by kernel_rfl) (by kernel_rfl) (door_met os _))
      (fun x hw => by
        obtain ⟨⟨x0, x1, x2, _⟩, x3, x4, ⟨x5, x6, _⟩, x7, x8, x9, ⟨x10, x11, x12, _⟩, _⟩ := x
        obtain ⟨⟨w0, w1, w2, _⟩, w3, w4, ⟨w5, w6, _⟩, w7, w8, w9, ⟨w10, w11, w12, _⟩, _⟩ := hw
        exact law6 x0 x1 x2 x3 x4 x5 x6 x7 x8 x9 x10 x11 x12 (wfr w0) (wfr w1) (wfr w2) (wfr w3) (wfr w4) (wfr w5) (wfr w6) (wfr w7) (wfr w8) (wfr w9) (wfr w10) (wfr w11) (wfr w12)))
theorem unitMonotone_card : Rows.UnitMonotoneCardSaid :=
  Claim7.holds_tied_plain_at .later [] [.data, .funcs] true (true, "a7c722b547e07662060bca26ee104af9724d8395da2711be96f7bb214d90cd94") false
    unitMonotone_holds (fun _ h => by cases h) (by kernel_rfl) (fun _ h => by cases h) unitMonotone_row_tie rfl ⟨rfl, rfl⟩ (by kernel_rfl) rfl
    (fun f fn hf hfn => by
      obtain rfl : f = 6 := Option.some.inj ((show Tryd.prog.funcNamed "newswire/newswirelaw05.UnitMonotone" = some 6 by kernel_rfl).symm.trans hf) |>.symm
      obtain rfl : fn = Tryd.f6 := (Option.some.inj (Tryd.func6.symm.trans hfn)).symm
      exact ⟨by kernel_rfl, fun j t ht => by
        rw [Tryd.params6] at ht
        have hm : t ∈ ([24, 3, 3, 27, 3, 3, 3, 24] : List TypeId) := by simpa using Array.mem_of_getElem? ht
        have hall : (([24, 3, 3, 27, 3, 3, 3, 24] : List TypeId).all fun u => !Tryd.prog.wantsStandIn u) = true := by kernel_rfl
        exact (show Tryd.prog.wantsStandIn t = false by simpa using List.all_eq_true.1 hall t hm)⟩)
    (by kernel_rfl)
#print axioms unitMonotone_card
end U
end Go.Proofs.YtblnabilodbceaaDoor
