/- UnitBack: for every input the law returns true (what is converted and converted back contains what it was, each bound off by at most the told number), and each argument reads afterwards as it read before; the variables measures and outward hold what the program's text lays. -/
import Derived.Test.YtblnabilodbceaaDoorP5
import Derived.Test.YtblnabilodbceaaDoorU6
import Derived.Test.YtblnabilodbceaaDoorCards
import Derived.Test.YtblnabilodbceaaDoorTie
import Derived.SevenTiedAt
set_option linter.unusedVariables false
set_option maxRecDepth 100000
namespace Go.Proofs.YtblnabilodbceaaDoor
open Go Go.ChangeShapes Go.WideShapes Go.ChangeAt Go.RowKit
namespace U
theorem unitBack_holds : Rows.UnitBackSaid :=
  OpenClaim.holds_of_wide 5 Tryd.f5 rfl rfl rfl rfl rfl rfl rfl ⟨rfl, rfl, rfl, rfl, rfl⟩ rfl rfl rfl rfl rfl (by kernel_rfl) Tryd.func5 (by kernel_rfl)
    (of_decide_eq_true (by kernel_rfl)) (by unfold Func.isWrapper; first | (rw [if_pos (by decide +kernel)]; kernel_rfl) | (rw [if_neg (by decide +kernel)]; exact ⟨rfl, rfl⟩))
    (fun os started H enc _ => lift os started H enc (s := Rows.unitBackSpec) [i3, i2] (by kernel_rfl) Tryd.func5 (by kernel_rfl) (by kernel_rfl) (by kernel_rfl) rfl
      (fun ds hl => by match ds, hl with | [_, _], _ => rfl)
      (ChangeSpec.witness_shaped (enc := enc) (C := Tryd.checked) (os := os) (X := fun w _ => laidMetH Tryd.prog laid w) false (World.doorLaid Tryd.prog 26 os) #[.agg #[.int .i64 0, .int .i64 0, .int .i64 0], .agg #[.int .i64 0, .int .i64 0]] 8 rfl (World.shaped_of_RefB (by kernel_rfl) (by kernel_rfl)) (by kernel_rfl) (by kernel_rfl) (by kernel_rfl) (door_met os _))
      (fun x hw => by
        obtain ⟨⟨x0, x1, x2, _⟩, ⟨x3, x4, _⟩, _⟩ := x
        obtain ⟨⟨w0, w1, w2, _⟩, ⟨w3, w4, _⟩, _⟩ := hw
        exact law5 x0 x1 x2 x3 x4 (wfr w0) (wfr w1) (wfr w2) (wfr w3) (wfr w4)))
theorem unitBack_card : Rows.UnitBackCardSaid :=
  Claim7.holds_tied_plain_at .later [] [.data, .funcs] true (true, "a7c722b547e07662060bca26ee104af9724d8395da2711be96f7bb214d90cd94") false
    unitBack_holds (fun _ h => by cases h) (by kernel_rfl) (fun _ h => by cases h) unitBack_row_tie rfl ⟨rfl, rfl⟩ (by kernel_rfl) rfl
    (fun f fn hf hfn => by
      obtain rfl : f = 5 := Option.some.inj ((show Tryd.prog.funcNamed "newswire/newswirelaw05.UnitBack" = some 5 by kernel_rfl).symm.trans hf) |>.symm
      obtain rfl : fn = Tryd.f5 := (Option.some.inj (Tryd.func5.symm.trans hfn)).symm
      exact ⟨by kernel_rfl, fun j t ht => by
        rw [Tryd.params5] at ht
        have hm : t ∈ ([24, 27] : List TypeId) := by simpa using Array.mem_of_getElem? ht
        have hall : (([24, 27] : List TypeId).all fun u => !Tryd.prog.wantsStandIn u) = true := by kernel_rfl
        exact (show Tryd.prog.wantsStandIn t = false by simpa using List.all_eq_true.1 hall t hm)⟩)
    (by kernel_rfl)
#print axioms unitBack_card
end U
end Go.Proofs.YtblnabilodbceaaDoor
