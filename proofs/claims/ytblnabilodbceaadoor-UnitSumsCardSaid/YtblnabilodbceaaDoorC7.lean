/- UnitSums: for every input the law returns true (Add is commutative and associative as far as sums are valid, and Meet gives the greatest amount that both contain), and each argument reads afterwards as it read before; the variables measures and outward hold what the program's text lays. -/
import Derived.Test.YtblnabilodbceaaDoorP7
import Derived.Test.YtblnabilodbceaaDoorU6
import Derived.Test.YtblnabilodbceaaDoorCards
import Derived.Test.YtblnabilodbceaaDoorTie
import Derived.SevenTiedAt
set_option linter.unusedVariables false
set_option maxRecDepth 100000
namespace Go.Proofs.YtblnabilodbceaaDoor
open Go Go.ChangeShapes Go.WideShapes Go.ChangeAt Go.RowKit
namespace U
theorem unitSums_holds : Rows.UnitSumsSaid :=
  OpenClaim.holds_of_wide 7 Tryd.f7 rfl rfl rfl rfl rfl rfl rfl ⟨rfl, rfl, rfl, rfl, rfl⟩ rfl rfl rfl rfl rfl (by kernel_rfl) Tryd.func7 (by kernel_rfl)
    (of_decide_eq_true (by kernel_rfl)) (by unfold Func.isWrapper; first | (rw [if_pos (by decide +kernel)]; kernel_rfl) | (rw [if_neg (by decide +kernel)]; exact ⟨rfl, rfl⟩))
    (fun os started H enc _ => lift os started H enc (s := Rows.unitSumsSpec) [i3, i3, i3, i2] (by kernel_rfl) Tryd.func7 (by kernel_rfl) (by kernel_rfl) (by kernel_rfl) rfl
      (fun ds hl => by match ds, hl with | [_, _, _, _], _ => rfl)
      (ChangeSpec.witness_shaped (enc := enc) (C := Tryd.checked) (os := os) (X := fun w _ => laidMetH Tryd.prog laid w) false (World.doorLaid Tryd.prog 26 os) #[.agg #[.int .i64 0, .int .i64 0, .int .i64 0], .agg #[.int .i64 0, .int .i64 0, .int .i64 0], .agg #[.int .i64 0, .int .i64 0, .int .i64 0], .agg #[.int .i64 0, .int .i64 0]] 8 rfl (World.shaped_of_RefB (by kernel_rfl) (by kernel_rfl)) (by kernel_rfl) (by kernel_rfl) (by kernel_rfl) (door_met os _))
      (fun x hw => by
        obtain ⟨⟨x0, x1, x2, _⟩, ⟨x3, x4, x5, _⟩, ⟨x6, x7, x8, _⟩, ⟨x9, x10, _⟩, _⟩ := x
        obtain ⟨⟨w0, w1, w2, _⟩, ⟨w3, w4, w5, _⟩, ⟨w6, w7, w8, _⟩, ⟨w9, w10, _⟩, _⟩ := hw
        exact law7 x0 x1 x2 x3 x4 x5 x6 x7 x8 x9 x10 (wfr w0) (wfr w1) (wfr w2) (wfr w3) (wfr w4) (wfr w5) (wfr w6) (wfr w7) (wfr w8) (wfr w9) (wfr w10)))
theorem unitSums_card : Rows.UnitSumsCardSaid :=
  Claim7.holds_tied_plain_at .later [] [.data, .funcs] true (true, "a7c722b547e07662060bca26ee104af9724d8395da2711be96f7bb214d90cd94") false
    unitSums_holds (fun _ h => by cases h) (by kernel_rfl) (fun _ h => by cases h) unitSums_row_tie rfl ⟨rfl, rfl⟩ (by kernel_rfl) rfl
    (fun f fn hf hfn => by
      obtain rfl : f = 7 := Option.some.inj ((show Tryd.prog.funcNamed "newswire/newswirelaw05.UnitSums" = some 7 by kernel_rfl).symm.trans hf) |>.symm
      obtain rfl : fn = Tryd.f7 := (Option.some.inj (Tryd.func7.symm.trans hfn)).symm
      exact ⟨by kernel_rfl, fun j t ht => by
        rw [Tryd.params7] at ht
        have hm : t ∈ ([24, 24, 24, 27] : List TypeId) := by simpa using Array.mem_of_getElem? ht
        have hall : (([24, 24, 24, 27] : List TypeId).all fun u => !Tryd.prog.wantsStandIn u) = true := by kernel_rfl
        exact (show Tryd.prog.wantsStandIn t = false by simpa using List.all_eq_true.1 hall t hm)⟩)
    (by kernel_rfl)
#print axioms unitSums_card
end U
end Go.Proofs.YtblnabilodbceaaDoor
