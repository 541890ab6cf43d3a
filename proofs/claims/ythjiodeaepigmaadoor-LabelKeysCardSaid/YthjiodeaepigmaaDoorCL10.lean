/- LabelKeys: for every input the law returns true (a label that demands one lock alone is open exactly if as many of its keys as it needs are released), and each argument reads afterwards as it read before; the variable reasons holds what the program's text lays. -/
import Derived.Test.YthjiodeaepigmaaDoorQl
import Derived.Test.YthjiodeaepigmaaDoorCards
import Derived.Test.YthjiodeaepigmaaDoorTie
import Derived.SevenTiedAt
set_option linter.unusedVariables false
set_option maxRecDepth 100000
namespace Go.Proofs.YthjiodeaepigmaaDoor
open Go Go.ChangeShapes Go.WideShapes Go.ChangeAt Go.RowKit
namespace L
theorem labelKeys_holds : Rows.LabelKeysSaid :=
  OpenClaim.holds_of_wide 10 Tryd.f10 rfl rfl rfl rfl rfl rfl rfl ⟨rfl, rfl, rfl, rfl, rfl⟩ rfl rfl rfl rfl rfl (by kernel_rfl) Tryd.func10 (by kernel_rfl)
    (of_decide_eq_true (by kernel_rfl)) (by unfold Func.isWrapper; first | (rw [if_pos (by decide +kernel)]; kernel_rfl) | (rw [if_neg (by decide +kernel)]; exact ⟨rfl, rfl⟩))
    (fun os started H enc _ => lift os started H enc (s := Rows.labelKeysSpec) [ity, ity, ity] (by kernel_rfl) Tryd.func10 (by kernel_rfl) (by kernel_rfl) (by kernel_rfl) rfl
      (fun ds hl => by match ds, hl with | [_, _, _], _ => rfl)
      (ChangeSpec.witness_shaped (enc := enc) (C := Tryd.checked) (os := os) (X := fun w _ => laidMetH Tryd.prog laid w) false (World.doorLaid Tryd.prog 26 os) #[.int .i64 0, .int .i64 0, .int .i64 0] 8 rfl (World.shaped_of_RefB (by kernel_rfl) (by kernel_rfl)) (by kernel_rfl) (by kernel_rfl) (by kernel_rfl) (door_met os _))
      (fun x hw => by
        obtain ⟨k, n, r, _⟩ := x
        obtain ⟨w1, w2, w3, _⟩ := hw
        exact law10 k n r (wf_in w1) (wf_in w2) (wf_in w3)))
theorem labelKeys_card : Rows.LabelKeysCardSaid :=
  Claim7.holds_tied_plain_at .later [] [.funcs] true (true, "9b4ba3c6eadd8e8366876ecfa3ccc34ce6e63ef6a16873cbd311083cb034b51b") true
    labelKeys_holds (fun _ h => by cases h) (by kernel_rfl) (fun _ h => by cases h) labelKeys_row_tie rfl ⟨rfl, rfl⟩ (by kernel_rfl) rfl
    (fun f fn hf hfn => by
      obtain rfl : f = 10 := Option.some.inj ((show Tryd.prog.funcNamed "newswire/newswirelaw10.LabelKeys" = some 10 by kernel_rfl).symm.trans hf) |>.symm
      obtain rfl : fn = Tryd.f10 := (Option.some.inj (Tryd.func10.symm.trans hfn)).symm
      exact ⟨by kernel_rfl, fun j t ht => by
        rw [Tryd.params10] at ht
        have hm : t ∈ ([3, 3, 3] : List TypeId) := by simpa using Array.mem_of_getElem? ht
        have hall : (([3, 3, 3] : List TypeId).all fun u => !Tryd.prog.wantsStandIn u) = true := by kernel_rfl
        exact (show Tryd.prog.wantsStandIn t = false by simpa using List.all_eq_true.1 hall t hm)⟩)
    (by kernel_rfl)
#print axioms labelKeys_card
end L
end Go.Proofs.YthjiodeaepigmaaDoor

