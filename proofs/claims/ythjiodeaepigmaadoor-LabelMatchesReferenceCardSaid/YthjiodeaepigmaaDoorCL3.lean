/- LabelMatchesReference: for every input the law returns true (all functions but Encode and Decode agree with the reference implementation), and each argument reads afterwards as it read before; the variable reasons holds what the program's text lays. -/
import Derived.Test.YthjiodeaepigmaaDoorLrn
import Derived.Test.YthjiodeaepigmaaDoorLrl
import Derived.Test.YthjiodeaepigmaaDoorCards
import Derived.Test.YthjiodeaepigmaaDoorTie
import Derived.SevenTiedAt
set_option linter.unusedVariables false
set_option maxRecDepth 100000
namespace Go.Proofs.YthjiodeaepigmaaDoor
open Go Go.ChangeShapes Go.WideShapes Go.ChangeAt Go.RowKit
namespace L
theorem labelMatchesReference_holds : Rows.LabelMatchesReferenceSaid :=
  OpenClaim.holds_of_wide 3 Tryd.f3 rfl rfl rfl rfl rfl rfl rfl ⟨rfl, rfl, rfl, rfl, rfl⟩ rfl rfl rfl rfl rfl (by kernel_rfl) Tryd.func3 (by kernel_rfl)
    (of_decide_eq_true (by kernel_rfl)) (by unfold Func.isWrapper; first | (rw [if_pos (by decide +kernel)]; kernel_rfl) | (rw [if_neg (by decide +kernel)]; exact ⟨rfl, rfl⟩))
    (fun os started H enc _ => lift os started H enc (s := Rows.labelMatchesReferenceSpec) [i7, i7, i5, labT, momT, redT] (by kernel_rfl) Tryd.func3 (by kernel_rfl) (by kernel_rfl) (by kernel_rfl) rfl
      (fun ds hl => by match ds, hl with | [_, _, _, _, _, _], _ => rfl)
      (ChangeSpec.witness_shaped (enc := enc) (C := Tryd.checked) (os := os) (X := fun w _ => laidMetH Tryd.prog laid w) false (World.doorLaid Tryd.prog 26 os) #[.agg #[.int .i64 0, .int .i64 0, .int .i64 0, .int .i64 0, .int .i64 0, .int .i64 0, .int .i64 0], .agg #[.int .i64 0, .int .i64 0, .int .i64 0, .int .i64 0, .int .i64 0, .int .i64 0, .int .i64 0], .agg #[.int .i64 0, .int .i64 0, .int .i64 0, .int .i64 0, .int .i64 0], .agg #[.int .i64 0, .slice none 0 0, .slice none 0 0, .int .i64 0, .int .i64 0, .slice none 0 0], .agg #[.int .i64 0, .int .i64 0, .slice none 0 0, .slice none 0 0, .slice none 0 0], .agg #[.int .i64 0, .int .i64 0]] 8 rfl (World.shaped_of_RefB (by kernel_rfl) (by kernel_rfl)) (by kernel_rfl) (by kernel_rfl) (by kernel_rfl) (door_met os _))
      (fun x hw => by
        obtain ⟨⟨x0, x1, x2, x3, x4, x5, x6, _⟩, ⟨y0, y1, y2, y3, y4, y5, y6, _⟩, ⟨n0, n1, n2, n3, n4, _⟩, x, m, ⟨rt, rc, _⟩, _⟩ := x
        obtain ⟨⟨a0, a1, a2, a3, a4, a5, a6, _⟩, ⟨b0, b1, b2, b3, b4, b5, b6, _⟩, ⟨c0, c1, c2, c3, c4, _⟩, ⟨_, ⟨_, ae⟩, _, _, _, ⟨_, al⟩, _⟩, _, ⟨w1, w2, _⟩, _⟩ := hw
        exact law3 x0 x1 x2 x3 x4 x5 x6 y0 y1 y2 y3 y4 y5 y6 n0 n1 n2 n3 n4 x m rt rc (wf7 a0 a1 a2 a3 a4 a5 a6) (wf7 b0 b1 b2 b3 b4 b5 b6) (wf5 c0 c1 c2 c3 c4) (fun n hn => wf_in (ae n hn)) (fun q hq n hn => wf_in ((al q hq).2.1.2 n hn)) (wf_in w1) (wf_in w2)))
theorem labelMatchesReference_card : Rows.LabelMatchesReferenceCardSaid :=
  Claim7.holds_tied_plain_at .later [] [.funcs] true (true, "9b4ba3c6eadd8e8366876ecfa3ccc34ce6e63ef6a16873cbd311083cb034b51b") true
    labelMatchesReference_holds (fun _ h => by cases h) (by kernel_rfl) (fun _ h => by cases h) labelMatchesReference_row_tie rfl ⟨rfl, rfl⟩ (by kernel_rfl) rfl
    (fun f fn hf hfn => by
      obtain rfl : f = 3 := Option.some.inj ((show Tryd.prog.funcNamed "newswire/newswirelaw10.LabelMatchesReference" = some 3 by kernel_rfl).symm.trans hf) |>.symm
      obtain rfl : fn = Tryd.f3 := (Option.some.inj (Tryd.func3.symm.trans hfn)).symm
      exact ⟨by kernel_rfl, fun j t ht => by
        rw [Tryd.params3] at ht
        have hm : t ∈ ([22, 22, 23, 28, 30, 32] : List TypeId) := by simpa using Array.mem_of_getElem? ht
        have hall : (([22, 22, 23, 28, 30, 32] : List TypeId).all fun u => !Tryd.prog.wantsStandIn u) = true := by kernel_rfl
        exact (show Tryd.prog.wantsStandIn t = false by simpa using List.all_eq_true.1 hall t hm)⟩)
    (by kernel_rfl)
#print axioms labelMatchesReference_card
end L
end Go.Proofs.YthjiodeaepigmaaDoor

