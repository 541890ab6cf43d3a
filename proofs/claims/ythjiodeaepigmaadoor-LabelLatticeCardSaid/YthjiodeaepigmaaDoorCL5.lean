/- LabelLattice: for every input the law returns true (Join is commutative, associative and idempotent, None is neutral, a is below b exactly if their join is b, and the join is the least label above both), and each argument reads afterwards as it read before; the variable reasons holds what the program's text lays. -/
import Derived.Test.YthjiodeaepigmaaDoorLln
import Derived.Test.YthjiodeaepigmaaDoorLlm
import Derived.Test.YthjiodeaepigmaaDoorCards
import Derived.Test.YthjiodeaepigmaaDoorTie
import Derived.SevenTiedAt
set_option linter.unusedVariables false
set_option maxRecDepth 100000
namespace Go.Proofs.YthjiodeaepigmaaDoor
open Go Go.ChangeShapes Go.WideShapes Go.ChangeAt Go.RowKit
namespace L
theorem labelLattice_holds : Rows.LabelLatticeSaid :=
  OpenClaim.holds_of_wide 5 Tryd.f5 rfl rfl rfl rfl rfl rfl rfl ⟨rfl, rfl, rfl, rfl, rfl⟩ rfl rfl rfl rfl rfl (by kernel_rfl) Tryd.func5 (by kernel_rfl)
    (of_decide_eq_true (by kernel_rfl)) (by unfold Func.isWrapper; first | (rw [if_pos (by decide +kernel)]; kernel_rfl) | (rw [if_neg (by decide +kernel)]; exact ⟨rfl, rfl⟩))
    (fun os started H enc _ => lift os started H enc (s := Rows.labelLatticeSpec) [i7, i7, i7] (by kernel_rfl) Tryd.func5 (by kernel_rfl) (by kernel_rfl) (by kernel_rfl) rfl
      (fun ds hl => by match ds, hl with | [_, _, _], _ => rfl)
      (ChangeSpec.witness_shaped (enc := enc) (C := Tryd.checked) (os := os) (X := fun w _ => laidMetH Tryd.prog laid w) false (World.doorLaid Tryd.prog 26 os) #[.agg #[.int .i64 0, .int .i64 0, .int .i64 0, .int .i64 0, .int .i64 0, .int .i64 0, .int .i64 0], .agg #[.int .i64 0, .int .i64 0, .int .i64 0, .int .i64 0, .int .i64 0, .int .i64 0, .int .i64 0], .agg #[.int .i64 0, .int .i64 0, .int .i64 0, .int .i64 0, .int .i64 0, .int .i64 0, .int .i64 0]] 8 rfl (World.shaped_of_RefB (by kernel_rfl) (by kernel_rfl)) (by kernel_rfl) (by kernel_rfl) (by kernel_rfl) (door_met os _))
      (fun x hw => by
        obtain ⟨⟨x0, x1, x2, x3, x4, x5, x6, _⟩, ⟨y0, y1, y2, y3, y4, y5, y6, _⟩, ⟨z0, z1, z2, z3, z4, z5, z6, _⟩, _⟩ := x
        obtain ⟨⟨a0, a1, a2, a3, a4, a5, a6, _⟩, ⟨b0, b1, b2, b3, b4, b5, b6, _⟩, ⟨c0, c1, c2, c3, c4, c5, c6, _⟩, _⟩ := hw
        exact law5 x0 x1 x2 x3 x4 x5 x6 y0 y1 y2 y3 y4 y5 y6 z0 z1 z2 z3 z4 z5 z6 (wf7 a0 a1 a2 a3 a4 a5 a6) (wf7 b0 b1 b2 b3 b4 b5 b6) (wf7 c0 c1 c2 c3 c4 c5 c6)))
theorem labelLattice_card : Rows.LabelLatticeCardSaid :=
  Claim7.holds_tied_plain_at .later [] [.funcs] true (true, "9b4ba3c6eadd8e8366876ecfa3ccc34ce6e63ef6a16873cbd311083cb034b51b") true
    labelLattice_holds (fun _ h => by cases h) (by kernel_rfl) (fun _ h => by cases h) labelLattice_row_tie rfl ⟨rfl, rfl⟩ (by kernel_rfl) rfl
    (fun f fn hf hfn => by
      obtain rfl : f = 5 := Option.some.inj ((show Tryd.prog.funcNamed "newswire/newswirelaw10.LabelLattice" = some 5 by kernel_rfl).symm.trans hf) |>.symm
      obtain rfl : fn = Tryd.f5 := (Option.some.inj (Tryd.func5.symm.trans hfn)).symm
      exact ⟨by kernel_rfl, fun j t ht => by
        rw [Tryd.params5] at ht
        have hm : t ∈ ([22, 22, 22] : List TypeId) := by simpa using Array.mem_of_getElem? ht
        have hall : (([22, 22, 22] : List TypeId).all fun u => !Tryd.prog.wantsStandIn u) = true := by kernel_rfl
        exact (show Tryd.prog.wantsStandIn t = false by simpa using List.all_eq_true.1 hall t hm)⟩)
    (by kernel_rfl)
#print axioms labelLattice_card
end L
end Go.Proofs.YthjiodeaepigmaaDoor

