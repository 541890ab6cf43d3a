/- Package unit: its laid variables; from a contract to a row. -/
import Derived.Test.YtblnabilodbceaaDoorU4
import Derived.Test.YtblnabilodbceaaDoorRows
import Derived.Test.YtblnabilodbceaaDoorDv20
set_option linter.unusedVariables false
set_option linter.unusedSimpArgs false
set_option maxRecDepth 100000
namespace Go.Proofs.YtblnabilodbceaaDoor
open Go Go.ChangeShapes Go.WideShapes Go.ChangeAt Go.RowKit
namespace U
def i3 : Ty := .agg [.int .i64, .int .i64, .int .i64]
def i2 : Ty := .agg [.int .i64, .int .i64]
def i1 : Ty := .int .i64
def laid : List (String × DataW Unit) := [("newswire/unit.measures", Rows.laid_newswire_unit_measures), ("newswire/unit.outward", Rows.laid_newswire_unit_outward)]
theorem g0 : Tryd.prog.globalNamed "newswire/unit.measures" = some 0 := by kernel_rfl
theorem g1 : Tryd.prog.globalNamed "newswire/unit.outward" = some 1 := by kernel_rfl
theorem t0 : (Tryd.prog.globals[0]?).map (·.type) = some 61 := by kernel_rfl
theorem t1 : (Tryd.prog.globals[1]?).map (·.type) = some 66 := by kernel_rfl
theorem own : ownKnob Tryd.prog.godebug = none := by kernel_rfl
theorem laidOut : laidOutB Tryd.prog = true := by kernel_rfl
/-- The variables hold what the contracts take them to hold. -/
theorem globs {W : World} (h : laidMetH Tryd.prog laid W) : ∀ g v, Γ g = some v → VRel (Gh.start W) v (.pointer (some ⟨g, 0, none⟩)) := by
  intro g v hv
  match g, hv with
  | 0, hv =>
    obtain rfl := Option.some.inj hv
    exact VRel.glob_plain (l := laid) (d := Rows.laid_newswire_unit_measures) (.agg [i3, i3, i3, i3, i3, i3, i3, i3]) h (by simp [laid]) (by kernel_rfl) g0 t0 (by kernel_rfl) (by kernel_rfl)
  | 1, hv =>
    obtain rfl := Option.some.inj hv
    obtain ⟨g, t, cs, fuel, p, hg, ht, hw, hd⟩ := laidMetH.funcs h (n := "newswire/unit.outward") (d := .agg [.iface "func" (.lit (.string [110, 101, 119, 115, 119, 105, 114, 101, 47, 117, 110, 105, 116, 46, 111, 117, 116, 119, 97, 114, 100, 36, 49])), .iface "func" (.lit (.string [110, 101, 119, 115, 119, 105, 114, 101, 47, 117, 110, 105, 116, 46, 111, 117, 116, 119, 97, 114, 100, 36, 50]))]) (by simp [laid, Rows.laid_newswire_unit_outward])
    obtain rfl := Option.some.inj (g1.symm.trans hg)
    obtain rfl := Option.some.inj (t1.symm.trans ht)
    refine VRel.glob g1 hw ?_
    obtain ⟨xs, m, _, e, hl, hn, hf⟩ := DataW.trod_struct Tryd.underlying66 hd
    have hl2 : cs.toList.length = 2 := hl.trans (by kernel_rfl)
    obtain ⟨v0, v1, hcs⟩ : ∃ v0 v1, cs.toList = [v0, v1] := by
      match hc : cs.toList, hl2 with
      | [a, b], _ => exact ⟨a, b, rfl⟩
    have e' : DataW.agg [DataW.held [110, 101, 119, 115, 119, 105, 114, 101, 47, 117, 110, 105, 116, 46, 111, 117, 116, 119, 97, 114, 100, 36, 49], DataW.held [110, 101, 119, 115, 119, 105, 114, 101, 47, 117, 110, 105, 116, 46, 111, 117, 116, 119, 97, 114, 100, 36, 50]] = DataW.agg (xs.map (·.1)) := congrArg Prod.fst e
    match xs, e', hf with
    | [x0, x1], e', hf =>
      simp only [List.map_cons, List.map_nil, DataW.agg.injEq, List.cons.injEq, and_true] at e'
      have f0 := hf 0 _ rfl
      have f1 := hf 1 _ rfl
      rw [hcs] at f0 f1
      simp only [List.getElem?_cons_zero, List.getElem?_cons_succ] at f0 f1
      obtain ⟨d0, p0⟩ := x0
      obtain ⟨d1, p1⟩ := x1
      obtain ⟨rfl, rfl⟩ := e'
      have c37 : Tryd.prog.cellsOf 37 = 1 := by kernel_rfl
      have k0 : DataW.trod (funcToken Tryd.prog) Tryd.prog W 0 (fun _ => true) true m 37 [v0] = some (.held [110, 101, 119, 115, 119, 105, 114, 101, 47, 117, 110, 105, 116, 46, 111, 117, 116, 119, 97, 114, 100, 36, 49], p0) := by
        simpa [c37] using f0
      have k1 : DataW.trod (funcToken Tryd.prog) Tryd.prog W 0 (fun _ => true) true m 37 [v1] = some (.held [110, 101, 119, 115, 119, 105, 114, 101, 47, 117, 110, 105, 116, 46, 111, 117, 116, 119, 97, 114, 100, 36, 50], p1) := by
        simpa [c37] using f1
      obtain rfl := func_of_trod (f0 := 61) Tryd.underlying37 (by kernel_rfl) k0
      obtain rfl := func_of_trod (f0 := 62) Tryd.underlying37 (by kernel_rfl) k1
      rw [hcs]
      exact Rels.cons (VRel.func _ _) (Rels.cons (VRel.func _ _) (Rels.nil _))
  | n + 2, hv => cases hv
end U
end Go.Proofs.YtblnabilodbceaaDoor
