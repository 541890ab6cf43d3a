/- Parts of the library of texts, one after the other: L18, L25. -/
import Derived.Test.YthjiodeaepigmaaDoorQk
import Derived.Test.YthjiodeaepigmaaDoorRows
import Derived.Handed
import Derived.OpenShut
import Derived.LaidMore
import Derived.Test.YthjiodeaepigmaaDoorQl
/- Package label: its laid variable; from a law's contract to a row. -/
set_option linter.unusedVariables false
set_option linter.unusedSimpArgs false
set_option maxRecDepth 100000
namespace Go.Proofs.YthjiodeaepigmaaDoor
open Go Go.ChangeShapes Go.WideShapes Go.ChangeAt Go.RowKit
theorem VRel.func (G : Gh) (f : Fn) : VRel G (.fn f [] []) (.func f #[] #[]) := .fn rfl rfl (fun j v cv h => by simp at h) (fun j v cv h => by simp at h)
/-- A variable's address, its cells known. -/
theorem VRel.glob {P : Program} {W : World} {n : String} {g : Nat} {cs : Array Value} {vs : List V} (hg : P.globalNamed n = some g) (hv : W.var? P n = some cs) (h : Rels (Gh.start W) vs cs.toList) : VRel (Gh.start W).bare (.pel [.agg vs] 0 0) (.pointer (some ⟨g, 0, none⟩)) := by
  have hp : VRel (Gh.start W) (.pel [.agg vs] 0 0) (.pointer (some ⟨g, 0 + (0 * vs.length + 0), none⟩)) := by
    refine VRel.pel (sz := vs.length) (cvs := cs.toList) (fun x hx => ?_) ?_ (fun j cv hj => ?_) (fun j v cv h1 h2 => ?_)
    · simp at hx; subst hx; rfl
    · simpa [flat, V.cells] using h.1
    · show W.cell? ⟨g, 0 + j, none⟩ = some cv
      rw [Nat.zero_add, World.var?_cell hg hv j]
      simpa using hj
    · exact h.2 j v cv (by simpa [flat, V.cells] using h1) h2
  have hb : (Gh.start W).sub (Gh.start W).bare := ⟨fun _ _ _ h => h, (fun _ _ h => by cases h), (fun _ _ h => by cases h), (fun _ _ h => by cases h)⟩
  simpa using hp.mono' hb
theorem int_of {H : Type} {enc : TypeId × Value → H} {P : Program} {w : World} {base : Nat} {sp : Nat → Bool} {held : Bool} {fuel : Nat} {t : TypeId} {k k' : IntKind} {n : Int} {c : Value} {q : List MemPlace}
    (ht : P.underlying t = some (.int k)) (h : DataW.trod enc P w base sp held fuel t [c] = some (.lit (.int k' n), q)) : c = .int k' n := by
  cases fuel with
  | zero => simp [DataW.trod] at h
  | succ fuel =>
    cases c <;> simp [DataW.trod, ht] at h
    obtain ⟨⟨hk, _⟩, ⟨rfl, rfl⟩, _⟩ := h
    rw [hk]
theorem cells2 {w : World} {base : Nat} {a : Addr} {c : List Value} (h : w.cells? base a 2 = some c) : ∃ x y, c = [x, y] ∧ w.cell? a = some x ∧ w.cell? (a.add 1) = some y := by
  unfold World.cells? at h
  split at h
  · have e0 : a.add 0 = a := by simp [Addr.add]
    simp only [List.range_succ, List.range_zero, List.nil_append, List.mapM_cons, List.mapM_nil, List.cons_append, e0] at h
    cases h0 : w.cell? a with
    | none => simp [h0] at h
    | some x =>
      cases h1 : w.cell? (a.add 1) with
      | none => simp [h0, h1] at h
      | some y => simp [h0, h1] at h; exact ⟨x, y, h.symm, rfl, rfl⟩
  · cases h
namespace L
theorem own : ownKnob Tryd.prog.godebug = none := by kernel_rfl
theorem laidOut : laidOutB Tryd.prog = true := by kernel_rfl
def laid : List (String × DataW Unit) := [("newswire/label.reasons", Rows.laid_newswire_label_reasons)]
theorem g0 : Tryd.prog.globalNamed "newswire/label.reasons" = some 0 := by kernel_rfl
theorem t0 : (Tryd.prog.globals[0]?).map (·.type) = some 97 := by kernel_rfl
theorem cells100 : Tryd.prog.cellsOf 100 = 2 := by kernel_rfl
theorem cells3 : Tryd.prog.cellsOf 3 = 1 := by kernel_rfl
theorem cells98 : Tryd.prog.cellsOf 98 = 1 := by kernel_rfl
/-- A row of the table. -/
theorem row_of {W : World} {n : Nat} {c : List Value} {k : Int} {f0 : FuncId} {b : UInt8} {r : List UInt8} {q : List MemPlace} (hone : ((List.range Tryd.prog.funcs.size).filter fun f => (Tryd.prog.funcs[f]?).any (·.name.toUTF8.data.toList == b :: r)) = [f0])
    (h : DataW.trod (funcToken Tryd.prog) Tryd.prog W 0 (fun _ => true) true n 100 c = some (.agg [.lit (.int .i64 k), .held (b :: r)], q)) : c = [.int .i64 k, .func (.func f0) #[] #[]] := by
  obtain ⟨xs, m, _, e, hl, hn, hf⟩ := DataW.trod_struct Tryd.underlying100 h
  have hl2 : c.length = 2 := hl.trans cells100
  obtain ⟨v0, v1, rfl⟩ : ∃ v0 v1, c = [v0, v1] := by
    match c, hl2 with
    | [a, b], _ => exact ⟨a, b, rfl⟩
  have e' : DataW.agg [DataW.lit (.int .i64 k), DataW.held (b :: r)] = DataW.agg (xs.map (·.1)) := congrArg Prod.fst e
  match xs, e', hf with
  | [x0, x1], e', hf =>
    simp only [List.map_cons, List.map_nil, DataW.agg.injEq, List.cons.injEq, and_true] at e'
    have f0 := hf 0 _ rfl
    have f1 := hf 1 _ rfl
    simp only [List.getElem?_cons_zero, List.getElem?_cons_succ] at f0 f1
    obtain ⟨d0, p0⟩ := x0
    obtain ⟨d1, p1⟩ := x1
    obtain ⟨rfl, rfl⟩ := e'
    have k0 : DataW.trod (funcToken Tryd.prog) Tryd.prog W 0 (fun _ => true) true m 3 [v0] = some (.lit (.int .i64 k), p0) := by
      simpa [cells3] using f0
    have k1 : DataW.trod (funcToken Tryd.prog) Tryd.prog W 0 (fun _ => true) true m 98 [v1] = some (.held (b :: r), p1) := by
      simpa [cells98] using f1
    rw [int_of Tryd.underlying3 k0, func_of_trod Tryd.underlying98 hone k1]
/-- The variable holds what the contracts take it to hold. -/
theorem globs {W : World} (h : laidMetH Tryd.prog laid W) : ∀ g v, Γ g = some v → VRel (Gh.start W).bare v (.pointer (some ⟨g, 0, none⟩)) := by
  intro g v hv
  match g, hv with
  | 0, hv =>
    obtain rfl := Option.some.inj hv
    obtain ⟨g, t, cs, fuel, p, hg, ht, hw, hd⟩ := laidMetH.funcs h (n := "newswire/label.reasons") (List.mem_singleton.2 rfl)
    obtain rfl := Option.some.inj (g0.symm.trans hg)
    obtain rfl := Option.some.inj (t0.symm.trans ht)
    refine VRel.glob g0 hw ?_
    have hd' : DataW.trod (funcToken Tryd.prog) Tryd.prog W 0 (fun _ => true) true fuel 97 cs.toList = some (.slice [.agg [.lit (.int .i64 2), .held [110, 101, 119, 115, 119, 105, 114, 101, 47, 108, 97, 98, 101, 108, 46, 114, 101, 97, 115, 111, 110, 115, 36, 49]], .agg [.lit (.int .i64 3), .held [110, 101, 119, 115, 119, 105, 114, 101, 47, 108, 97, 98, 101, 108, 46, 114, 101, 97, 115, 111, 110, 115, 36, 50]], .agg [.lit (.int .i64 4), .held [110, 101, 119, 115, 119, 105, 114, 101, 47, 108, 97, 98, 101, 108, 46, 114, 101, 97, 115, 111, 110, 115, 36, 51]], .agg [.lit (.int .i64 5), .held [110, 101, 119, 115, 119, 105, 114, 101, 47, 108, 97, 98, 101, 108, 46, 114, 101, 97, 115, 111, 110, 115, 36, 52]], .agg [.lit (.int .i64 6), .held [110, 101, 119, 115, 119, 105, 114, 101, 47, 108, 97, 98, 101, 108, 46, 114, 101, 97, 115, 111, 110, 115, 36, 53]], .agg [.lit (.int .i64 7), .held [110, 101, 119, 115, 119, 105, 114, 101, 47, 108, 97, 98, 101, 108, 46, 114, 101, 97, 115, 111, 110, 115, 36, 54]]] [], p) := hd
    rcases DataW.trod_slice Tryd.underlying97 hd' with ⟨_, hx⟩ | ⟨a, len, cap, elems, rest, n, _, hcs, hx, _, hcap, _, hlen, hel, _⟩
    · cases hx
    · have hx1 := congrArg Prod.fst hx
      simp only [] at hx1
      injection hx1 with hx1 hx2
      have hl6 : len = 6 := by
        rw [← hlen]
        have := congrArg List.length hx1
        simp at this
        exact this.symm
      subst hl6
      match elems, hlen with
      | [x0, x1, x2, x3, x4, x5], _ =>
        simp only [List.map_cons, List.map_nil, List.cons.injEq, and_true] at hx1
        obtain ⟨y0, y1, y2, y3, y4, y5⟩ := hx1
        rw [cells100] at hel
        have key : ∀ (i : Nat) (x : DataW _ × List MemPlace) (k : Int) (f0 : FuncId) (b : UInt8) (r : List UInt8), i < 6 → [x0, x1, x2, x3, x4, x5][i]? = some x → DataW.agg [DataW.lit (.int .i64 k), DataW.held (b :: r)] = x.1 → (((List.range Tryd.prog.funcs.size).filter fun f => (Tryd.prog.funcs[f]?).any (·.name.toUTF8.data.toList == b :: r)) = [f0]) →
            W.cell? (a.add (i * 2)) = some (.int .i64 k) ∧ W.cell? ((a.add (i * 2)).add 1) = some (.func (.func f0) #[] #[]) := by
          intro i x k f0 b r hi hxi hxx hone
          have h1 := hel i hi
          rw [hxi] at h1
          cases hc : W.cells? 0 (a.add (i * 2)) 2 with
          | none => rw [hc] at h1; cases h1
          | some c =>
            rw [hc] at h1
            obtain ⟨u, v, rfl, q1, q2⟩ := cells2 hc
            obtain ⟨d, pl⟩ := x
            simp only [] at hxx
            subst hxx
            have := row_of hone (show DataW.trod (funcToken Tryd.prog) Tryd.prog W 0 (fun _ => true) true n 100 [u, v] = _ from h1)
            simp only [List.cons.injEq, and_true] at this
            rw [this.1] at q1
            rw [this.2] at q2
            exact ⟨q1, q2⟩
        have k0 := key 0 x0 2 111 _ _ (by omega) rfl y0 (by kernel_rfl)
        have k1 := key 1 x1 3 112 _ _ (by omega) rfl y1 (by kernel_rfl)
        have k2 := key 2 x2 4 113 _ _ (by omega) rfl y2 (by kernel_rfl)
        have k3 := key 3 x3 5 114 _ _ (by omega) rfl y3 (by kernel_rfl)
        have k4 := key 4 x4 6 117 _ _ (by omega) rfl y4 (by kernel_rfl)
        have k5 := key 5 x5 7 121 _ _ (by omega) rfl y5 (by kernel_rfl)
        obtain ⟨b, off, spot⟩ := a
        have hspot : spot = none := by simpa [Addr.add] using World.cell?_spot k0.1
        subst hspot
        have had : ∀ m, (⟨b, off, none⟩ : Addr).add m = ⟨b, off + m, none⟩ := fun m => by unfold Addr.add; by_cases hm : m = 0 <;> simp [hm]
        simp only [had] at k0 k1 k2 k3 k4 k5
        rw [hcs]
        refine Rels.cons ?_ (Rels.nil _)
        refine VRel.lst (xs := [.agg [.i .i64 2, .fn (.func 111) [] []], .agg [.i .i64 3, .fn (.func 112) [] []], .agg [.i .i64 4, .fn (.func 113) [] []], .agg [.i .i64 5, .fn (.func 114) [] []], .agg [.i .i64 6, .fn (.func 117) [] []], .agg [.i .i64 7, .fn (.func 121) [] []]])
          (sz := 2) (cvs := [.int .i64 2, .func (.func 111) #[] #[], .int .i64 3, .func (.func 112) #[] #[], .int .i64 4, .func (.func 113) #[] #[], .int .i64 5, .func (.func 114) #[] #[], .int .i64 6, .func (.func 117) #[] #[], .int .i64 7, .func (.func 121) #[] #[]]) (fun x hx => ?_) rfl (fun j cv hj => ?_) (fun j v cv h1 h2 => ?_) hcap trivial
        · simp only [List.mem_cons, List.not_mem_nil, or_false] at hx
          rcases hx with rfl | rfl | rfl | rfl | rfl | rfl <;> rfl
        · show W.cell? ⟨b, off + j, none⟩ = some cv
          match j, hj with
          | 0, hj => cases hj; exact k0.1
          | 1, hj => cases hj; exact k0.2
          | 2, hj => cases hj; exact k1.1
          | 3, hj => cases hj; exact k1.2
          | 4, hj => cases hj; exact k2.1
          | 5, hj => cases hj; exact k2.2
          | 6, hj => cases hj; exact k3.1
          | 7, hj => cases hj; exact k3.2
          | 8, hj => cases hj; exact k4.1
          | 9, hj => cases hj; exact k4.2
          | 10, hj => cases hj; exact k5.1
          | 11, hj => cases hj; exact k5.2
          | j + 12, hj => simp at hj
        · match j, h1, h2 with
          | 0, h1, h2 => cases h1; cases h2; exact .i _ _
          | 1, h1, h2 => cases h1; cases h2; exact VRel.func _ _
          | 2, h1, h2 => cases h1; cases h2; exact .i _ _
          | 3, h1, h2 => cases h1; cases h2; exact VRel.func _ _
          | 4, h1, h2 => cases h1; cases h2; exact .i _ _
          | 5, h1, h2 => cases h1; cases h2; exact VRel.func _ _
          | 6, h1, h2 => cases h1; cases h2; exact .i _ _
          | 7, h1, h2 => cases h1; cases h2; exact VRel.func _ _
          | 8, h1, h2 => cases h1; cases h2; exact .i _ _
          | 9, h1, h2 => cases h1; cases h2; exact VRel.func _ _
          | 10, h1, h2 => cases h1; cases h2; exact .i _ _
          | 11, h1, h2 => cases h1; cases h2; exact VRel.func _ _
          | j + 12, h1, h2 => simp [flat, V.cells] at h1
  | n + 1, hv => cases hv
theorem wf_in {n : Int} (h : (Lit.int .i64 n).wf = true) : inr n = true := by
  simp [Lit.wf, IntKind.min, IntKind.max, IntKind.signed, IntKind.bits] at h
  simp [inr]
  omega
/-- The door's own heap meets the condition. -/
theorem door_met (os : Os) (args : Array Value) : laidMetH Tryd.prog laid ((World.doorLaid Tryd.prog 26 os).forCall (fun _ _ => 0) ⟨#[], args, []⟩).memory :=
  laidMetH_of_parts3 (fuel := 8) (laidMet_of_run' 8 (by kernel_rfl) (by kernel_rfl)) (by kernel_rfl) (by kernel_rfl)
/-- A law, lifted. -/
theorem lift (os : Os) (started : os.Started) (H : Type) (enc : TypeId × Value → H) {f : FuncId} {fn : Func} {s : ChangeSpec} (ts : List Ty) (noInit : Tryd.prog.inits.idxOf? f = none) (hf : Tryd.prog.funcs[f]? = some fn)
    (hoks : Ty.oks Tryd.prog ts fn.params.toList = true) (hr : fn.params.toList.all (fun t => Tryd.prog.readableRec t && decide (t < Tryd.prog.types.size)) = true) (hrt : fn.resultTypes = #[4]) (hvars : s.vars = [])
    (hspec : ∀ ds : List (DataW H), ds.length = ts.length → s.fn H ds = { results := [.lit (.bool true)], args := ds })
    (witness : ∃ (w : World) (tape : Tape) (i : Input), w.os = os ∧ (w.forCall tape i).Shaped Tryd.prog ∧ i.vars = [] ∧ Input.okWide Tryd.prog (w.forCall tape i) .any w.heap.size f i ∧
      ((s.pre enc Tryd.prog fn [] false (w.forCall tape i).memory i.args ∧ laidMetH Tryd.prog laid (w.forCall tape i).memory) ∧ sizedMet enc Tryd.prog fn (OpenSpec.ofChange s) false (w.forCall tape i).memory i.args) ∧ ({} : Assume).holds Tryd.prog (lone (Frame.enter Tryd.prog f i.args .normal) [] (w.forCall tape i)))
    (hlaw : ∀ x : Ty.dens ts, Ty.wfs ts x → SemF Tryd.prog Γ f (Ty.vals ts x) [] [] (.sb true) [] []) :
    ReturnsInHanded {} Tryd.checked os f .any (fun w args => (s.pre enc Tryd.prog fn [] false w args ∧ laidMetH Tryd.prog laid w) ∧ sizedMet enc Tryd.prog fn (OpenSpec.ofChange s) false w args)
      (s.post enc Tryd.prog fn false true false false) := by
  refine returnsInHanded_of_change_and (C := Tryd.checked) (X := fun w _ => laidMetH Tryd.prog laid w) (fun _ _ _ hh h => h.of_heap hh) own started noInit hf witness ?_
  intro W base args ds gs before hval0 hW _ _ hL _
  have hval : ∀ (j : Nat) t v, fn.params[j]? = some t → args[j]? = some v → Value.okWide Tryd.prog W .any base t v := hval0
  have hW' := hW
  obtain ⟨p, q, hA0, hV, rfl, hfz, hnd⟩ := hW
  have hA : DataW.TrodAll enc Tryd.prog W 0 (fun _ => true) true fn.params.toList args.toList ds p := hA0
  rw [hvars] at hV
  obtain ⟨rfl, rfl⟩ := trodVars_none hV
  obtain ⟨x, hw, ha, hl⟩ := open_vals (G := Gh.start W) (fun b off cv h => h) ts hoks (fun j t v a b => hval j t v (by simpa using a) (by simpa using b)) hA
  exact calls_true (P := Tryd.prog) (Γ := Γ) hf laidOut hvars hW' (by rw [List.append_nil]; exact hspec ds hl) hrt Tryd.underlying4 (fun t ht => by
    have := List.all_eq_true.1 hr t ht
    simpa using this) (globs hL) ha (hlaw x hw)
end L
end Go.Proofs.YthjiodeaepigmaaDoor

/- Package label: LabelClocks (newswirelaw10's function 8). -/
set_option linter.unusedVariables false
set_option linter.unusedSimpArgs false
set_option maxRecDepth 100000
set_option maxHeartbeats 4000000
namespace Go.Proofs.YthjiodeaepigmaaDoor
open Go
namespace L
/-- A label that is open by a clock stays open by the clocks that agree with it. -/
theorem clocks {x : Ty.den labT} {rt rc now dr : Int} {me : List Int} {mc : List (Ty.den conf)} {mk : List Int} (h : rsn x rt rc now dr me mc mk = 0) (h1 : vX x = true) (hu : 0 ≤ aU x)
    (n1 : 0 ≤ now) (n2 : now ≤ 390) (d1 : 0 ≤ dr) (d2 : dr ≤ 14) (r1 : risingD me 19 = true) (r2 : countsD mc 0 = true) (r3 : risingD mk 19 = true) (h3 : 0 ≤ rt ∧ rt ≤ 7) (h4 : 0 ≤ rc ∧ rc ≤ 7) :
    (∀ d, -dr ≤ d → d ≤ dr → ¬ now + d < aU x ∧ rsn x rt rc (now + d) 0 me mc mk = 0) ∧ ∀ d, 0 ≤ d → d ≤ dr → rsn x rt rc now d me mc mk = 0 := by
  have hh := (rsn_zero.1 h).2.2.2.1
  rw [wrap_in (by omega) (by omega)] at hh
  refine ⟨fun d a b => ⟨by omega, rsn_at h h1 (validM_of (by omega) (by omega) (by omega) (by omega) r1 r2 r3) h3 h4 ?_⟩, fun d a b => rsn_at h h1 (validM_of (by omega) (by omega) (by omega) (by omega) r1 r2 r3) h3 h4 ?_⟩
  · rw [wrap_in (by omega) (by omega)]; omega
  · rw [wrap_in (by omega) (by omega)]; omega
theorem law8 (x0 x1 x2 x3 x4 x5 x6 y0 y1 y2 y3 y4 t c b : Int) (hx : (inr x0 && inr x1 && inr x2 && inr x3 && inr x4 && inr x5 && inr x6) = true) (hy : (inr y0 && inr y1 && inr y2 && inr y3 && inr y4) = true) (ht : inr t = true) (hc : inr c = true) (hb : inr b = true) :
    SemF Tryd.prog Γ 8 [.agg [.si .i64 x0, .si .i64 x1, .si .i64 x2, .si .i64 x3, .si .i64 x4, .si .i64 x5, .si .i64 x6], .agg [.si .i64 y0, .si .i64 y1, .si .i64 y2, .si .i64 y3, .si .i64 y4], .si .i64 t, .si .i64 c, .si .i64 b] [] [] (.sb true) [] [] := by
  obtain ⟨v1, v2⟩ := made_valid x0 x1 x2 x3 x4 x5 x6
  obtain ⟨u1, u2⟩ := made_num x0 x1 x2 x3 x4 x5 x6
  obtain ⟨n1, n2, d1, d2⟩ := mom_num y0 y1 y2 y3 y4
  obtain ⟨l1, l2, l3, l4⟩ := mom_lists y0 y1 y2 y3 y4
  obtain ⟨t1, t2⟩ := pickD_lt (k := t) (n := 8) (by decide)
  obtain ⟨c1, c2⟩ := pickD_lt (k := c) (n := 8) (by decide)
  have hsz : decide (szX (madeD x0 x1 x2 x3 x4 x5 x6) ∧ szY (momD y0 y1 y2 y3 y4)) = true := decide_eq_true ⟨v2, l4⟩
  refine of_runL cfg25_ok (c8_run x0 x1 x2 x3 x4 x5 x6 y0 y1 y2 y3 y4 t c b) ?_ ?_
  all_goals
    generalize madeD x0 x1 x2 x3 x4 x5 x6 = X at *
    generalize momD y0 y1 y2 y3 y4 = Y at *
    generalize pickD t 8 = rt at *
    generalize pickD c 8 = rc at *
    have w1 : IntKind.i64.wrap (0 - bD Y) = - bD Y := by rw [wrap_in (by omega) (by omega)]; omega
    have w2 : IntKind.i64.wrap (2 * bD Y) = 2 * bD Y := wrap_in (by omega) (by omega)
    have w3 : IntKind.i64.wrap (2 * bD Y + 1) = 2 * bD Y + 1 := wrap_in (by omega) (by omega)
    have w4 : IntKind.i64.wrap (bD Y + 1) = bD Y + 1 := wrap_in (by omega) (by omega)
    rw [w1, w2, w3, w4]
    obtain ⟨p1, p2⟩ := pickD_lt (k := b) (n := 2 * bD Y + 1) (by omega)
    obtain ⟨q1, q2⟩ := pickD_lt (k := b) (n := bD Y + 1) (by omega)
    generalize pickD b (2 * bD Y + 1) = p at *
    generalize pickD b (bD Y + 1) = q at *
    have w5 : IntKind.i64.wrap (p - bD Y) = p - bD Y := wrap_in (by omega) (by omega)
    have w6 : IntKind.i64.wrap (bN Y + - bD Y) = bN Y + - bD Y := wrap_in (by omega) (by omega)
    have w7 : IntKind.i64.wrap (bN Y + bD Y) = bN Y + bD Y := wrap_in (by omega) (by omega)
    have w8 : IntKind.i64.wrap (bN Y + (p - bD Y)) = bN Y + (p - bD Y) := wrap_in (by omega) (by omega)
    rw [w5, w6, w7, w8]
    by_cases e : rsn X rt rc (bN Y) (bD Y) (bE Y) (bC Y) (bK Y) = 0
  · have hz : (rsn X rt rc (bN Y) (bD Y) (bE Y) (bC Y) (bK Y) == 0) = true := by rw [e]; rfl
    simp only [hsz, hx, hy, ht, hc, hb, hz, decide_eq_true (show (8 : Int) ≠ 0 by decide), decide_eq_true (show 2 * bD Y + 1 ≠ 0 by omega), decide_eq_true (show bD Y + 1 ≠ 0 by omega), Bool.or_true, Bool.and_true, Bool.not_true, cond_false, Option.getD_some]
  · have hz : (rsn X rt rc (bN Y) (bD Y) (bE Y) (bC Y) (bK Y) == 0) = false := by simpa using e
    simp only [hsz, hx, hy, ht, hc, hb, hz, decide_eq_true (show (8 : Int) ≠ 0 by decide), Bool.not_false, cond_true, Bool.and_true, Option.getD_some]
  · obtain ⟨k1, k2⟩ := clocks e v1 u1 n1 n2 d1 d2 l1 l2 l3 ⟨t1, by omega⟩ ⟨c1, by omega⟩
    have hz : (rsn X rt rc (bN Y) (bD Y) (bE Y) (bC Y) (bK Y) == 0) = true := by rw [e]; rfl
    obtain ⟨a1, a2⟩ := k1 (- bD Y) (by omega) (by omega)
    obtain ⟨b1, b2⟩ := k1 (bD Y) (by omega) (by omega)
    obtain ⟨g1, g2⟩ := k1 (p - bD Y) (by omega) (by omega)
    have g3 := k2 q (by omega) (by omega)
    simp only [hz, a2, b2, g2, g3, decide_eq_false a1, decide_eq_false b1, decide_eq_false g1, Bool.not_true, cond_false]
    rfl
  · have hz : (rsn X rt rc (bN Y) (bD Y) (bE Y) (bC Y) (bK Y) == 0) = false := by simpa using e
    have hp := rsn_more (proper_of v1 (validM_of n1 (by omega) d1 (by omega) l1 l2 l3) ⟨t1, by omega⟩ ⟨c1, by omega⟩) e
    simp only [hz, Bool.not_false, cond_true, decide_eq_true hp]
theorem wf7 {x0 x1 x2 x3 x4 x5 x6 : Int} (a0 : (Lit.int .i64 x0).wf = true) (a1 : (Lit.int .i64 x1).wf = true) (a2 : (Lit.int .i64 x2).wf = true) (a3 : (Lit.int .i64 x3).wf = true) (a4 : (Lit.int .i64 x4).wf = true) (a5 : (Lit.int .i64 x5).wf = true) (a6 : (Lit.int .i64 x6).wf = true) :
    (inr x0 && inr x1 && inr x2 && inr x3 && inr x4 && inr x5 && inr x6) = true := by
  rw [wf_in a0, wf_in a1, wf_in a2, wf_in a3, wf_in a4, wf_in a5, wf_in a6]; rfl
theorem wf5 {x0 x1 x2 x3 x4 : Int} (a0 : (Lit.int .i64 x0).wf = true) (a1 : (Lit.int .i64 x1).wf = true) (a2 : (Lit.int .i64 x2).wf = true) (a3 : (Lit.int .i64 x3).wf = true) (a4 : (Lit.int .i64 x4).wf = true) : (inr x0 && inr x1 && inr x2 && inr x3 && inr x4) = true := by
  rw [wf_in a0, wf_in a1, wf_in a2, wf_in a3, wf_in a4]; rfl
end L
end Go.Proofs.YthjiodeaepigmaaDoor

