/- Parts of the library of texts, one after the other: L18, L25, L26, L27, L28, L29, L30, L31, L32, L33. -/
import Derived.Test.YthjiodeaepigmaaDoorLjk
import Derived.Test.YthjiodeaepigmaaDoorRows
import Derived.Handed
import Derived.OpenShut
import Derived.LaidMore
import Derived.Test.YthjiodeaepigmaaDoorLjl
/- Package label: its laid variable; from a law's contract to a row. -/
set_option linter.unusedVariables false
set_option linter.unusedSimpArgs false
set_option maxRecDepth 100000
namespace Go.Proofs.YthjiodeaepigmaaDoor
open Go Go.ChangeShapes Go.WideShapes Go.ChangeAt Go.RowKit
theorem VRel.func (G : Gh) (f : Fn) : VRel G (.fn f [] []) (.func f #[] #[]) := .fn rfl rfl (fun j v cv h => by simp at h) (fun j v cv h => by simp at h)
/-- A variable's address, its cells known. -/
theorem VRel.glob {P : Program} {W : World} {n : String} {g : Nat} {cs : Array Value} {vs : List V} (hg : P.globalNamed n = some g) (hv : W.var? P n = some cs) (h : Rels (Gh.start W) vs cs.toList) : VRel (Gh.start W).bare (.pel [.agg vs] 0 0) (.pointer (some ⟨g, 0, none⟩)) := by
  have hp : VRel (Gh.start W) (.pel [.agg vs] 0 0) (.pointer (some ⟨g, 0 + (0 * vs.length + 0), none⟩)) := by
    refine VRel.pel (sz := vs.length) (cvs := cs.toList) (fun x hx => ?_) ?_ (fun j cv hj => ?_) (fun j v cv h1 h2 => ?_)
    · simp at hx; subst hx; rfl
    · simpa [flat, V.cells] using h.1
    · show W.cell? ⟨g, 0 + j, none⟩ = some cv
      rw [Nat.zero_add, World.var?_cell hg hv j]
      simpa using hj
    · exact h.2 j v cv (by simpa [flat, V.cells] using h1) h2
  have hb : (Gh.start W).sub (Gh.start W).bare := ⟨fun _ _ _ h => h, (fun _ _ h => by cases h), (fun _ _ h => by cases h), (fun _ _ h => by cases h)⟩
  simpa using hp.mono' hb
theorem int_of {H : Type} {enc : TypeId × Value → H} {P : Program} {w : World} {base : Nat} {sp : Nat → Bool} {held : Bool} {fuel : Nat} {t : TypeId} {k k' : IntKind} {n : Int} {c : Value} {q : List MemPlace}
    (ht : P.underlying t = some (.int k)) (h : DataW.trod enc P w base sp held fuel t [c] = some (.lit (.int k' n), q)) : c = .int k' n := by
  cases fuel with
  | zero => simp [DataW.trod] at h
  | succ fuel =>
    cases c <;> simp [DataW.trod, ht] at h
    obtain ⟨⟨hk, _⟩, ⟨rfl, rfl⟩, _⟩ := h
    rw [hk]
theorem cells2 {w : World} {base : Nat} {a : Addr} {c : List Value} (h : w.cells? base a 2 = some c) : ∃ x y, c = [x, y] ∧ w.cell? a = some x ∧ w.cell? (a.add 1) = some y := by
  unfold World.cells? at h
  split at h
  · have e0 : a.add 0 = a := by simp [Addr.add]
    simp only [List.range_succ, List.range_zero, List.nil_append, List.mapM_cons, List.mapM_nil, List.cons_append, e0] at h
    cases h0 : w.cell? a with
    | none => simp [h0] at h
    | some x =>
      cases h1 : w.cell? (a.add 1) with
      | none => simp [h0, h1] at h
      | some y => simp [h0, h1] at h; exact ⟨x, y, h.symm, rfl, rfl⟩
  · cases h
namespace L
theorem own : ownKnob Tryd.prog.godebug = none := by kernel_rfl
theorem laidOut : laidOutB Tryd.prog = true := by kernel_rfl
def laid : List (String × DataW Unit) := [("newswire/label.reasons", Rows.laid_newswire_label_reasons)]
theorem g0 : Tryd.prog.globalNamed "newswire/label.reasons" = some 0 := by kernel_rfl
theorem t0 : (Tryd.prog.globals[0]?).map (·.type) = some 97 := by kernel_rfl
theorem cells100 : Tryd.prog.cellsOf 100 = 2 := by kernel_rfl
theorem cells3 : Tryd.prog.cellsOf 3 = 1 := by kernel_rfl
theorem cells98 : Tryd.prog.cellsOf 98 = 1 := by kernel_rfl
/-- A row of the table. -/
theorem row_of {W : World} {n : Nat} {c : List Value} {k : Int} {f0 : FuncId} {b : UInt8} {r : List UInt8} {q : List MemPlace} (hone : ((List.range Tryd.prog.funcs.size).filter fun f => (Tryd.prog.funcs[f]?).any (·.name.toUTF8.data.toList == b :: r)) = [f0])
    (h : DataW.trod (funcToken Tryd.prog) Tryd.prog W 0 (fun _ => true) true n 100 c = some (.agg [.lit (.int .i64 k), .held (b :: r)], q)) : c = [.int .i64 k, .func (.func f0) #[] #[]] := by
  obtain ⟨xs, m, _, e, hl, hn, hf⟩ := DataW.trod_struct Tryd.underlying100 h
  have hl2 : c.length = 2 := hl.trans cells100
  obtain ⟨v0, v1, rfl⟩ : ∃ v0 v1, c = [v0, v1] := by
    match c, hl2 with
    | [a, b], _ => exact ⟨a, b, rfl⟩
  have e' : DataW.agg [DataW.lit (.int .i64 k), DataW.held (b :: r)] = DataW.agg (xs.map (·.1)) := congrArg Prod.fst e
  match xs, e', hf with
  | [x0, x1], e', hf =>
    simp only [List.map_cons, List.map_nil, DataW.agg.injEq, List.cons.injEq, and_true] at e'
    have f0 := hf 0 _ rfl
    have f1 := hf 1 _ rfl
    simp only [List.getElem?_cons_zero, List.getElem?_cons_succ] at f0 f1
    obtain ⟨d0, p0⟩ := x0
    obtain ⟨d1, p1⟩ := x1
    obtain ⟨rfl, rfl⟩ := e'
    have k0 : DataW.trod (funcToken Tryd.prog) Tryd.prog W 0 (fun _ => true) true m 3 [v0] = some (.lit (.int .i64 k), p0) := by
      simpa [cells3] using f0
    have k1 : DataW.trod (funcToken Tryd.prog) Tryd.prog W 0 (fun _ => true) true m 98 [v1] = some (.held (b :: r), p1) := by
      simpa [cells98] using f1
    rw [int_of Tryd.underlying3 k0, func_of_trod Tryd.underlying98 hone k1]
/-- The variable holds what the contracts take it to hold. -/
theorem globs {W : World} (h : laidMetH Tryd.prog laid W) : ∀ g v, Γ g = some v → VRel (Gh.start W).bare v (.pointer (some ⟨g, 0, none⟩)) := by
  intro g v hv
  match g, hv with
  | 0, hv =>
    obtain rfl := Option.some.inj hv
    obtain ⟨g, t, cs, fuel, p, hg, ht, hw, hd⟩ := laidMetH.funcs h (n := "newswire/label.reasons") (List.mem_singleton.2 rfl)
    obtain rfl := Option.some.inj (g0.symm.trans hg)
    obtain rfl := Option.some.inj (t0.symm.trans ht)
    refine VRel.glob g0 hw ?_
    have hd' : DataW.trod (funcToken Tryd.prog) Tryd.prog W 0 (fun _ => true) true fuel 97 cs.toList = some (.slice [.agg [.lit (.int .i64 2), .held [110, 101, 119, 115, 119, 105, 114, 101, 47, 108, 97, 98, 101, 108, 46, 114, 101, 97, 115, 111, 110, 115, 36, 49]], .agg [.lit (.int .i64 3), .held [110, 101, 119, 115, 119, 105, 114, 101, 47, 108, 97, 98, 101, 108, 46, 114, 101, 97, 115, 111, 110, 115, 36, 50]], .agg [.lit (.int .i64 4), .held [110, 101, 119, 115, 119, 105, 114, 101, 47, 108, 97, 98, 101, 108, 46, 114, 101, 97, 115, 111, 110, 115, 36, 51]], .agg [.lit (.int .i64 5), .held [110, 101, 119, 115, 119, 105, 114, 101, 47, 108, 97, 98, 101, 108, 46, 114, 101, 97, 115, 111, 110, 115, 36, 52]], .agg [.lit (.int .i64 6), .held [110, 101, 119, 115, 119, 105, 114, 101, 47, 108, 97, 98, 101, 108, 46, 114, 101, 97, 115, 111, 110, 115, 36, 53]], .agg [.lit (.int .i64 7), .held [110, 101, 119, 115, 119, 105, 114, 101, 47, 108, 97, 98, 101, 108, 46, 114, 101, 97, 115, 111, 110, 115, 36, 54]]] [], p) := hd
    rcases DataW.trod_slice Tryd.underlying97 hd' with ⟨_, hx⟩ | ⟨a, len, cap, elems, rest, n, _, hcs, hx, _, hcap, _, hlen, hel, _⟩
    · cases hx
    · have hx1 := congrArg Prod.fst hx
      simp only [] at hx1
      injection hx1 with hx1 hx2
      have hl6 : len = 6 := by
        rw [← hlen]
        have := congrArg List.length hx1
        simp at this
        exact this.symm
      subst hl6
      match elems, hlen with
      | [x0, x1, x2, x3, x4, x5], _ =>
        simp only [List.map_cons, List.map_nil, List.cons.injEq, and_true] at hx1
        obtain ⟨y0, y1, y2, y3, y4, y5⟩ := hx1
        rw [cells100] at hel
        have key : ∀ (i : Nat) (x : DataW _ × List MemPlace) (k : Int) (f0 : FuncId) (b : UInt8) (r : List UInt8), i < 6 → [x0, x1, x2, x3, x4, x5][i]? = some x → DataW.agg [DataW.lit (.int .i64 k), DataW.held (b :: r)] = x.1 → (((List.range Tryd.prog.funcs.size).filter fun f => (Tryd.prog.funcs[f]?).any (·.name.toUTF8.data.toList == b :: r)) = [f0]) →
            W.cell? (a.add (i * 2)) = some (.int .i64 k) ∧ W.cell? ((a.add (i * 2)).add 1) = some (.func (.func f0) #[] #[]) := by
          intro i x k f0 b r hi hxi hxx hone
          have h1 := hel i hi
          rw [hxi] at h1
          cases hc : W.cells? 0 (a.add (i * 2)) 2 with
          | none => rw [hc] at h1; cases h1
          | some c =>
            rw [hc] at h1
            obtain ⟨u, v, rfl, q1, q2⟩ := cells2 hc
            obtain ⟨d, pl⟩ := x
            simp only [] at hxx
            subst hxx
            have := row_of hone (show DataW.trod (funcToken Tryd.prog) Tryd.prog W 0 (fun _ => true) true n 100 [u, v] = _ from h1)
            simp only [List.cons.injEq, and_true] at this
            rw [this.1] at q1
            rw [this.2] at q2
            exact ⟨q1, q2⟩
        have k0 := key 0 x0 2 111 _ _ (by omega) rfl y0 (by kernel_rfl)
        have k1 := key 1 x1 3 112 _ _ (by omega) rfl y1 (by kernel_rfl)
        have k2 := key 2 x2 4 113 _ _ (by omega) rfl y2 (by kernel_rfl)
        have k3 := key 3 x3 5 114 _ _ (by omega) rfl y3 (by kernel_rfl)
        have k4 := key 4 x4 6 117 _ _ (by omega) rfl y4 (by kernel_rfl)
        have k5 := key 5 x5 7 121 _ _ (by omega) rfl y5 (by kernel_rfl)
        obtain ⟨b, off, spot⟩ := a
        have hspot : spot = none := by simpa [Addr.add] using World.cell?_spot k0.1
        subst hspot
        have had : ∀ m, (⟨b, off, none⟩ : Addr).add m = ⟨b, off + m, none⟩ := fun m => by unfold Addr.add; by_cases hm : m = 0 <;> simp [hm]
        simp only [had] at k0 k1 k2 k3 k4 k5
        rw [hcs]
        refine Rels.cons ?_ (Rels.nil _)
        refine VRel.lst (xs := [.agg [.i .i64 2, .fn (.func 111) [] []], .agg [.i .i64 3, .fn (.func 112) [] []], .agg [.i .i64 4, .fn (.func 113) [] []], .agg [.i .i64 5, .fn (.func 114) [] []], .agg [.i .i64 6, .fn (.func 117) [] []], .agg [.i .i64 7, .fn (.func 121) [] []]])
          (sz := 2) (cvs := [.int .i64 2, .func (.func 111) #[] #[], .int .i64 3, .func (.func 112) #[] #[], .int .i64 4, .func (.func 113) #[] #[], .int .i64 5, .func (.func 114) #[] #[], .int .i64 6, .func (.func 117) #[] #[], .int .i64 7, .func (.func 121) #[] #[]]) (fun x hx => ?_) rfl (fun j cv hj => ?_) (fun j v cv h1 h2 => ?_) hcap trivial
        · simp only [List.mem_cons, List.not_mem_nil, or_false] at hx
          rcases hx with rfl | rfl | rfl | rfl | rfl | rfl <;> rfl
        · show W.cell? ⟨b, off + j, none⟩ = some cv
          match j, hj with
          | 0, hj => cases hj; exact k0.1
          | 1, hj => cases hj; exact k0.2
          | 2, hj => cases hj; exact k1.1
          | 3, hj => cases hj; exact k1.2
          | 4, hj => cases hj; exact k2.1
          | 5, hj => cases hj; exact k2.2
          | 6, hj => cases hj; exact k3.1
          | 7, hj => cases hj; exact k3.2
          | 8, hj => cases hj; exact k4.1
          | 9, hj => cases hj; exact k4.2
          | 10, hj => cases hj; exact k5.1
          | 11, hj => cases hj; exact k5.2
          | j + 12, hj => simp at hj
        · match j, h1, h2 with
          | 0, h1, h2 => cases h1; cases h2; exact .i _ _
          | 1, h1, h2 => cases h1; cases h2; exact VRel.func _ _
          | 2, h1, h2 => cases h1; cases h2; exact .i _ _
          | 3, h1, h2 => cases h1; cases h2; exact VRel.func _ _
          | 4, h1, h2 => cases h1; cases h2; exact .i _ _
          | 5, h1, h2 => cases h1; cases h2; exact VRel.func _ _
          | 6, h1, h2 => cases h1; cases h2; exact .i _ _
          | 7, h1, h2 => cases h1; cases h2; exact VRel.func _ _
          | 8, h1, h2 => cases h1; cases h2; exact .i _ _
          | 9, h1, h2 => cases h1; cases h2; exact VRel.func _ _
          | 10, h1, h2 => cases h1; cases h2; exact .i _ _
          | 11, h1, h2 => cases h1; cases h2; exact VRel.func _ _
          | j + 12, h1, h2 => simp [flat, V.cells] at h1
  | n + 1, hv => cases hv
theorem wf_in {n : Int} (h : (Lit.int .i64 n).wf = true) : inr n = true := by
  simp [Lit.wf, IntKind.min, IntKind.max, IntKind.signed, IntKind.bits] at h
  simp [inr]
  omega
/-- The door's own heap meets the condition. -/
theorem door_met (os : Os) (args : Array Value) : laidMetH Tryd.prog laid ((World.doorLaid Tryd.prog 26 os).forCall (fun _ _ => 0) ⟨#[], args, []⟩).memory :=
  laidMetH_of_parts3 (fuel := 8) (laidMet_of_run' 8 (by kernel_rfl) (by kernel_rfl)) (by kernel_rfl) (by kernel_rfl)
/-- A law, lifted. -/
theorem lift (os : Os) (started : os.Started) (H : Type) (enc : TypeId × Value → H) {f : FuncId} {fn : Func} {s : ChangeSpec} (ts : List Ty) (noInit : Tryd.prog.inits.idxOf? f = none) (hf : Tryd.prog.funcs[f]? = some fn)
    (hoks : Ty.oks Tryd.prog ts fn.params.toList = true) (hr : fn.params.toList.all (fun t => Tryd.prog.readableRec t && decide (t < Tryd.prog.types.size)) = true) (hrt : fn.resultTypes = #[4]) (hvars : s.vars = [])
    (hspec : ∀ ds : List (DataW H), ds.length = ts.length → s.fn H ds = { results := [.lit (.bool true)], args := ds })
    (witness : ∃ (w : World) (tape : Tape) (i : Input), w.os = os ∧ (w.forCall tape i).Shaped Tryd.prog ∧ i.vars = [] ∧ Input.okWide Tryd.prog (w.forCall tape i) .any w.heap.size f i ∧
      ((s.pre enc Tryd.prog fn [] false (w.forCall tape i).memory i.args ∧ laidMetH Tryd.prog laid (w.forCall tape i).memory) ∧ sizedMet enc Tryd.prog fn (OpenSpec.ofChange s) false (w.forCall tape i).memory i.args) ∧ ({} : Assume).holds Tryd.prog (lone (Frame.enter Tryd.prog f i.args .normal) [] (w.forCall tape i)))
    (hlaw : ∀ x : Ty.dens ts, Ty.wfs ts x → SemF Tryd.prog Γ f (Ty.vals ts x) [] [] (.sb true) [] []) :
    ReturnsInHanded {} Tryd.checked os f .any (fun w args => (s.pre enc Tryd.prog fn [] false w args ∧ laidMetH Tryd.prog laid w) ∧ sizedMet enc Tryd.prog fn (OpenSpec.ofChange s) false w args)
      (s.post enc Tryd.prog fn false true false false) := by
  refine returnsInHanded_of_change_and (C := Tryd.checked) (X := fun w _ => laidMetH Tryd.prog laid w) (fun _ _ _ hh h => h.of_heap hh) own started noInit hf witness ?_
  intro W base args ds gs before hval0 hW _ _ hL _
  have hval : ∀ (j : Nat) t v, fn.params[j]? = some t → args[j]? = some v → Value.okWide Tryd.prog W .any base t v := hval0
  have hW' := hW
  obtain ⟨p, q, hA0, hV, rfl, hfz, hnd⟩ := hW
  have hA : DataW.TrodAll enc Tryd.prog W 0 (fun _ => true) true fn.params.toList args.toList ds p := hA0
  rw [hvars] at hV
  obtain ⟨rfl, rfl⟩ := trodVars_none hV
  obtain ⟨x, hw, ha, hl⟩ := open_vals (G := Gh.start W) (fun b off cv h => h) ts hoks (fun j t v a b => hval j t v (by simpa using a) (by simpa using b)) hA
  exact calls_true (P := Tryd.prog) (Γ := Γ) hf laidOut hvars hW' (by rw [List.append_nil]; exact hspec ds hl) hrt Tryd.underlying4 (fun t ht => by
    have := List.all_eq_true.1 hr t ht
    simpa using this) (globs hL) ha (hlaw x hw)
end L
end Go.Proofs.YthjiodeaepigmaaDoor

/- Package label: LabelClocks (newswirelaw10's function 8). -/
set_option linter.unusedVariables false
set_option linter.unusedSimpArgs false
set_option maxRecDepth 100000
set_option maxHeartbeats 4000000
namespace Go.Proofs.YthjiodeaepigmaaDoor
open Go
namespace L
/-- A label that is open by a clock stays open by the clocks that agree with it. -/
theorem clocks {x : Ty.den labT} {rt rc now dr : Int} {me : List Int} {mc : List (Ty.den conf)} {mk : List Int} (h : rsn x rt rc now dr me mc mk = 0) (h1 : vX x = true) (hu : 0 ≤ aU x)
    (n1 : 0 ≤ now) (n2 : now ≤ 390) (d1 : 0 ≤ dr) (d2 : dr ≤ 14) (r1 : risingD me 19 = true) (r2 : countsD mc 0 = true) (r3 : risingD mk 19 = true) (h3 : 0 ≤ rt ∧ rt ≤ 7) (h4 : 0 ≤ rc ∧ rc ≤ 7) :
    (∀ d, -dr ≤ d → d ≤ dr → ¬ now + d < aU x ∧ rsn x rt rc (now + d) 0 me mc mk = 0) ∧ ∀ d, 0 ≤ d → d ≤ dr → rsn x rt rc now d me mc mk = 0 := by
  have hh := (rsn_zero.1 h).2.2.2.1
  rw [wrap_in (by omega) (by omega)] at hh
  refine ⟨fun d a b => ⟨by omega, rsn_at h h1 (validM_of (by omega) (by omega) (by omega) (by omega) r1 r2 r3) h3 h4 ?_⟩, fun d a b => rsn_at h h1 (validM_of (by omega) (by omega) (by omega) (by omega) r1 r2 r3) h3 h4 ?_⟩
  · rw [wrap_in (by omega) (by omega)]; omega
  · rw [wrap_in (by omega) (by omega)]; omega
theorem law8 (x0 x1 x2 x3 x4 x5 x6 y0 y1 y2 y3 y4 t c b : Int) (hx : (inr x0 && inr x1 && inr x2 && inr x3 && inr x4 && inr x5 && inr x6) = true) (hy : (inr y0 && inr y1 && inr y2 && inr y3 && inr y4) = true) (ht : inr t = true) (hc : inr c = true) (hb : inr b = true) :
    SemF Tryd.prog Γ 8 [.agg [.si .i64 x0, .si .i64 x1, .si .i64 x2, .si .i64 x3, .si .i64 x4, .si .i64 x5, .si .i64 x6], .agg [.si .i64 y0, .si .i64 y1, .si .i64 y2, .si .i64 y3, .si .i64 y4], .si .i64 t, .si .i64 c, .si .i64 b] [] [] (.sb true) [] [] := by
  obtain ⟨v1, v2⟩ := made_valid x0 x1 x2 x3 x4 x5 x6
  obtain ⟨u1, u2⟩ := made_num x0 x1 x2 x3 x4 x5 x6
  obtain ⟨n1, n2, d1, d2⟩ := mom_num y0 y1 y2 y3 y4
  obtain ⟨l1, l2, l3, l4⟩ := mom_lists y0 y1 y2 y3 y4
  obtain ⟨t1, t2⟩ := pickD_lt (k := t) (n := 8) (by decide)
  obtain ⟨c1, c2⟩ := pickD_lt (k := c) (n := 8) (by decide)
  have hsz : decide (szX (madeD x0 x1 x2 x3 x4 x5 x6) ∧ szY (momD y0 y1 y2 y3 y4)) = true := decide_eq_true ⟨v2, l4⟩
  refine of_runL cfg25_ok (c8_run x0 x1 x2 x3 x4 x5 x6 y0 y1 y2 y3 y4 t c b) ?_ ?_
  all_goals
    generalize madeD x0 x1 x2 x3 x4 x5 x6 = X at *
    generalize momD y0 y1 y2 y3 y4 = Y at *
    generalize pickD t 8 = rt at *
    generalize pickD c 8 = rc at *
    have w1 : IntKind.i64.wrap (0 - bD Y) = - bD Y := by rw [wrap_in (by omega) (by omega)]; omega
    have w2 : IntKind.i64.wrap (2 * bD Y) = 2 * bD Y := wrap_in (by omega) (by omega)
    have w3 : IntKind.i64.wrap (2 * bD Y + 1) = 2 * bD Y + 1 := wrap_in (by omega) (by omega)
    have w4 : IntKind.i64.wrap (bD Y + 1) = bD Y + 1 := wrap_in (by omega) (by omega)
    rw [w1, w2, w3, w4]
    obtain ⟨p1, p2⟩ := pickD_lt (k := b) (n := 2 * bD Y + 1) (by omega)
    obtain ⟨q1, q2⟩ := pickD_lt (k := b) (n := bD Y + 1) (by omega)
    generalize pickD b (2 * bD Y + 1) = p at *
    generalize pickD b (bD Y + 1) = q at *
    have w5 : IntKind.i64.wrap (p - bD Y) = p - bD Y := wrap_in (by omega) (by omega)
    have w6 : IntKind.i64.wrap (bN Y + - bD Y) = bN Y + - bD Y := wrap_in (by omega) (by omega)
    have w7 : IntKind.i64.wrap (bN Y + bD Y) = bN Y + bD Y := wrap_in (by omega) (by omega)
    have w8 : IntKind.i64.wrap (bN Y + (p - bD Y)) = bN Y + (p - bD Y) := wrap_in (by omega) (by omega)
    rw [w5, w6, w7, w8]
    by_cases e : rsn X rt rc (bN Y) (bD Y) (bE Y) (bC Y) (bK Y) = 0
  · have hz : (rsn X rt rc (bN Y) (bD Y) (bE Y) (bC Y) (bK Y) == 0) = true := by rw [e]; rfl
    simp only [hsz, hx, hy, ht, hc, hb, hz, decide_eq_true (show (8 : Int) ≠ 0 by decide), decide_eq_true (show 2 * bD Y + 1 ≠ 0 by omega), decide_eq_true (show bD Y + 1 ≠ 0 by omega), Bool.or_true, Bool.and_true, Bool.not_true, cond_false, Option.getD_some]
  · have hz : (rsn X rt rc (bN Y) (bD Y) (bE Y) (bC Y) (bK Y) == 0) = false := by simpa using e
    simp only [hsz, hx, hy, ht, hc, hb, hz, decide_eq_true (show (8 : Int) ≠ 0 by decide), Bool.not_false, cond_true, Bool.and_true, Option.getD_some]
  · obtain ⟨k1, k2⟩ := clocks e v1 u1 n1 n2 d1 d2 l1 l2 l3 ⟨t1, by omega⟩ ⟨c1, by omega⟩
    have hz : (rsn X rt rc (bN Y) (bD Y) (bE Y) (bC Y) (bK Y) == 0) = true := by rw [e]; rfl
    obtain ⟨a1, a2⟩ := k1 (- bD Y) (by omega) (by omega)
    obtain ⟨b1, b2⟩ := k1 (bD Y) (by omega) (by omega)
    obtain ⟨g1, g2⟩ := k1 (p - bD Y) (by omega) (by omega)
    have g3 := k2 q (by omega) (by omega)
    simp only [hz, a2, b2, g2, g3, decide_eq_false a1, decide_eq_false b1, decide_eq_false g1, Bool.not_true, cond_false]
    rfl
  · have hz : (rsn X rt rc (bN Y) (bD Y) (bE Y) (bC Y) (bK Y) == 0) = false := by simpa using e
    have hp := rsn_more (proper_of v1 (validM_of n1 (by omega) d1 (by omega) l1 l2 l3) ⟨t1, by omega⟩ ⟨c1, by omega⟩) e
    simp only [hz, Bool.not_false, cond_true, decide_eq_true hp]
theorem wf7 {x0 x1 x2 x3 x4 x5 x6 : Int} (a0 : (Lit.int .i64 x0).wf = true) (a1 : (Lit.int .i64 x1).wf = true) (a2 : (Lit.int .i64 x2).wf = true) (a3 : (Lit.int .i64 x3).wf = true) (a4 : (Lit.int .i64 x4).wf = true) (a5 : (Lit.int .i64 x5).wf = true) (a6 : (Lit.int .i64 x6).wf = true) :
    (inr x0 && inr x1 && inr x2 && inr x3 && inr x4 && inr x5 && inr x6) = true := by
  rw [wf_in a0, wf_in a1, wf_in a2, wf_in a3, wf_in a4, wf_in a5, wf_in a6]; rfl
theorem wf5 {x0 x1 x2 x3 x4 : Int} (a0 : (Lit.int .i64 x0).wf = true) (a1 : (Lit.int .i64 x1).wf = true) (a2 : (Lit.int .i64 x2).wf = true) (a3 : (Lit.int .i64 x3).wf = true) (a4 : (Lit.int .i64 x4).wf = true) : (inr x0 && inr x1 && inr x2 && inr x3 && inr x4) = true := by
  rw [wf_in a0, wf_in a1, wf_in a2, wf_in a3, wf_in a4]; rfl
end L
end Go.Proofs.YthjiodeaepigmaaDoor

/- Package label: joined; the loops of LabelOnceOpen. -/
set_option linter.unusedVariables false
set_option linter.unusedSimpArgs false
set_option maxRecDepth 100000
set_option maxHeartbeats 4000000
namespace Go.Proofs.YthjiodeaepigmaaDoor
open Go
namespace L
-- 
-- 
/-- A round that ends at the head, with slots that say more. -/
theorem toHead {h : HP} {c : Code} {x : St} {vs : List V} {ob : Ob} {nm : Nm} (y : h.den) (k : SemC Tryd.prog Γ c x .normal (St.of h.n h.lv vs ob nm h.kh h.kt)) (hy : h.rd1 vs ob nm = some y) : SemC Tryd.prog Γ c x .normal (h.st y) := k.post (HP.rd1_imp hy)
def hasA (l : List Int) (n : Int) : Bool := l.any fun x => x == n
theorem hasA_succ {l : List Int} {i : Nat} (h : i < l.length) (n : Int) : hasA (l.take (i + 1)) n = (hasA (l.take i) n || l.getD i 0 == n) := by
  unfold hasA
  rw [List.take_add_one, List.any_append, List.getElem?_eq_getElem h, getD_eq h]
  simp
def hp_jo : HP := { n := 50, lv := [0, 1, 5, 6], sp := [.ty (.slice ity), .ty (.slice ity), .bz 0, .ty ity], op := [], bp := [.arr ity], bv := [(2, ity)] }
def lve_jo : Ex → List Nat
  | .normal => [0, 1, 5, 6]
  | .exit 0 => [5]
  | _ => []
theorem bd_jo : Tryd.f35.body = some (root 35) := by kernel_rfl
theorem le_jo : (loops (root 35))[0]? = some (lp 35 0) := by kernel_rfl
theorem li_jo : Lies (root 35) 1 (lp 35 0) := Lies.of_take (n := 2) (by kernel_rfl)
def hp_ja : HP := { n := 50, lv := [0, 1, 5, 6, 7, 8], sp := [.ty (.slice ity), .ty (.slice ity), .bz 0, .ty ity, .ty .bool, .ty ity], op := [], bp := [.arr ity] }
def lve_ja : Ex → List Nat
  | .normal => [0, 1, 5, 6, 7, 8]
  | .exit 2 => [0, 1, 5, 6, 7]
  | _ => []
theorem bd_ja : Tryd.f35.body = some (root 35) := by kernel_rfl
theorem le_ja : (loops (root 35))[1]? = some (lp 35 1) := by kernel_rfl
theorem li_ja : Lies (root 35) 2 (lp 35 1) := Lies.of_take (n := 0) (by kernel_rfl)
def hp_jb : HP := { n := 50, lv := [0, 1, 5, 6, 7, 9], sp := [.ty (.slice ity), .ty (.slice ity), .bz 0, .ty ity, .ty .bool, .ty ity], op := [], bp := [.arr ity] }
def lve_jb : Ex → List Nat
  | .normal => [0, 1, 5, 6, 7, 9]
  | .exit 4 => [0, 1, 5, 6, 7]
  | _ => []
theorem bd_jb : Tryd.f35.body = some (root 35) := by kernel_rfl
theorem le_jb : (loops (root 35))[2]? = some (lp 35 2) := by kernel_rfl
theorem li_jb : Lies (root 35) 3 (lp 35 2) := Lies.of_take (n := 0) (by kernel_rfl)
def st_ja (a b : List Int) (j : Nat) (n : Int) (q : Bool) (i : Int) (l : List Int) : St := hp_ja.st ⟨(a, b, j, n, q, i, ()), (), (l, ())⟩
noncomputable def rn_ja (a b : List Int) (j : Nat) (n : Int) (q : Bool) (i : Int) (l : List Int) := outa lve_ja (evCK Tryd.prog Γ (cfM Tryd.prog Γ cfg25 30) (cfg25.lo 35) [] 60 2 (lp 35 1) (st_ja a b j n q i l))
theorem rn_ja_eq (a b : List Int) (j : Nat) (n : Int) (q : Bool) (i : Int) (l : List Int) : (rn_ja a b j n q i l).run = (bif decide (i < (Nat.cast (a.length) : Int)) then (bif q then (some ((Ex.normal, [V.slst Tag.ro ity a, V.slst Tag.ro ity b, V.bs true (0 : Nat) (0 : Nat) j, V.si IntKind.i64 n, V.b true, V.si IntKind.i64 (IntKind.i64.wrap (i + (1 : Int)))], [], [some (Bf.live (BC.arr ity l))], (50 : Nat), (0 : Nat), (0 : Nat)))) else (bif decide ((0 : Int) ≤ i ∧ i < (Nat.cast (a.length) : Int)) then (some ((Ex.normal, [V.slst Tag.ro ity a, V.slst Tag.ro ity b, V.bs true (0 : Nat) (0 : Nat) j, V.si IntKind.i64 n, V.sb (a.getD i.toNat (0 : Int) == n), V.si IntKind.i64 (IntKind.i64.wrap (i + (1 : Int)))], [], [some (Bf.live (BC.arr ity l))], (50 : Nat), (0 : Nat), (0 : Nat)))) else none)) else (some ((Ex.exit (2 : Nat), [V.slst Tag.ro ity a, V.slst Tag.ro ity b, V.bs true (0 : Nat) (0 : Nat) j, V.si IntKind.i64 n, V.sb q], [], [some (Bf.live (BC.arr ity l))], (50 : Nat), (0 : Nat), (0 : Nat))))) := by kernel_rfl
theorem rn_ja_c (a b : List Int) (j : Nat) (n : Int) (q : Bool) (i : Int) (l : List Int) {e : Ex} {vs : List V} {ob : Ob} {nm : Nm} {n' kh kt : Nat} (h : (rn_ja a b j n q i l).run = some (e, vs, ob, nm, n', kh, kt)) : SemC Tryd.prog Γ (lp 35 1) (st_ja a b j n q i l) e.to (St.of n' (lve_ja e) vs ob nm kh kt) := SemC.of_evM cfg25_ok Tryd.func35 bd_ja li_ja h
def st_jb (a b : List Int) (j : Nat) (n : Int) (q : Bool) (i : Int) (l : List Int) : St := hp_jb.st ⟨(a, b, j, n, q, i, ()), (), (l, ())⟩
noncomputable def rn_jb (a b : List Int) (j : Nat) (n : Int) (q : Bool) (i : Int) (l : List Int) := outa lve_jb (evCK Tryd.prog Γ (cfM Tryd.prog Γ cfg25 30) (cfg25.lo 35) [] 60 3 (lp 35 2) (st_jb a b j n q i l))
theorem rn_jb_eq (a b : List Int) (j : Nat) (n : Int) (q : Bool) (i : Int) (l : List Int) : (rn_jb a b j n q i l).run = (bif decide (i < (Nat.cast (b.length) : Int)) then (bif q then (some ((Ex.normal, [V.slst Tag.ro ity a, V.slst Tag.ro ity b, V.bs true (0 : Nat) (0 : Nat) j, V.si IntKind.i64 n, V.b true, V.si IntKind.i64 (IntKind.i64.wrap (i + (1 : Int)))], [], [some (Bf.live (BC.arr ity l))], (50 : Nat), (0 : Nat), (0 : Nat)))) else (bif decide ((0 : Int) ≤ i ∧ i < (Nat.cast (b.length) : Int)) then (some ((Ex.normal, [V.slst Tag.ro ity a, V.slst Tag.ro ity b, V.bs true (0 : Nat) (0 : Nat) j, V.si IntKind.i64 n, V.sb (b.getD i.toNat (0 : Int) == n), V.si IntKind.i64 (IntKind.i64.wrap (i + (1 : Int)))], [], [some (Bf.live (BC.arr ity l))], (50 : Nat), (0 : Nat), (0 : Nat)))) else none)) else (some ((Ex.exit (4 : Nat), [V.slst Tag.ro ity a, V.slst Tag.ro ity b, V.bs true (0 : Nat) (0 : Nat) j, V.si IntKind.i64 n, V.sb q], [], [some (Bf.live (BC.arr ity l))], (50 : Nat), (0 : Nat), (0 : Nat))))) := by kernel_rfl
theorem rn_jb_c (a b : List Int) (j : Nat) (n : Int) (q : Bool) (i : Int) (l : List Int) {e : Ex} {vs : List V} {ob : Ob} {nm : Nm} {n' kh kt : Nat} (h : (rn_jb a b j n q i l).run = some (e, vs, ob, nm, n', kh, kt)) : SemC Tryd.prog Γ (lp 35 2) (st_jb a b j n q i l) e.to (St.of n' (lve_jb e) vs ob nm kh kt) := SemC.of_evM cfg25_ok Tryd.func35 bd_jb li_jb h
abbrev pre_ja (a b : List Int) (j : Nat) (n : Int) (q : Bool) (i : Int) (l : List Int) : Prop := i = 0 ∧ a.length ≤ 1000000
def rs_ja (a b : List Int) (j : Nat) (n : Int) (q : Bool) (i : Int) (l : List Int) : Ex × St := (.exit 2, St.of 50 (lve_ja (.exit 2)) [.slst .ro ity a, .slst .ro ity b, .bs true 0 0 j, .si .i64 n, .sb (or q (hasA a n))] [] [il' l] hp_ja.kh hp_ja.kt)
def res_ja (a b : List Int) (j : Nat) (n : Int) (q : Bool) (i : Int) (l : List Int) : Tr (Ex × St) := .br (decide (pre_ja a b j n q i l)) (.leaf (some (.exit 2, St.of 50 (lve_ja (.exit 2)) [.slst .ro ity a, .slst .ro ity b, .bs true 0 0 j, .si .i64 n, .sb (or q (hasA a n))] [] [il' l] hp_ja.kh hp_ja.kt))) (.leaf none)
theorem res_ja_run (a b : List Int) (j : Nat) (n : Int) (q : Bool) (i : Int) (l : List Int) (h : pre_ja a b j n q i l) : (res_ja a b j n q i l).run = some (rs_ja a b j n q i l) := by
  unfold res_ja rs_ja
  rw [decide_eq_true h]
  exact rfl
theorem res_ja_no (a b : List Int) (j : Nat) (n : Int) (q : Bool) (i : Int) (l : List Int) (h : ¬ pre_ja a b j n q i l) : (res_ja a b j n q i l).run = none := Tr.run_no h
def ent_ja : LEnt := LEnt.by hp_ja fun ⟨(a, b, j, n, q, i, _), _, (l, _)⟩ => res_ja a b j n q i l
theorem ent_ja_ok (hgo : ∀ (a b : List Int) (j : Nat) (n : Int) (q : Bool) (i : Int) (l : List Int), pre_ja a b j n q i l → SemL Tryd.prog Γ (lp 35 1) (st_ja a b j n q i l) (rs_ja a b j n q i l).1.to (rs_ja a b j n q i l).2) : EntOk Tryd.prog Γ (lp 35 1) ent_ja := LEnt.by_ok fun ⟨(a, b, j, n, q, i, _), _, (l, _)⟩ ex_ s_ h_ => by
  have h_ : (res_ja a b j n q i l).run = some (ex_, s_) := h_
  by_cases hp_ : pre_ja a b j n q i l
  · rw [res_ja_run a b j n q i l hp_] at h_
    obtain ⟨rfl, rfl⟩ := Prod.mk.inj (Option.some.inj h_)
    exact hgo a b j n q i l hp_
  · rw [res_ja_no a b j n q i l hp_] at h_
    cases h_
theorem ja_go (a b : List Int) (j : Nat) (n : Int) (q : Bool) (i : Int) (l : List Int) (h : pre_ja a b j n q i l) : SemL Tryd.prog Γ (lp 35 1) (st_ja a b j n q i l) (rs_ja a b j n q i l).1.to (rs_ja a b j n q i l).2 := by
  obtain ⟨rfl, hl⟩ := h
  have h0 : (q || hasA (a.take 0) n) = q := by simp [hasA]
  have key := SemL.scan (P := Tryd.prog) (Γ := Γ) (b := lp 35 1) a.length 0 (Nat.zero_le _) (fun i => st_ja a b j n (q || hasA (a.take i) n) (i : Nat) l) (fun _ => true) (rs_ja a b j n q 0 l) ?_ ?_ ?_
  · simp only [h0] at key; exact key
  · intro i _ hi _ _
    have hw : IntKind.i64.wrap ((i : Int) + 1) = ((i + 1 : Nat) : Int) := by rw [wrap_in (by omega) (by omega)]; rfl
    have e2 : (q || hasA (a.take (i + 1)) n) = ((q || hasA (a.take i) n) || a.getD i 0 == n) := by rw [hasA_succ hi, Bool.or_assoc]
    show SemC Tryd.prog Γ (lp 35 1) (st_ja a b j n (q || hasA (a.take i) n) i l) .normal (st_ja a b j n (q || hasA (a.take (i + 1)) n) ((i + 1 : Nat) : Int) l)
    rw [e2]
    generalize (q || hasA (a.take i) n) = r
    have eq := rn_ja_eq a b j n r i l
    rw [hw, decide_eq_true (by omega : (i : Int) < (a.length : Int)), decide_eq_true (by omega : (0 : Int) ≤ (i : Int) ∧ (i : Int) < (a.length : Int)), Int.toNat_natCast] at eq
    cases r with
    | true => exact toHead (h := hp_ja) ⟨(a, b, j, n, true, ((i + 1 : Nat) : Int), ()), (), (l, ())⟩ (rn_ja_c a b j n true i l (eq.trans rfl)) rfl
    | false => exact rn_ja_c a b j n false i l (eq.trans rfl)
  · intro i _ _ _ h; cases h
  · intro _
    refine ⟨by simp [rs_ja, Ex.to], ?_⟩
    have eq := rn_ja_eq a b j n (q || hasA (a.take a.length) n) a.length l
    rw [decide_eq_false (by omega)] at eq
    have := rn_ja_c a b j n (q || hasA (a.take a.length) n) a.length l (eq.trans rfl)
    rw [List.take_length] at this ⊢
    exact this
abbrev pre_jb (a b : List Int) (j : Nat) (n : Int) (q : Bool) (i : Int) (l : List Int) : Prop := i = 0 ∧ b.length ≤ 1000000
def rs_jb (a b : List Int) (j : Nat) (n : Int) (q : Bool) (i : Int) (l : List Int) : Ex × St := (.exit 4, St.of 50 (lve_jb (.exit 4)) [.slst .ro ity a, .slst .ro ity b, .bs true 0 0 j, .si .i64 n, .sb (or q (hasA b n))] [] [il' l] hp_jb.kh hp_jb.kt)
def res_jb (a b : List Int) (j : Nat) (n : Int) (q : Bool) (i : Int) (l : List Int) : Tr (Ex × St) := .br (decide (pre_jb a b j n q i l)) (.leaf (some (.exit 4, St.of 50 (lve_jb (.exit 4)) [.slst .ro ity a, .slst .ro ity b, .bs true 0 0 j, .si .i64 n, .sb (or q (hasA b n))] [] [il' l] hp_jb.kh hp_jb.kt))) (.leaf none)
theorem res_jb_run (a b : List Int) (j : Nat) (n : Int) (q : Bool) (i : Int) (l : List Int) (h : pre_jb a b j n q i l) : (res_jb a b j n q i l).run = some (rs_jb a b j n q i l) := by
  unfold res_jb rs_jb
  rw [decide_eq_true h]
  exact rfl
theorem res_jb_no (a b : List Int) (j : Nat) (n : Int) (q : Bool) (i : Int) (l : List Int) (h : ¬ pre_jb a b j n q i l) : (res_jb a b j n q i l).run = none := Tr.run_no h
def ent_jb : LEnt := LEnt.by hp_jb fun ⟨(a, b, j, n, q, i, _), _, (l, _)⟩ => res_jb a b j n q i l
theorem ent_jb_ok (hgo : ∀ (a b : List Int) (j : Nat) (n : Int) (q : Bool) (i : Int) (l : List Int), pre_jb a b j n q i l → SemL Tryd.prog Γ (lp 35 2) (st_jb a b j n q i l) (rs_jb a b j n q i l).1.to (rs_jb a b j n q i l).2) : EntOk Tryd.prog Γ (lp 35 2) ent_jb := LEnt.by_ok fun ⟨(a, b, j, n, q, i, _), _, (l, _)⟩ ex_ s_ h_ => by
  have h_ : (res_jb a b j n q i l).run = some (ex_, s_) := h_
  by_cases hp_ : pre_jb a b j n q i l
  · rw [res_jb_run a b j n q i l hp_] at h_
    obtain ⟨rfl, rfl⟩ := Prod.mk.inj (Option.some.inj h_)
    exact hgo a b j n q i l hp_
  · rw [res_jb_no a b j n q i l hp_] at h_
    cases h_
theorem jb_go (a b : List Int) (j : Nat) (n : Int) (q : Bool) (i : Int) (l : List Int) (h : pre_jb a b j n q i l) : SemL Tryd.prog Γ (lp 35 2) (st_jb a b j n q i l) (rs_jb a b j n q i l).1.to (rs_jb a b j n q i l).2 := by
  obtain ⟨rfl, hl⟩ := h
  have h0 : (q || hasA (b.take 0) n) = q := by simp [hasA]
  have key := SemL.scan (P := Tryd.prog) (Γ := Γ) (b := lp 35 2) b.length 0 (Nat.zero_le _) (fun i => st_jb a b j n (q || hasA (b.take i) n) (i : Nat) l) (fun _ => true) (rs_jb a b j n q 0 l) ?_ ?_ ?_
  · simp only [h0] at key; exact key
  · intro i _ hi _ _
    have hw : IntKind.i64.wrap ((i : Int) + 1) = ((i + 1 : Nat) : Int) := by rw [wrap_in (by omega) (by omega)]; rfl
    have e2 : (q || hasA (b.take (i + 1)) n) = ((q || hasA (b.take i) n) || b.getD i 0 == n) := by rw [hasA_succ hi, Bool.or_assoc]
    show SemC Tryd.prog Γ (lp 35 2) (st_jb a b j n (q || hasA (b.take i) n) i l) .normal (st_jb a b j n (q || hasA (b.take (i + 1)) n) ((i + 1 : Nat) : Int) l)
    rw [e2]
    generalize (q || hasA (b.take i) n) = r
    have eq := rn_jb_eq a b j n r i l
    rw [hw, decide_eq_true (by omega : (i : Int) < (b.length : Int)), decide_eq_true (by omega : (0 : Int) ≤ (i : Int) ∧ (i : Int) < (b.length : Int)), Int.toNat_natCast] at eq
    cases r with
    | true => exact toHead (h := hp_jb) ⟨(a, b, j, n, true, ((i + 1 : Nat) : Int), ()), (), (l, ())⟩ (rn_jb_c a b j n true i l (eq.trans rfl)) rfl
    | false => exact rn_jb_c a b j n false i l (eq.trans rfl)
  · intro i _ _ _ h; cases h
  · intro _
    refine ⟨by simp [rs_jb, Ex.to], ?_⟩
    have eq := rn_jb_eq a b j n (q || hasA (b.take b.length) n) b.length l
    rw [decide_eq_false (by omega)] at eq
    have := rn_jb_c a b j n (q || hasA (b.take b.length) n) b.length l (eq.trans rfl)
    rw [List.take_length] at this ⊢
    exact this
def lo26a : LOrc := (LOrc.add (LOrc.add lo21 35 1 ent_ja) 35 2 ent_jb)
theorem lo26a_ok : LOrcOk Tryd.prog Γ lo26a := (LOrcOk.add (LOrcOk.add lo21_ok 35 1 Tryd.func35 bd_ja le_ja (ent_ja_ok ja_go)) 35 2 Tryd.func35 bd_jb le_jb (ent_jb_ok jb_go))
noncomputable def cfg26a : Cfg := cfgP orc23 lo26a
theorem cfg26a_ok : CfgOk Tryd.prog Γ cfg26a := cfgP_ok orc23_ok lo26a_ok
def st_jo (a b : List Int) (j : Nat) (n : Int) (l : List Int) : St := hp_jo.st ⟨(a, b, j, n, ()), (), (l, ())⟩
noncomputable def rn_jo (a b : List Int) (j : Nat) (n : Int) (l : List Int) := outa lve_jo (evCK Tryd.prog Γ (cfM Tryd.prog Γ cfg26a 30) (cfg26a.lo 35) [] 60 1 (lp 35 0) (st_jo a b j n l))
theorem rn_jo_eq (a b : List Int) (j : Nat) (n : Int) (l : List Int) : (rn_jo a b j n l).run = (bif decide (n < (20 : Int)) then (bif decide (pre_ja a b j n false (0 : Int) l) then (bif decide (pre_jb a b j n (false || hasA a n) (0 : Int) l) then (bif false || hasA a n || hasA b n then (bif decide ((j + 1) * 2 * 8 ≤ 281474976710656) then (some ((Ex.normal, [V.slst Tag.ro ity a, V.slst Tag.ro ity b, V.bs true (0 : Nat) (0 : Nat) (j + (1 : Nat)), V.si IntKind.i64 (IntKind.i64.wrap (n + (1 : Int)))], [], [some (Bf.live (BC.arr ity (List.take j (List.drop (0) l) ++ [n])))], (50 : Nat), (0 : Nat), (0 : Nat)))) else none) else (some ((Ex.normal, [V.slst Tag.ro ity a, V.slst Tag.ro ity b, V.bs true (0 : Nat) (0 : Nat) j, V.si IntKind.i64 (IntKind.i64.wrap (n + (1 : Int)))], [], [some (Bf.live (BC.arr ity l))], (50 : Nat), (0 : Nat), (0 : Nat))))) else none) else none) else (some ((Ex.exit (0 : Nat), [V.bs true (0 : Nat) (0 : Nat) j], [], [some (Bf.live (BC.arr ity l))], (50 : Nat), (0 : Nat), (0 : Nat))))) := by kernel_rfl
theorem rn_jo_c (a b : List Int) (j : Nat) (n : Int) (l : List Int) {e : Ex} {vs : List V} {ob : Ob} {nm : Nm} {n' kh kt : Nat} (h : (rn_jo a b j n l).run = some (e, vs, ob, nm, n', kh, kt)) : SemC Tryd.prog Γ (lp 35 0) (st_jo a b j n l) e.to (St.of n' (lve_jo e) vs ob nm kh kt) := SemC.of_evM cfg26a_ok Tryd.func35 bd_jo li_jo h
/-- The numbers that are in one of two lists. -/
def joinD (a b : List Int) (n : Nat) : List Int := ((List.range n).filter fun i : Nat => hasA a (i : Int) || hasA b (i : Int)).map fun i : Nat => (i : Int)
theorem joinD_succ (a b : List Int) (n : Nat) : joinD a b (n + 1) = joinD a b n ++ (bif hasA a (n : Int) || hasA b (n : Int) then [(n : Int)] else []) := by
  unfold joinD
  rw [List.range_succ, List.filter_append, List.map_append]
  cases h : (hasA a (n : Int) || hasA b (n : Int)) <;> simp [h]
theorem joinD_len (a b : List Int) (n : Nat) : (joinD a b n).length ≤ n := by
  unfold joinD
  rw [List.length_map]
  exact Nat.le_trans (List.length_filter_le _ _) (by simp)
abbrev pre_jo (a b : List Int) (j : Nat) (n : Int) (l : List Int) : Prop := n = 0 ∧ j = 0 ∧ l = [] ∧ a.length ≤ 1000000 ∧ b.length ≤ 1000000
def rs_jo (a b : List Int) (j : Nat) (n : Int) (l : List Int) : Ex × St := (.exit 0, St.of 50 (lve_jo (.exit 0)) [.bs true 0 0 (joinD a b 20).length] [] [il' (joinD a b 20)] hp_jo.kh hp_jo.kt)
def res_jo (a b : List Int) (j : Nat) (n : Int) (l : List Int) : Tr (Ex × St) := .br (decide (pre_jo a b j n l)) (.leaf (some (.exit 0, St.of 50 (lve_jo (.exit 0)) [.bs true 0 0 (joinD a b 20).length] [] [il' (joinD a b 20)] hp_jo.kh hp_jo.kt))) (.leaf none)
theorem res_jo_run (a b : List Int) (j : Nat) (n : Int) (l : List Int) (h : pre_jo a b j n l) : (res_jo a b j n l).run = some (rs_jo a b j n l) := by
  unfold res_jo rs_jo
  rw [decide_eq_true h]
  exact rfl
theorem res_jo_no (a b : List Int) (j : Nat) (n : Int) (l : List Int) (h : ¬ pre_jo a b j n l) : (res_jo a b j n l).run = none := Tr.run_no h
def ent_jo : LEnt := LEnt.by hp_jo fun ⟨(a, b, j, n, _), _, (l, _)⟩ => res_jo a b j n l
theorem ent_jo_ok (hgo : ∀ (a b : List Int) (j : Nat) (n : Int) (l : List Int), pre_jo a b j n l → SemL Tryd.prog Γ (lp 35 0) (st_jo a b j n l) (rs_jo a b j n l).1.to (rs_jo a b j n l).2) : EntOk Tryd.prog Γ (lp 35 0) ent_jo := LEnt.by_ok fun ⟨(a, b, j, n, _), _, (l, _)⟩ ex_ s_ h_ => by
  have h_ : (res_jo a b j n l).run = some (ex_, s_) := h_
  by_cases hp_ : pre_jo a b j n l
  · rw [res_jo_run a b j n l hp_] at h_
    obtain ⟨rfl, rfl⟩ := Prod.mk.inj (Option.some.inj h_)
    exact hgo a b j n l hp_
  · rw [res_jo_no a b j n l hp_] at h_
    cases h_
theorem jo_go (a b : List Int) (j : Nat) (n : Int) (l : List Int) (h : pre_jo a b j n l) : SemL Tryd.prog Γ (lp 35 0) (st_jo a b j n l) (rs_jo a b j n l).1.to (rs_jo a b j n l).2 := by
  obtain ⟨rfl, rfl, rfl, ha, hb⟩ := h
  refine SemL.scan 20 0 (Nat.zero_le _) (fun i => st_jo a b (joinD a b i).length (i : Nat) (joinD a b i)) (fun _ => true) _ ?_ ?_ ?_
  · intro i _ hi _ _
    have hw : IntKind.i64.wrap ((i : Int) + 1) = ((i + 1 : Nat) : Int) := by rw [wrap_in (by omega) (by omega)]; rfl
    have hl := joinD_len a b i
    have eq := rn_jo_eq a b (joinD a b i).length i (joinD a b i)
    simp only [Bool.false_or] at eq
    rw [hw, decide_eq_true (by omega : (i : Int) < (20 : Int)), decide_eq_true (show pre_ja a b (joinD a b i).length i false 0 (joinD a b i) from ⟨rfl, ha⟩), decide_eq_true (show pre_jb a b (joinD a b i).length i (hasA a i) 0 (joinD a b i) from ⟨rfl, hb⟩), decide_eq_true (by omega : ((joinD a b i).length + 1) * 2 * 8 ≤ 281474976710656), List.drop_zero, List.take_length] at eq
    have hs := joinD_succ a b i
    cases hh : (hasA a (i : Int) || hasA b (i : Int)) with
    | true =>
      rw [hh] at eq hs
      simp only [cond_true] at hs
      have := rn_jo_c a b (joinD a b i).length i (joinD a b i) (eq.trans rfl)
      rw [hs, List.length_append]
      exact this
    | false =>
      rw [hh] at eq hs
      simp only [cond_false, List.append_nil] at hs
      have := rn_jo_c a b (joinD a b i).length i (joinD a b i) (eq.trans rfl)
      rw [hs]
      exact this
  · intro i _ _ _ h; cases h
  · intro _
    refine ⟨by simp [rs_jo, Ex.to], ?_⟩
    have eq := rn_jo_eq a b (joinD a b 20).length (20 : Nat) (joinD a b 20)
    rw [decide_eq_false (by omega)] at eq
    exact rn_jo_c a b (joinD a b 20).length (20 : Nat) (joinD a b 20) (eq.trans rfl)
def lo26b : LOrc := (LOrc.add lo26a 35 0 ent_jo)
theorem lo26b_ok : LOrcOk Tryd.prog Γ lo26b := (LOrcOk.add lo26a_ok 35 0 Tryd.func35 bd_jo le_jo (ent_jo_ok jo_go))
noncomputable def cfg26b : Cfg := cfgP orc23 lo26b
theorem cfg26b_ok : CfgOk Tryd.prog Γ cfg26b := cfgP_ok orc23_ok lo26b_ok
theorem c35_run (a b : List Int) : runL cfg26b 35 [.slst .ro ity a, .slst .ro ity b] = .ok (some (decide (pre_jo a b (0) (0 : Int) []))) (V.slst Tag.ro ity (List.take (joinD a b (20)).length (List.drop (0) (joinD a b (20))))) := by kernel_rfl
/-- The most that a list says of a fact, or what was there. -/
def bestD (f : Int) (c : List (Ty.den conf)) (b : Int) : Int := c.foldl (fun b x => bif cF x == f then (if cC x > b then cC x else b) else b) b
theorem bestD_succ (f : Int) (c : List (Ty.den conf)) (b : Int) {i : Nat} (h : i < c.length) : bestD f (c.take (i + 1)) b = (bif cF (c.getD i conf.dflt) == f then (if cC (c.getD i conf.dflt) > bestD f (c.take i) b then cC (c.getD i conf.dflt) else bestD f (c.take i) b) else bestD f (c.take i) b) := by
  have e : c.getD i conf.dflt = c[i] := getD_eq h _
  unfold bestD
  rw [List.take_add_one, List.getElem?_eq_getElem h, e]
  simp only [Option.toList_some, List.foldl_append, List.foldl_cons, List.foldl_nil]
def hp_b0 : HP := { n := 112, lv := [11, 12, 13, 14, 15, 16, 17, 19, 20, 60, 61, 62], sp := [.ptr 0 0, .ptr 1 0, .ptr 2 0, .ptr 3 0, .ptr 4 0, .ty ity, .ty ity, .ty (.slice conf), .ty ity, .ty (.slice (.slice conf)), .ci 2, .ci 0], op := [.cells [.ty ity, .ty (.slice ity), .ty (.slice conf), .ty ity, .ty ity, .ty (.slice lockT)], .cells [.ty ity, .ty ity, .ty (.slice ity), .ty (.slice conf), .ty (.slice ity)], .cells [.ty ity, .ty ity, .ty (.slice ity), .ty (.slice conf), .ty (.slice ity)], .cells [.ty ity, .ty ity], .cells [.ty ity, .ty ity, .ty (.slice ity), .bz 0, .ty (.slice ity)]], bp := [.arr conf] }
def lve_b0 : Ex → List Nat
  | .normal => [11, 12, 13, 14, 15, 16, 17, 19, 20, 60, 61, 62]
  | .exit 4 => [11, 12, 13, 14, 15, 16, 17, 60, 61, 62]
  | _ => []
theorem bd_b0 : Tryd.f9.body = some (root 9) := by kernel_rfl
theorem le_b0 : (loops (root 9))[2]? = some (lp 9 2) := by kernel_rfl
theorem li_b0 : Lies (root 9) 3 (lp 9 2) := Lies.of_take (n := 0) (by kernel_rfl)
def st_b0 (f b : Int) (c : List (Ty.den conf)) (i : Int) (z : List (List (Ty.den conf))) (lu : Int) (le : List Int) (lc : List (Ty.den conf)) (lt lk : Int) (ll : List (Ty.den lockT)) (mn md : Int) (me : List Int) (mc : List (Ty.den conf)) (mk : List Int) (on od : Int) (oe : List Int) (oc : List (Ty.den conf)) (ok : List Int) (rt rc : Int) (tn td : Int) (te : List Int) (j : Nat) (tk : List Int) (l : List (Ty.den conf)) : St := hp_b0.st ⟨((), (), (), (), (), f, b, c, i, z, (), (), ()), ((lu, le, lc, lt, lk, ll, ()), (mn, md, me, mc, mk, ()), (on, od, oe, oc, ok, ()), (rt, rc, ()), (tn, td, te, j, tk, ()), ()), (l, ())⟩
noncomputable def rn_b0 (f b : Int) (c : List (Ty.den conf)) (i : Int) (z : List (List (Ty.den conf))) (lu : Int) (le : List Int) (lc : List (Ty.den conf)) (lt lk : Int) (ll : List (Ty.den lockT)) (mn md : Int) (me : List Int) (mc : List (Ty.den conf)) (mk : List Int) (on od : Int) (oe : List Int) (oc : List (Ty.den conf)) (ok : List Int) (rt rc : Int) (tn td : Int) (te : List Int) (j : Nat) (tk : List Int) (l : List (Ty.den conf)) := outa lve_b0 (evCK Tryd.prog Γ (cfM Tryd.prog Γ cfg25 30) (cfg25.lo 9) [] 60 3 (lp 9 2) (st_b0 f b c i z lu le lc lt lk ll mn md me mc mk on od oe oc ok rt rc tn td te j tk l))
theorem rn_b0_eq (f b : Int) (c : List (Ty.den conf)) (i : Int) (z : List (List (Ty.den conf))) (lu : Int) (le : List Int) (lc : List (Ty.den conf)) (lt lk : Int) (ll : List (Ty.den lockT)) (mn md : Int) (me : List Int) (mc : List (Ty.den conf)) (mk : List Int) (on od : Int) (oe : List Int) (oc : List (Ty.den conf)) (ok : List Int) (rt rc : Int) (tn td : Int) (te : List Int) (j : Nat) (tk : List Int) (l : List (Ty.den conf)) : (rn_b0 f b c i z lu le lc lt lk ll mn md me mc mk on od oe oc ok rt rc tn td te j tk l).run = (bif decide (i < (Nat.cast (c.length) : Int)) then (bif decide ((0 : Int) ≤ i ∧ i < (Nat.cast (c.length) : Int)) then (bif (cF (c.getD i.toNat conf.dflt)) == f then (bif decide ((0 : Int) ≤ i ∧ i < (Nat.cast (c.length) : Int)) then (some ((Ex.normal, [V.ptr (0 : Nat) (0 : Nat), V.ptr (1 : Nat) (0 : Nat), V.ptr (2 : Nat) (0 : Nat), V.ptr (3 : Nat) (0 : Nat), V.ptr (4 : Nat) (0 : Nat), V.si IntKind.i64 f, V.si IntKind.i64 (if (cC (c.getD i.toNat conf.dflt)) > b then (cC (c.getD i.toNat conf.dflt)) else b), V.slst Tag.ro conf c, V.si IntKind.i64 (IntKind.i64.wrap (i + (1 : Int))), V.slst Tag.ro conf.slice z, V.i IntKind.i64 (2 : Int), V.i IntKind.i64 (0 : Int)], [some [V.si IntKind.i64 lu, V.slst Tag.ro ity le, V.slst Tag.ro conf lc, V.si IntKind.i64 lt, V.si IntKind.i64 lk, V.slst Tag.ro lockT ll], some [V.si IntKind.i64 mn, V.si IntKind.i64 md, V.slst Tag.ro ity me, V.slst Tag.ro conf mc, V.slst Tag.ro ity mk], some [V.si IntKind.i64 on, V.si IntKind.i64 od, V.slst Tag.ro ity oe, V.slst Tag.ro conf oc, V.slst Tag.ro ity ok], some [V.si IntKind.i64 rt, V.si IntKind.i64 rc], some [V.si IntKind.i64 tn, V.si IntKind.i64 td, V.slst Tag.ro ity te, V.bs true (0 : Nat) (0 : Nat) j, V.slst Tag.ro ity tk]], [some (Bf.live (BC.arr conf l))], (112 : Nat), (0 : Nat), (0 : Nat)))) else none) else (some ((Ex.normal, [V.ptr (0 : Nat) (0 : Nat), V.ptr (1 : Nat) (0 : Nat), V.ptr (2 : Nat) (0 : Nat), V.ptr (3 : Nat) (0 : Nat), V.ptr (4 : Nat) (0 : Nat), V.si IntKind.i64 f, V.si IntKind.i64 b, V.slst Tag.ro conf c, V.si IntKind.i64 (IntKind.i64.wrap (i + (1 : Int))), V.slst Tag.ro conf.slice z, V.i IntKind.i64 (2 : Int), V.i IntKind.i64 (0 : Int)], [some [V.si IntKind.i64 lu, V.slst Tag.ro ity le, V.slst Tag.ro conf lc, V.si IntKind.i64 lt, V.si IntKind.i64 lk, V.slst Tag.ro lockT ll], some [V.si IntKind.i64 mn, V.si IntKind.i64 md, V.slst Tag.ro ity me, V.slst Tag.ro conf mc, V.slst Tag.ro ity mk], some [V.si IntKind.i64 on, V.si IntKind.i64 od, V.slst Tag.ro ity oe, V.slst Tag.ro conf oc, V.slst Tag.ro ity ok], some [V.si IntKind.i64 rt, V.si IntKind.i64 rc], some [V.si IntKind.i64 tn, V.si IntKind.i64 td, V.slst Tag.ro ity te, V.bs true (0 : Nat) (0 : Nat) j, V.slst Tag.ro ity tk]], [some (Bf.live (BC.arr conf l))], (112 : Nat), (0 : Nat), (0 : Nat))))) else none) else (some ((Ex.exit (4 : Nat), [V.ptr (0 : Nat) (0 : Nat), V.ptr (1 : Nat) (0 : Nat), V.ptr (2 : Nat) (0 : Nat), V.ptr (3 : Nat) (0 : Nat), V.ptr (4 : Nat) (0 : Nat), V.si IntKind.i64 f, V.si IntKind.i64 b, V.slst Tag.ro conf.slice z, V.i IntKind.i64 (2 : Int), V.i IntKind.i64 (0 : Int)], [some [V.si IntKind.i64 lu, V.slst Tag.ro ity le, V.slst Tag.ro conf lc, V.si IntKind.i64 lt, V.si IntKind.i64 lk, V.slst Tag.ro lockT ll], some [V.si IntKind.i64 mn, V.si IntKind.i64 md, V.slst Tag.ro ity me, V.slst Tag.ro conf mc, V.slst Tag.ro ity mk], some [V.si IntKind.i64 on, V.si IntKind.i64 od, V.slst Tag.ro ity oe, V.slst Tag.ro conf oc, V.slst Tag.ro ity ok], some [V.si IntKind.i64 rt, V.si IntKind.i64 rc], some [V.si IntKind.i64 tn, V.si IntKind.i64 td, V.slst Tag.ro ity te, V.bs true (0 : Nat) (0 : Nat) j, V.slst Tag.ro ity tk]], [some (Bf.live (BC.arr conf l))], (112 : Nat), (0 : Nat), (0 : Nat))))) := by kernel_rfl
theorem rn_b0_c (f b : Int) (c : List (Ty.den conf)) (i : Int) (z : List (List (Ty.den conf))) (lu : Int) (le : List Int) (lc : List (Ty.den conf)) (lt lk : Int) (ll : List (Ty.den lockT)) (mn md : Int) (me : List Int) (mc : List (Ty.den conf)) (mk : List Int) (on od : Int) (oe : List Int) (oc : List (Ty.den conf)) (ok : List Int) (rt rc : Int) (tn td : Int) (te : List Int) (j : Nat) (tk : List Int) (l : List (Ty.den conf)) {e : Ex} {vs : List V} {ob : Ob} {nm : Nm} {n' kh kt : Nat} (h : (rn_b0 f b c i z lu le lc lt lk ll mn md me mc mk on od oe oc ok rt rc tn td te j tk l).run = some (e, vs, ob, nm, n', kh, kt)) : SemC Tryd.prog Γ (lp 9 2) (st_b0 f b c i z lu le lc lt lk ll mn md me mc mk on od oe oc ok rt rc tn td te j tk l) e.to (St.of n' (lve_b0 e) vs ob nm kh kt) := SemC.of_evM cfg25_ok Tryd.func9 bd_b0 li_b0 h
abbrev pre_b0 (f b : Int) (c : List (Ty.den conf)) (i : Int) (z : List (List (Ty.den conf))) (lu : Int) (le : List Int) (lc : List (Ty.den conf)) (lt lk : Int) (ll : List (Ty.den lockT)) (mn md : Int) (me : List Int) (mc : List (Ty.den conf)) (mk : List Int) (on od : Int) (oe : List Int) (oc : List (Ty.den conf)) (ok : List Int) (rt rc : Int) (tn td : Int) (te : List Int) (j : Nat) (tk : List Int) (l : List (Ty.den conf)) : Prop := i = 0 ∧ c.length ≤ 1000000
def rs_b0 (f b : Int) (c : List (Ty.den conf)) (i : Int) (z : List (List (Ty.den conf))) (lu : Int) (le : List Int) (lc : List (Ty.den conf)) (lt lk : Int) (ll : List (Ty.den lockT)) (mn md : Int) (me : List Int) (mc : List (Ty.den conf)) (mk : List Int) (on od : Int) (oe : List Int) (oc : List (Ty.den conf)) (ok : List Int) (rt rc : Int) (tn td : Int) (te : List Int) (j : Nat) (tk : List Int) (l : List (Ty.den conf)) : Ex × St := (.exit 4, St.of 112 (lve_b0 (.exit 4)) [.ptr 0 0, .ptr 1 0, .ptr 2 0, .ptr 3 0, .ptr 4 0, .si .i64 f, .si .i64 (bestD f c b), .slst .ro (.slice conf) z, .i .i64 2, .i .i64 0] [some [.si .i64 lu, .slst .ro ity le, .slst .ro conf lc, .si .i64 lt, .si .i64 lk, .slst .ro lockT ll], some [.si .i64 mn, .si .i64 md, .slst .ro ity me, .slst .ro conf mc, .slst .ro ity mk], some [.si .i64 on, .si .i64 od, .slst .ro ity oe, .slst .ro conf oc, .slst .ro ity ok], some [.si .i64 rt, .si .i64 rc], some [.si .i64 tn, .si .i64 td, .slst .ro ity te, .bs true 0 0 j, .slst .ro ity tk]] [some (.live (.arr conf l))] hp_b0.kh hp_b0.kt)
def res_b0 (f b : Int) (c : List (Ty.den conf)) (i : Int) (z : List (List (Ty.den conf))) (lu : Int) (le : List Int) (lc : List (Ty.den conf)) (lt lk : Int) (ll : List (Ty.den lockT)) (mn md : Int) (me : List Int) (mc : List (Ty.den conf)) (mk : List Int) (on od : Int) (oe : List Int) (oc : List (Ty.den conf)) (ok : List Int) (rt rc : Int) (tn td : Int) (te : List Int) (j : Nat) (tk : List Int) (l : List (Ty.den conf)) : Tr (Ex × St) := .br (decide (pre_b0 f b c i z lu le lc lt lk ll mn md me mc mk on od oe oc ok rt rc tn td te j tk l)) (.leaf (some (.exit 4, St.of 112 (lve_b0 (.exit 4)) [.ptr 0 0, .ptr 1 0, .ptr 2 0, .ptr 3 0, .ptr 4 0, .si .i64 f, .si .i64 (bestD f c b), .slst .ro (.slice conf) z, .i .i64 2, .i .i64 0] [some [.si .i64 lu, .slst .ro ity le, .slst .ro conf lc, .si .i64 lt, .si .i64 lk, .slst .ro lockT ll], some [.si .i64 mn, .si .i64 md, .slst .ro ity me, .slst .ro conf mc, .slst .ro ity mk], some [.si .i64 on, .si .i64 od, .slst .ro ity oe, .slst .ro conf oc, .slst .ro ity ok], some [.si .i64 rt, .si .i64 rc], some [.si .i64 tn, .si .i64 td, .slst .ro ity te, .bs true 0 0 j, .slst .ro ity tk]] [some (.live (.arr conf l))] hp_b0.kh hp_b0.kt))) (.leaf none)
theorem res_b0_run (f b : Int) (c : List (Ty.den conf)) (i : Int) (z : List (List (Ty.den conf))) (lu : Int) (le : List Int) (lc : List (Ty.den conf)) (lt lk : Int) (ll : List (Ty.den lockT)) (mn md : Int) (me : List Int) (mc : List (Ty.den conf)) (mk : List Int) (on od : Int) (oe : List Int) (oc : List (Ty.den conf)) (ok : List Int) (rt rc : Int) (tn td : Int) (te : List Int) (j : Nat) (tk : List Int) (l : List (Ty.den conf)) (h : pre_b0 f b c i z lu le lc lt lk ll mn md me mc mk on od oe oc ok rt rc tn td te j tk l) : (res_b0 f b c i z lu le lc lt lk ll mn md me mc mk on od oe oc ok rt rc tn td te j tk l).run = some (rs_b0 f b c i z lu le lc lt lk ll mn md me mc mk on od oe oc ok rt rc tn td te j tk l) := by
  unfold res_b0 rs_b0
  rw [decide_eq_true h]
  exact rfl
theorem res_b0_no (f b : Int) (c : List (Ty.den conf)) (i : Int) (z : List (List (Ty.den conf))) (lu : Int) (le : List Int) (lc : List (Ty.den conf)) (lt lk : Int) (ll : List (Ty.den lockT)) (mn md : Int) (me : List Int) (mc : List (Ty.den conf)) (mk : List Int) (on od : Int) (oe : List Int) (oc : List (Ty.den conf)) (ok : List Int) (rt rc : Int) (tn td : Int) (te : List Int) (j : Nat) (tk : List Int) (l : List (Ty.den conf)) (h : ¬ pre_b0 f b c i z lu le lc lt lk ll mn md me mc mk on od oe oc ok rt rc tn td te j tk l) : (res_b0 f b c i z lu le lc lt lk ll mn md me mc mk on od oe oc ok rt rc tn td te j tk l).run = none := Tr.run_no h
def ent_b0 : LEnt := LEnt.by hp_b0 fun ⟨(_, _, _, _, _, f, b, c, i, z, _, _, _), ((lu, le, lc, lt, lk, ll, _), (mn, md, me, mc, mk, _), (on, od, oe, oc, ok, _), (rt, rc, _), (tn, td, te, j, tk, _), _), (l, _)⟩ => res_b0 f b c i z lu le lc lt lk ll mn md me mc mk on od oe oc ok rt rc tn td te j tk l
theorem ent_b0_ok (hgo : ∀ (f b : Int) (c : List (Ty.den conf)) (i : Int) (z : List (List (Ty.den conf))) (lu : Int) (le : List Int) (lc : List (Ty.den conf)) (lt lk : Int) (ll : List (Ty.den lockT)) (mn md : Int) (me : List Int) (mc : List (Ty.den conf)) (mk : List Int) (on od : Int) (oe : List Int) (oc : List (Ty.den conf)) (ok : List Int) (rt rc : Int) (tn td : Int) (te : List Int) (j : Nat) (tk : List Int) (l : List (Ty.den conf)), pre_b0 f b c i z lu le lc lt lk ll mn md me mc mk on od oe oc ok rt rc tn td te j tk l → SemL Tryd.prog Γ (lp 9 2) (st_b0 f b c i z lu le lc lt lk ll mn md me mc mk on od oe oc ok rt rc tn td te j tk l) (rs_b0 f b c i z lu le lc lt lk ll mn md me mc mk on od oe oc ok rt rc tn td te j tk l).1.to (rs_b0 f b c i z lu le lc lt lk ll mn md me mc mk on od oe oc ok rt rc tn td te j tk l).2) : EntOk Tryd.prog Γ (lp 9 2) ent_b0 := LEnt.by_ok fun ⟨(_, _, _, _, _, f, b, c, i, z, _, _, _), ((lu, le, lc, lt, lk, ll, _), (mn, md, me, mc, mk, _), (on, od, oe, oc, ok, _), (rt, rc, _), (tn, td, te, j, tk, _), _), (l, _)⟩ ex_ s_ h_ => by
  have h_ : (res_b0 f b c i z lu le lc lt lk ll mn md me mc mk on od oe oc ok rt rc tn td te j tk l).run = some (ex_, s_) := h_
  by_cases hp_ : pre_b0 f b c i z lu le lc lt lk ll mn md me mc mk on od oe oc ok rt rc tn td te j tk l
  · rw [res_b0_run f b c i z lu le lc lt lk ll mn md me mc mk on od oe oc ok rt rc tn td te j tk l hp_] at h_
    obtain ⟨rfl, rfl⟩ := Prod.mk.inj (Option.some.inj h_)
    exact hgo f b c i z lu le lc lt lk ll mn md me mc mk on od oe oc ok rt rc tn td te j tk l hp_
  · rw [res_b0_no f b c i z lu le lc lt lk ll mn md me mc mk on od oe oc ok rt rc tn td te j tk l hp_] at h_
    cases h_
theorem b0_go (f b : Int) (c : List (Ty.den conf)) (i : Int) (z : List (List (Ty.den conf))) (lu : Int) (le : List Int) (lc : List (Ty.den conf)) (lt lk : Int) (ll : List (Ty.den lockT)) (mn md : Int) (me : List Int) (mc : List (Ty.den conf)) (mk : List Int) (on od : Int) (oe : List Int) (oc : List (Ty.den conf)) (ok : List Int) (rt rc : Int) (tn td : Int) (te : List Int) (j : Nat) (tk : List Int) (l : List (Ty.den conf)) (h : pre_b0 f b c i z lu le lc lt lk ll mn md me mc mk on od oe oc ok rt rc tn td te j tk l) : SemL Tryd.prog Γ (lp 9 2) (st_b0 f b c i z lu le lc lt lk ll mn md me mc mk on od oe oc ok rt rc tn td te j tk l) (rs_b0 f b c i z lu le lc lt lk ll mn md me mc mk on od oe oc ok rt rc tn td te j tk l).1.to (rs_b0 f b c i z lu le lc lt lk ll mn md me mc mk on od oe oc ok rt rc tn td te j tk l).2 := by
  obtain ⟨rfl, hl⟩ := h
  have key := SemL.scan (P := Tryd.prog) (Γ := Γ) (b := lp 9 2) c.length 0 (Nat.zero_le _) (fun i => st_b0 f (bestD f (c.take i) b) c (i : Nat) z lu le lc lt lk ll mn md me mc mk on od oe oc ok rt rc tn td te j tk l) (fun _ => true) (rs_b0 f b c 0 z lu le lc lt lk ll mn md me mc mk on od oe oc ok rt rc tn td te j tk l) ?_ ?_ ?_
  · exact key
  · intro i _ hi _ _
    have hw : IntKind.i64.wrap ((i : Int) + 1) = ((i + 1 : Nat) : Int) := by rw [wrap_in (by omega) (by omega)]; rfl
    have e2 := bestD_succ f c b hi
    show SemC Tryd.prog Γ (lp 9 2) (st_b0 f (bestD f (c.take i) b) c i z lu le lc lt lk ll mn md me mc mk on od oe oc ok rt rc tn td te j tk l) .normal (st_b0 f (bestD f (c.take (i + 1)) b) c ((i + 1 : Nat) : Int) z lu le lc lt lk ll mn md me mc mk on od oe oc ok rt rc tn td te j tk l)
    have eq := rn_b0_eq f (bestD f (c.take i) b) c i z lu le lc lt lk ll mn md me mc mk on od oe oc ok rt rc tn td te j tk l
    rw [hw, decide_eq_true (by omega : (i : Int) < (c.length : Int)), decide_eq_true (by omega : (0 : Int) ≤ (i : Int) ∧ (i : Int) < (c.length : Int)), Int.toNat_natCast] at eq
    cases hh : (cF (c.getD i conf.dflt) == f) with
    | true =>
      rw [hh] at eq e2
      rw [e2]
      exact rn_b0_c f (bestD f (c.take i) b) c i z lu le lc lt lk ll mn md me mc mk on od oe oc ok rt rc tn td te j tk l (eq.trans rfl)
    | false =>
      rw [hh] at eq e2
      rw [e2]
      exact rn_b0_c f (bestD f (c.take i) b) c i z lu le lc lt lk ll mn md me mc mk on od oe oc ok rt rc tn td te j tk l (eq.trans rfl)
  · intro i _ _ _ h; cases h
  · intro _
    refine ⟨by simp [rs_b0, Ex.to], ?_⟩
    have eq := rn_b0_eq f (bestD f (c.take c.length) b) c c.length z lu le lc lt lk ll mn md me mc mk on od oe oc ok rt rc tn td te j tk l
    rw [decide_eq_false (by omega)] at eq
    have := rn_b0_c f (bestD f (c.take c.length) b) c c.length z lu le lc lt lk ll mn md me mc mk on od oe oc ok rt rc tn td te j tk l (eq.trans rfl)
    rw [List.take_length] at this ⊢
    exact this
def hp_b1 : HP := { n := 112, lv := [11, 12, 13, 14, 15, 16, 17, 19, 20, 60, 61, 62], sp := [.ptr 0 0, .ptr 1 0, .ptr 2 0, .ptr 3 0, .ptr 4 0, .ty ity, .ty ity, .ty (.slice conf), .ty ity, .ty (.slice (.slice conf)), .ci 2, .ci 1], op := [.cells [.ty ity, .ty (.slice ity), .ty (.slice conf), .ty ity, .ty ity, .ty (.slice lockT)], .cells [.ty ity, .ty ity, .ty (.slice ity), .ty (.slice conf), .ty (.slice ity)], .cells [.ty ity, .ty ity, .ty (.slice ity), .ty (.slice conf), .ty (.slice ity)], .cells [.ty ity, .ty ity], .cells [.ty ity, .ty ity, .ty (.slice ity), .bz 0, .ty (.slice ity)]], bp := [.arr conf] }
def lve_b1 : Ex → List Nat
  | .normal => [11, 12, 13, 14, 15, 16, 17, 19, 20, 60, 61, 62]
  | .exit 4 => [11, 12, 13, 14, 15, 16, 17, 60, 61, 62]
  | _ => []
theorem bd_b1 : Tryd.f9.body = some (root 9) := by kernel_rfl
theorem le_b1 : (loops (root 9))[2]? = some (lp 9 2) := by kernel_rfl
theorem li_b1 : Lies (root 9) 3 (lp 9 2) := Lies.of_take (n := 0) (by kernel_rfl)
def st_b1 (f b : Int) (c : List (Ty.den conf)) (i : Int) (z : List (List (Ty.den conf))) (lu : Int) (le : List Int) (lc : List (Ty.den conf)) (lt lk : Int) (ll : List (Ty.den lockT)) (mn md : Int) (me : List Int) (mc : List (Ty.den conf)) (mk : List Int) (on od : Int) (oe : List Int) (oc : List (Ty.den conf)) (ok : List Int) (rt rc : Int) (tn td : Int) (te : List Int) (j : Nat) (tk : List Int) (l : List (Ty.den conf)) : St := hp_b1.st ⟨((), (), (), (), (), f, b, c, i, z, (), (), ()), ((lu, le, lc, lt, lk, ll, ()), (mn, md, me, mc, mk, ()), (on, od, oe, oc, ok, ()), (rt, rc, ()), (tn, td, te, j, tk, ()), ()), (l, ())⟩
noncomputable def rn_b1 (f b : Int) (c : List (Ty.den conf)) (i : Int) (z : List (List (Ty.den conf))) (lu : Int) (le : List Int) (lc : List (Ty.den conf)) (lt lk : Int) (ll : List (Ty.den lockT)) (mn md : Int) (me : List Int) (mc : List (Ty.den conf)) (mk : List Int) (on od : Int) (oe : List Int) (oc : List (Ty.den conf)) (ok : List Int) (rt rc : Int) (tn td : Int) (te : List Int) (j : Nat) (tk : List Int) (l : List (Ty.den conf)) := outa lve_b1 (evCK Tryd.prog Γ (cfM Tryd.prog Γ cfg25 30) (cfg25.lo 9) [] 60 3 (lp 9 2) (st_b1 f b c i z lu le lc lt lk ll mn md me mc mk on od oe oc ok rt rc tn td te j tk l))
theorem rn_b1_eq (f b : Int) (c : List (Ty.den conf)) (i : Int) (z : List (List (Ty.den conf))) (lu : Int) (le : List Int) (lc : List (Ty.den conf)) (lt lk : Int) (ll : List (Ty.den lockT)) (mn md : Int) (me : List Int) (mc : List (Ty.den conf)) (mk : List Int) (on od : Int) (oe : List Int) (oc : List (Ty.den conf)) (ok : List Int) (rt rc : Int) (tn td : Int) (te : List Int) (j : Nat) (tk : List Int) (l : List (Ty.den conf)) : (rn_b1 f b c i z lu le lc lt lk ll mn md me mc mk on od oe oc ok rt rc tn td te j tk l).run = (bif decide (i < (Nat.cast (c.length) : Int)) then (bif decide ((0 : Int) ≤ i ∧ i < (Nat.cast (c.length) : Int)) then (bif (cF (c.getD i.toNat conf.dflt)) == f then (bif decide ((0 : Int) ≤ i ∧ i < (Nat.cast (c.length) : Int)) then (some ((Ex.normal, [V.ptr (0 : Nat) (0 : Nat), V.ptr (1 : Nat) (0 : Nat), V.ptr (2 : Nat) (0 : Nat), V.ptr (3 : Nat) (0 : Nat), V.ptr (4 : Nat) (0 : Nat), V.si IntKind.i64 f, V.si IntKind.i64 (if (cC (c.getD i.toNat conf.dflt)) > b then (cC (c.getD i.toNat conf.dflt)) else b), V.slst Tag.ro conf c, V.si IntKind.i64 (IntKind.i64.wrap (i + (1 : Int))), V.slst Tag.ro conf.slice z, V.i IntKind.i64 (2 : Int), V.i IntKind.i64 (1 : Int)], [some [V.si IntKind.i64 lu, V.slst Tag.ro ity le, V.slst Tag.ro conf lc, V.si IntKind.i64 lt, V.si IntKind.i64 lk, V.slst Tag.ro lockT ll], some [V.si IntKind.i64 mn, V.si IntKind.i64 md, V.slst Tag.ro ity me, V.slst Tag.ro conf mc, V.slst Tag.ro ity mk], some [V.si IntKind.i64 on, V.si IntKind.i64 od, V.slst Tag.ro ity oe, V.slst Tag.ro conf oc, V.slst Tag.ro ity ok], some [V.si IntKind.i64 rt, V.si IntKind.i64 rc], some [V.si IntKind.i64 tn, V.si IntKind.i64 td, V.slst Tag.ro ity te, V.bs true (0 : Nat) (0 : Nat) j, V.slst Tag.ro ity tk]], [some (Bf.live (BC.arr conf l))], (112 : Nat), (0 : Nat), (0 : Nat)))) else none) else (some ((Ex.normal, [V.ptr (0 : Nat) (0 : Nat), V.ptr (1 : Nat) (0 : Nat), V.ptr (2 : Nat) (0 : Nat), V.ptr (3 : Nat) (0 : Nat), V.ptr (4 : Nat) (0 : Nat), V.si IntKind.i64 f, V.si IntKind.i64 b, V.slst Tag.ro conf c, V.si IntKind.i64 (IntKind.i64.wrap (i + (1 : Int))), V.slst Tag.ro conf.slice z, V.i IntKind.i64 (2 : Int), V.i IntKind.i64 (1 : Int)], [some [V.si IntKind.i64 lu, V.slst Tag.ro ity le, V.slst Tag.ro conf lc, V.si IntKind.i64 lt, V.si IntKind.i64 lk, V.slst Tag.ro lockT ll], some [V.si IntKind.i64 mn, V.si IntKind.i64 md, V.slst Tag.ro ity me, V.slst Tag.ro conf mc, V.slst Tag.ro ity mk], some [V.si IntKind.i64 on, V.si IntKind.i64 od, V.slst Tag.ro ity oe, V.slst Tag.ro conf oc, V.slst Tag.ro ity ok], some [V.si IntKind.i64 rt, V.si IntKind.i64 rc], some [V.si IntKind.i64 tn, V.si IntKind.i64 td, V.slst Tag.ro ity te, V.bs true (0 : Nat) (0 : Nat) j, V.slst Tag.ro ity tk]], [some (Bf.live (BC.arr conf l))], (112 : Nat), (0 : Nat), (0 : Nat))))) else none) else (some ((Ex.exit (4 : Nat), [V.ptr (0 : Nat) (0 : Nat), V.ptr (1 : Nat) (0 : Nat), V.ptr (2 : Nat) (0 : Nat), V.ptr (3 : Nat) (0 : Nat), V.ptr (4 : Nat) (0 : Nat), V.si IntKind.i64 f, V.si IntKind.i64 b, V.slst Tag.ro conf.slice z, V.i IntKind.i64 (2 : Int), V.i IntKind.i64 (1 : Int)], [some [V.si IntKind.i64 lu, V.slst Tag.ro ity le, V.slst Tag.ro conf lc, V.si IntKind.i64 lt, V.si IntKind.i64 lk, V.slst Tag.ro lockT ll], some [V.si IntKind.i64 mn, V.si IntKind.i64 md, V.slst Tag.ro ity me, V.slst Tag.ro conf mc, V.slst Tag.ro ity mk], some [V.si IntKind.i64 on, V.si IntKind.i64 od, V.slst Tag.ro ity oe, V.slst Tag.ro conf oc, V.slst Tag.ro ity ok], some [V.si IntKind.i64 rt, V.si IntKind.i64 rc], some [V.si IntKind.i64 tn, V.si IntKind.i64 td, V.slst Tag.ro ity te, V.bs true (0 : Nat) (0 : Nat) j, V.slst Tag.ro ity tk]], [some (Bf.live (BC.arr conf l))], (112 : Nat), (0 : Nat), (0 : Nat))))) := by kernel_rfl
theorem rn_b1_c (f b : Int) (c : List (Ty.den conf)) (i : Int) (z : List (List (Ty.den conf))) (lu : Int) (le : List Int) (lc : List (Ty.den conf)) (lt lk : Int) (ll : List (Ty.den lockT)) (mn md : Int) (me : List Int) (mc : List (Ty.den conf)) (mk : List Int) (on od : Int) (oe : List Int) (oc : List (Ty.den conf)) (ok : List Int) (rt rc : Int) (tn td : Int) (te : List Int) (j : Nat) (tk : List Int) (l : List (Ty.den conf)) {e : Ex} {vs : List V} {ob : Ob} {nm : Nm} {n' kh kt : Nat} (h : (rn_b1 f b c i z lu le lc lt lk ll mn md me mc mk on od oe oc ok rt rc tn td te j tk l).run = some (e, vs, ob, nm, n', kh, kt)) : SemC Tryd.prog Γ (lp 9 2) (st_b1 f b c i z lu le lc lt lk ll mn md me mc mk on od oe oc ok rt rc tn td te j tk l) e.to (St.of n' (lve_b1 e) vs ob nm kh kt) := SemC.of_evM cfg25_ok Tryd.func9 bd_b1 li_b1 h
abbrev pre_b1 (f b : Int) (c : List (Ty.den conf)) (i : Int) (z : List (List (Ty.den conf))) (lu : Int) (le : List Int) (lc : List (Ty.den conf)) (lt lk : Int) (ll : List (Ty.den lockT)) (mn md : Int) (me : List Int) (mc : List (Ty.den conf)) (mk : List Int) (on od : Int) (oe : List Int) (oc : List (Ty.den conf)) (ok : List Int) (rt rc : Int) (tn td : Int) (te : List Int) (j : Nat) (tk : List Int) (l : List (Ty.den conf)) : Prop := i = 0 ∧ c.length ≤ 1000000
def rs_b1 (f b : Int) (c : List (Ty.den conf)) (i : Int) (z : List (List (Ty.den conf))) (lu : Int) (le : List Int) (lc : List (Ty.den conf)) (lt lk : Int) (ll : List (Ty.den lockT)) (mn md : Int) (me : List Int) (mc : List (Ty.den conf)) (mk : List Int) (on od : Int) (oe : List Int) (oc : List (Ty.den conf)) (ok : List Int) (rt rc : Int) (tn td : Int) (te : List Int) (j : Nat) (tk : List Int) (l : List (Ty.den conf)) : Ex × St := (.exit 4, St.of 112 (lve_b1 (.exit 4)) [.ptr 0 0, .ptr 1 0, .ptr 2 0, .ptr 3 0, .ptr 4 0, .si .i64 f, .si .i64 (bestD f c b), .slst .ro (.slice conf) z, .i .i64 2, .i .i64 1] [some [.si .i64 lu, .slst .ro ity le, .slst .ro conf lc, .si .i64 lt, .si .i64 lk, .slst .ro lockT ll], some [.si .i64 mn, .si .i64 md, .slst .ro ity me, .slst .ro conf mc, .slst .ro ity mk], some [.si .i64 on, .si .i64 od, .slst .ro ity oe, .slst .ro conf oc, .slst .ro ity ok], some [.si .i64 rt, .si .i64 rc], some [.si .i64 tn, .si .i64 td, .slst .ro ity te, .bs true 0 0 j, .slst .ro ity tk]] [some (.live (.arr conf l))] hp_b1.kh hp_b1.kt)
def res_b1 (f b : Int) (c : List (Ty.den conf)) (i : Int) (z : List (List (Ty.den conf))) (lu : Int) (le : List Int) (lc : List (Ty.den conf)) (lt lk : Int) (ll : List (Ty.den lockT)) (mn md : Int) (me : List Int) (mc : List (Ty.den conf)) (mk : List Int) (on od : Int) (oe : List Int) (oc : List (Ty.den conf)) (ok : List Int) (rt rc : Int) (tn td : Int) (te : List Int) (j : Nat) (tk : List Int) (l : List (Ty.den conf)) : Tr (Ex × St) := .br (decide (pre_b1 f b c i z lu le lc lt lk ll mn md me mc mk on od oe oc ok rt rc tn td te j tk l)) (.leaf (some (.exit 4, St.of 112 (lve_b1 (.exit 4)) [.ptr 0 0, .ptr 1 0, .ptr 2 0, .ptr 3 0, .ptr 4 0, .si .i64 f, .si .i64 (bestD f c b), .slst .ro (.slice conf) z, .i .i64 2, .i .i64 1] [some [.si .i64 lu, .slst .ro ity le, .slst .ro conf lc, .si .i64 lt, .si .i64 lk, .slst .ro lockT ll], some [.si .i64 mn, .si .i64 md, .slst .ro ity me, .slst .ro conf mc, .slst .ro ity mk], some [.si .i64 on, .si .i64 od, .slst .ro ity oe, .slst .ro conf oc, .slst .ro ity ok], some [.si .i64 rt, .si .i64 rc], some [.si .i64 tn, .si .i64 td, .slst .ro ity te, .bs true 0 0 j, .slst .ro ity tk]] [some (.live (.arr conf l))] hp_b1.kh hp_b1.kt))) (.leaf none)
theorem res_b1_run (f b : Int) (c : List (Ty.den conf)) (i : Int) (z : List (List (Ty.den conf))) (lu : Int) (le : List Int) (lc : List (Ty.den conf)) (lt lk : Int) (ll : List (Ty.den lockT)) (mn md : Int) (me : List Int) (mc : List (Ty.den conf)) (mk : List Int) (on od : Int) (oe : List Int) (oc : List (Ty.den conf)) (ok : List Int) (rt rc : Int) (tn td : Int) (te : List Int) (j : Nat) (tk : List Int) (l : List (Ty.den conf)) (h : pre_b1 f b c i z lu le lc lt lk ll mn md me mc mk on od oe oc ok rt rc tn td te j tk l) : (res_b1 f b c i z lu le lc lt lk ll mn md me mc mk on od oe oc ok rt rc tn td te j tk l).run = some (rs_b1 f b c i z lu le lc lt lk ll mn md me mc mk on od oe oc ok rt rc tn td te j tk l) := by
  unfold res_b1 rs_b1
  rw [decide_eq_true h]
  exact rfl
theorem res_b1_no (f b : Int) (c : List (Ty.den conf)) (i : Int) (z : List (List (Ty.den conf))) (lu : Int) (le : List Int) (lc : List (Ty.den conf)) (lt lk : Int) (ll : List (Ty.den lockT)) (mn md : Int) (me : List Int) (mc : List (Ty.den conf)) (mk : List Int) (on od : Int) (oe : List Int) (oc : List (Ty.den conf)) (ok : List Int) (rt rc : Int) (tn td : Int) (te : List Int) (j : Nat) (tk : List Int) (l : List (Ty.den conf)) (h : ¬ pre_b1 f b c i z lu le lc lt lk ll mn md me mc mk on od oe oc ok rt rc tn td te j tk l) : (res_b1 f b c i z lu le lc lt lk ll mn md me mc mk on od oe oc ok rt rc tn td te j tk l).run = none := Tr.run_no h
def ent_b1 : LEnt := LEnt.by hp_b1 fun ⟨(_, _, _, _, _, f, b, c, i, z, _, _, _), ((lu, le, lc, lt, lk, ll, _), (mn, md, me, mc, mk, _), (on, od, oe, oc, ok, _), (rt, rc, _), (tn, td, te, j, tk, _), _), (l, _)⟩ => res_b1 f b c i z lu le lc lt lk ll mn md me mc mk on od oe oc ok rt rc tn td te j tk l
theorem ent_b1_ok (hgo : ∀ (f b : Int) (c : List (Ty.den conf)) (i : Int) (z : List (List (Ty.den conf))) (lu : Int) (le : List Int) (lc : List (Ty.den conf)) (lt lk : Int) (ll : List (Ty.den lockT)) (mn md : Int) (me : List Int) (mc : List (Ty.den conf)) (mk : List Int) (on od : Int) (oe : List Int) (oc : List (Ty.den conf)) (ok : List Int) (rt rc : Int) (tn td : Int) (te : List Int) (j : Nat) (tk : List Int) (l : List (Ty.den conf)), pre_b1 f b c i z lu le lc lt lk ll mn md me mc mk on od oe oc ok rt rc tn td te j tk l → SemL Tryd.prog Γ (lp 9 2) (st_b1 f b c i z lu le lc lt lk ll mn md me mc mk on od oe oc ok rt rc tn td te j tk l) (rs_b1 f b c i z lu le lc lt lk ll mn md me mc mk on od oe oc ok rt rc tn td te j tk l).1.to (rs_b1 f b c i z lu le lc lt lk ll mn md me mc mk on od oe oc ok rt rc tn td te j tk l).2) : EntOk Tryd.prog Γ (lp 9 2) ent_b1 := LEnt.by_ok fun ⟨(_, _, _, _, _, f, b, c, i, z, _, _, _), ((lu, le, lc, lt, lk, ll, _), (mn, md, me, mc, mk, _), (on, od, oe, oc, ok, _), (rt, rc, _), (tn, td, te, j, tk, _), _), (l, _)⟩ ex_ s_ h_ => by
  have h_ : (res_b1 f b c i z lu le lc lt lk ll mn md me mc mk on od oe oc ok rt rc tn td te j tk l).run = some (ex_, s_) := h_
  by_cases hp_ : pre_b1 f b c i z lu le lc lt lk ll mn md me mc mk on od oe oc ok rt rc tn td te j tk l
  · rw [res_b1_run f b c i z lu le lc lt lk ll mn md me mc mk on od oe oc ok rt rc tn td te j tk l hp_] at h_
    obtain ⟨rfl, rfl⟩ := Prod.mk.inj (Option.some.inj h_)
    exact hgo f b c i z lu le lc lt lk ll mn md me mc mk on od oe oc ok rt rc tn td te j tk l hp_
  · rw [res_b1_no f b c i z lu le lc lt lk ll mn md me mc mk on od oe oc ok rt rc tn td te j tk l hp_] at h_
    cases h_
theorem b1_go (f b : Int) (c : List (Ty.den conf)) (i : Int) (z : List (List (Ty.den conf))) (lu : Int) (le : List Int) (lc : List (Ty.den conf)) (lt lk : Int) (ll : List (Ty.den lockT)) (mn md : Int) (me : List Int) (mc : List (Ty.den conf)) (mk : List Int) (on od : Int) (oe : List Int) (oc : List (Ty.den conf)) (ok : List Int) (rt rc : Int) (tn td : Int) (te : List Int) (j : Nat) (tk : List Int) (l : List (Ty.den conf)) (h : pre_b1 f b c i z lu le lc lt lk ll mn md me mc mk on od oe oc ok rt rc tn td te j tk l) : SemL Tryd.prog Γ (lp 9 2) (st_b1 f b c i z lu le lc lt lk ll mn md me mc mk on od oe oc ok rt rc tn td te j tk l) (rs_b1 f b c i z lu le lc lt lk ll mn md me mc mk on od oe oc ok rt rc tn td te j tk l).1.to (rs_b1 f b c i z lu le lc lt lk ll mn md me mc mk on od oe oc ok rt rc tn td te j tk l).2 := by
  obtain ⟨rfl, hl⟩ := h
  have key := SemL.scan (P := Tryd.prog) (Γ := Γ) (b := lp 9 2) c.length 0 (Nat.zero_le _) (fun i => st_b1 f (bestD f (c.take i) b) c (i : Nat) z lu le lc lt lk ll mn md me mc mk on od oe oc ok rt rc tn td te j tk l) (fun _ => true) (rs_b1 f b c 0 z lu le lc lt lk ll mn md me mc mk on od oe oc ok rt rc tn td te j tk l) ?_ ?_ ?_
  · exact key
  · intro i _ hi _ _
    have hw : IntKind.i64.wrap ((i : Int) + 1) = ((i + 1 : Nat) : Int) := by rw [wrap_in (by omega) (by omega)]; rfl
    have e2 := bestD_succ f c b hi
    show SemC Tryd.prog Γ (lp 9 2) (st_b1 f (bestD f (c.take i) b) c i z lu le lc lt lk ll mn md me mc mk on od oe oc ok rt rc tn td te j tk l) .normal (st_b1 f (bestD f (c.take (i + 1)) b) c ((i + 1 : Nat) : Int) z lu le lc lt lk ll mn md me mc mk on od oe oc ok rt rc tn td te j tk l)
    have eq := rn_b1_eq f (bestD f (c.take i) b) c i z lu le lc lt lk ll mn md me mc mk on od oe oc ok rt rc tn td te j tk l
    rw [hw, decide_eq_true (by omega : (i : Int) < (c.length : Int)), decide_eq_true (by omega : (0 : Int) ≤ (i : Int) ∧ (i : Int) < (c.length : Int)), Int.toNat_natCast] at eq
    cases hh : (cF (c.getD i conf.dflt) == f) with
    | true =>
      rw [hh] at eq e2
      rw [e2]
      exact rn_b1_c f (bestD f (c.take i) b) c i z lu le lc lt lk ll mn md me mc mk on od oe oc ok rt rc tn td te j tk l (eq.trans rfl)
    | false =>
      rw [hh] at eq e2
      rw [e2]
      exact rn_b1_c f (bestD f (c.take i) b) c i z lu le lc lt lk ll mn md me mc mk on od oe oc ok rt rc tn td te j tk l (eq.trans rfl)
  · intro i _ _ _ h; cases h
  · intro _
    refine ⟨by simp [rs_b1, Ex.to], ?_⟩
    have eq := rn_b1_eq f (bestD f (c.take c.length) b) c c.length z lu le lc lt lk ll mn md me mc mk on od oe oc ok rt rc tn td te j tk l
    rw [decide_eq_false (by omega)] at eq
    have := rn_b1_c f (bestD f (c.take c.length) b) c c.length z lu le lc lt lk ll mn md me mc mk on od oe oc ok rt rc tn td te j tk l (eq.trans rfl)
    rw [List.take_length] at this ⊢
    exact this
def lo26 : LOrc := LOrc.add lo26b 9 2 (LEnt.or ent_b0 ent_b1)
theorem lo26_ok : LOrcOk Tryd.prog Γ lo26 := LOrcOk.add lo26b_ok 9 2 Tryd.func9 bd_b0 le_b0 (LEnt.or_ok (ent_b0_ok b0_go) (ent_b1_ok b1_go) rfl rfl)
end L
end Go.Proofs.YthjiodeaepigmaaDoor

/- Package label: LabelOnceOpen reckoned. -/
set_option linter.unusedVariables false
set_option linter.unusedSimpArgs false
set_option maxRecDepth 100000
set_option maxHeartbeats 4000000
namespace Go.Proofs.YthjiodeaepigmaaDoor
open Go
namespace L
-- 
-- 
theorem c35_ok (a b : List Int) (h : a.length ≤ 1000000 ∧ b.length ≤ 1000000) : SemF Tryd.prog Γ 35 [.slst .ro ity a, .slst .ro ity b] [] [] (.slst .ro ity (joinD a b 20)) [] [] :=
  of_runL cfg26b_ok (c35_run a b) (decide_eq_true ⟨rfl, rfl, rfl, h.1, h.2⟩) (congrArg (V.slst .ro ity) (take_all _))
def e35 (a b : List Int) : Option Bool × V := (some (decide (a.length ≤ 1000000 ∧ b.length ≤ 1000000)), .slst .ro ity (joinD a b 20))
theorem e35_of (a b : List Int) (h : (e35 a b).1.getD true = true) : SemF Tryd.prog Γ 35 [.slst .ro ity a, .slst .ro ity b] [] [] (e35 a b).2 [] [] := c35_ok a b (of_decide_eq_true h)
noncomputable def orc27 : Orc := fun f args => if f = 35 then (Ty.ofVs [.slice ity, .slice ity] args).map (fun x => e35 x.1 x.2.1) else orc23 f args
theorem orc27_ok : OrcOk Tryd.prog Γ orc27 := orc23_ok.plain 35 [.slice ity, .slice ity] (fun x => e35 x.1 x.2.1) Tryd.f35 Tryd.func35 rfl (by kernel_rfl) (fun x h => e35_of _ _ h)
noncomputable def cfg27 : Cfg := cfgP orc27 lo26
theorem cfg27_ok : CfgOk Tryd.prog Γ cfg27 := cfgP_ok orc27_ok lo26_ok
def topD (f : Int) (mc oc : List (Ty.den conf)) : Int := bestD f oc (bestD f mc (-1))
-- 
-- 
-- 
-- 
-- 
def hp_on : HP := { n := 112, lv := [11, 12, 13, 14, 15, 16], sp := [.ptr 0 0, .ptr 1 0, .ptr 2 0, .ptr 3 0, .ptr 4 0, .ty ity], op := [.cells [.ty ity, .ty (.slice ity), .ty (.slice conf), .ty ity, .ty ity, .ty (.slice lockT)], .cells [.ty ity, .ty ity, .ty (.slice ity), .ty (.slice conf), .ty (.slice ity)], .cells [.ty ity, .ty ity, .ty (.slice ity), .ty (.slice conf), .ty (.slice ity)], .cells [.ty ity, .ty ity], .cells [.ty ity, .ty ity, .ty (.slice ity), .bz 0, .ty (.slice ity)]], bp := [.arr conf], bo := [(4, 3, conf)] }
def lve_on : Ex → List Nat
  | .normal => [11, 12, 13, 14, 15, 16]
  | .exit 0 => [11, 12, 14, 15]
  | _ => []
theorem bd_on : Tryd.f9.body = some (root 9) := by kernel_rfl
theorem le_on : (loops (root 9))[0]? = some (lp 9 0) := by kernel_rfl
theorem li_on : Lies (root 9) 1 (lp 9 0) := Lies.of_take (n := 2) (by kernel_rfl)
def st_on (f : Int) (lu : Int) (le : List Int) (lc : List (Ty.den conf)) (lt lk : Int) (ll : List (Ty.den lockT)) (mn md : Int) (me : List Int) (mc : List (Ty.den conf)) (mk : List Int) (on od : Int) (oe : List Int) (oc : List (Ty.den conf)) (ok : List Int) (rt rc : Int) (tn td : Int) (te : List Int) (j : Nat) (tk : List Int) (l : List (Ty.den conf)) : St := hp_on.st ⟨((), (), (), (), (), f, ()), ((lu, le, lc, lt, lk, ll, ()), (mn, md, me, mc, mk, ()), (on, od, oe, oc, ok, ()), (rt, rc, ()), (tn, td, te, j, tk, ()), ()), (l, ())⟩
noncomputable def rn_on (f : Int) (lu : Int) (le : List Int) (lc : List (Ty.den conf)) (lt lk : Int) (ll : List (Ty.den lockT)) (mn md : Int) (me : List Int) (mc : List (Ty.den conf)) (mk : List Int) (on od : Int) (oe : List Int) (oc : List (Ty.den conf)) (ok : List Int) (rt rc : Int) (tn td : Int) (te : List Int) (j : Nat) (tk : List Int) (l : List (Ty.den conf)) := outa lve_on (evCK Tryd.prog Γ (cfM Tryd.prog Γ cfg27 30) (cfg27.lo 9) [] 60 1 (lp 9 0) (st_on f lu le lc lt lk ll mn md me mc mk on od oe oc ok rt rc tn td te j tk l))
theorem rn_on_eq (f : Int) (lu : Int) (le : List Int) (lc : List (Ty.den conf)) (lt lk : Int) (ll : List (Ty.den lockT)) (mn md : Int) (me : List Int) (mc : List (Ty.den conf)) (mk : List Int) (on od : Int) (oe : List Int) (oc : List (Ty.den conf)) (ok : List Int) (rt rc : Int) (tn td : Int) (te : List Int) (j : Nat) (tk : List Int) (l : List (Ty.den conf)) : (rn_on f lu le lc lt lk ll mn md me mc mk on od oe oc ok rt rc tn td te j tk l).run = (bif decide (f < (16 : Int)) then (bif decide (pre_b0 f (-1 : Int) mc (0 : Int) [mc, oc] lu le lc lt lk ll mn md me mc mk on od oe oc ok rt rc tn td te j tk l) then (bif decide (pre_b1 f (bestD f mc (-1 : Int)) oc (0 : Int) [mc, oc] lu le lc lt lk ll mn md me mc mk on od oe oc ok rt rc tn td te j tk l) then (bif decide (topD f mc oc ≥ (0 : Int)) then (bif decide ((j + 1) * 2 * 16 ≤ 281474976710656) then (some ((Ex.normal, [V.ptr (0 : Nat) (0 : Nat), V.ptr (1 : Nat) (0 : Nat), V.ptr (2 : Nat) (0 : Nat), V.ptr (3 : Nat) (0 : Nat), V.ptr (4 : Nat) (0 : Nat), V.si IntKind.i64 (IntKind.i64.wrap (f + (1 : Int)))], [some [V.si IntKind.i64 lu, V.slst Tag.ro ity le, V.slst Tag.ro conf lc, V.si IntKind.i64 lt, V.si IntKind.i64 lk, V.slst Tag.ro lockT ll], some [V.si IntKind.i64 mn, V.si IntKind.i64 md, V.slst Tag.ro ity me, V.slst Tag.ro conf mc, V.slst Tag.ro ity mk], some [V.si IntKind.i64 on, V.si IntKind.i64 od, V.slst Tag.ro ity oe, V.slst Tag.ro conf oc, V.slst Tag.ro ity ok], some [V.si IntKind.i64 rt, V.si IntKind.i64 rc], some [V.si IntKind.i64 tn, V.si IntKind.i64 td, V.slst Tag.ro ity te, V.bs true (0 : Nat) (0 : Nat) (j + (1 : Nat)), V.slst Tag.ro ity tk]], [some (Bf.live (BC.arr conf (List.take j (List.drop (0) l) ++ [mkC f (topD f mc oc)])))], (112 : Nat), (0 : Nat), (0 : Nat)))) else none) else (some ((Ex.normal, [V.ptr (0 : Nat) (0 : Nat), V.ptr (1 : Nat) (0 : Nat), V.ptr (2 : Nat) (0 : Nat), V.ptr (3 : Nat) (0 : Nat), V.ptr (4 : Nat) (0 : Nat), V.si IntKind.i64 (IntKind.i64.wrap (f + (1 : Int)))], [some [V.si IntKind.i64 lu, V.slst Tag.ro ity le, V.slst Tag.ro conf lc, V.si IntKind.i64 lt, V.si IntKind.i64 lk, V.slst Tag.ro lockT ll], some [V.si IntKind.i64 mn, V.si IntKind.i64 md, V.slst Tag.ro ity me, V.slst Tag.ro conf mc, V.slst Tag.ro ity mk], some [V.si IntKind.i64 on, V.si IntKind.i64 od, V.slst Tag.ro ity oe, V.slst Tag.ro conf oc, V.slst Tag.ro ity ok], some [V.si IntKind.i64 rt, V.si IntKind.i64 rc], some [V.si IntKind.i64 tn, V.si IntKind.i64 td, V.slst Tag.ro ity te, V.bs true (0 : Nat) (0 : Nat) j, V.slst Tag.ro ity tk]], [some (Bf.live (BC.arr conf l))], (112 : Nat), (0 : Nat), (0 : Nat))))) else none) else none) else (some ((Ex.exit (0 : Nat), [V.ptr (0 : Nat) (0 : Nat), V.ptr (1 : Nat) (0 : Nat), V.ptr (2 : Nat) (0 : Nat), V.ptr (3 : Nat) (0 : Nat)], [some [V.si IntKind.i64 lu, V.slst Tag.ro ity le, V.slst Tag.ro conf lc, V.si IntKind.i64 lt, V.si IntKind.i64 lk, V.slst Tag.ro lockT ll], some [V.si IntKind.i64 mn, V.si IntKind.i64 md, V.slst Tag.ro ity me, V.slst Tag.ro conf mc, V.slst Tag.ro ity mk], some [V.si IntKind.i64 rt, V.si IntKind.i64 rc], some [V.si IntKind.i64 tn, V.si IntKind.i64 td, V.slst Tag.ro ity te, V.bs true (0 : Nat) (0 : Nat) j, V.slst Tag.ro ity tk]], [some (Bf.live (BC.arr conf l))], (112 : Nat), (0 : Nat), (0 : Nat))))) := by kernel_rfl
theorem rn_on_c (f : Int) (lu : Int) (le : List Int) (lc : List (Ty.den conf)) (lt lk : Int) (ll : List (Ty.den lockT)) (mn md : Int) (me : List Int) (mc : List (Ty.den conf)) (mk : List Int) (on od : Int) (oe : List Int) (oc : List (Ty.den conf)) (ok : List Int) (rt rc : Int) (tn td : Int) (te : List Int) (j : Nat) (tk : List Int) (l : List (Ty.den conf)) {e : Ex} {vs : List V} {ob : Ob} {nm : Nm} {n' kh kt : Nat} (h : (rn_on f lu le lc lt lk ll mn md me mc mk on od oe oc ok rt rc tn td te j tk l).run = some (e, vs, ob, nm, n', kh, kt)) : SemC Tryd.prog Γ (lp 9 0) (st_on f lu le lc lt lk ll mn md me mc mk on od oe oc ok rt rc tn td te j tk l) e.to (St.of n' (lve_on e) vs ob nm kh kt) := SemC.of_evM cfg27_ok Tryd.func9 bd_on li_on h
/-- What is confirmed by both. -/
def laterC (mc oc : List (Ty.den conf)) (n : Nat) : List (Ty.den conf) := ((List.range n).filter fun i : Nat => decide (topD (i : Int) mc oc ≥ 0)).map fun i : Nat => mkC (i : Int) (topD (i : Int) mc oc)
theorem laterC_succ (mc oc : List (Ty.den conf)) (n : Nat) : laterC mc oc (n + 1) = laterC mc oc n ++ (bif decide (topD (n : Int) mc oc ≥ 0) then [mkC (n : Int) (topD (n : Int) mc oc)] else []) := by
  unfold laterC
  rw [List.range_succ, List.filter_append, List.map_append]
  cases h : decide (topD (n : Int) mc oc ≥ 0) <;> simp [h]
theorem laterC_len (mc oc : List (Ty.den conf)) (n : Nat) : (laterC mc oc n).length ≤ n := by
  unfold laterC
  rw [List.length_map]
  exact Nat.le_trans (List.length_filter_le _ _) (by simp)
abbrev pre_on (f : Int) (lu : Int) (le : List Int) (lc : List (Ty.den conf)) (lt lk : Int) (ll : List (Ty.den lockT)) (mn md : Int) (me : List Int) (mc : List (Ty.den conf)) (mk : List Int) (on od : Int) (oe : List Int) (oc : List (Ty.den conf)) (ok : List Int) (rt rc : Int) (tn td : Int) (te : List Int) (j : Nat) (tk : List Int) (l : List (Ty.den conf)) : Prop := f = 0 ∧ j = 0 ∧ l = [] ∧ mc.length ≤ 1000000 ∧ oc.length ≤ 1000000
def rs_on (f : Int) (lu : Int) (le : List Int) (lc : List (Ty.den conf)) (lt lk : Int) (ll : List (Ty.den lockT)) (mn md : Int) (me : List Int) (mc : List (Ty.den conf)) (mk : List Int) (on od : Int) (oe : List Int) (oc : List (Ty.den conf)) (ok : List Int) (rt rc : Int) (tn td : Int) (te : List Int) (j : Nat) (tk : List Int) (l : List (Ty.den conf)) : Ex × St := (.exit 0, St.of 112 (lve_on (.exit 0)) [.ptr 0 0, .ptr 1 0, .ptr 2 0, .ptr 3 0] [some [.si .i64 lu, .slst .ro ity le, .slst .ro conf lc, .si .i64 lt, .si .i64 lk, .slst .ro lockT ll], some [.si .i64 mn, .si .i64 md, .slst .ro ity me, .slst .ro conf mc, .slst .ro ity mk], some [.si .i64 rt, .si .i64 rc], some [.si .i64 tn, .si .i64 td, .slst .ro ity te, .bs true 0 0 (laterC mc oc 16).length, .slst .ro ity tk]] [some (.live (.arr conf (laterC mc oc 16)))] hp_on.kh hp_on.kt)
def res_on (f : Int) (lu : Int) (le : List Int) (lc : List (Ty.den conf)) (lt lk : Int) (ll : List (Ty.den lockT)) (mn md : Int) (me : List Int) (mc : List (Ty.den conf)) (mk : List Int) (on od : Int) (oe : List Int) (oc : List (Ty.den conf)) (ok : List Int) (rt rc : Int) (tn td : Int) (te : List Int) (j : Nat) (tk : List Int) (l : List (Ty.den conf)) : Tr (Ex × St) := .br (decide (pre_on f lu le lc lt lk ll mn md me mc mk on od oe oc ok rt rc tn td te j tk l)) (.leaf (some (.exit 0, St.of 112 (lve_on (.exit 0)) [.ptr 0 0, .ptr 1 0, .ptr 2 0, .ptr 3 0] [some [.si .i64 lu, .slst .ro ity le, .slst .ro conf lc, .si .i64 lt, .si .i64 lk, .slst .ro lockT ll], some [.si .i64 mn, .si .i64 md, .slst .ro ity me, .slst .ro conf mc, .slst .ro ity mk], some [.si .i64 rt, .si .i64 rc], some [.si .i64 tn, .si .i64 td, .slst .ro ity te, .bs true 0 0 (laterC mc oc 16).length, .slst .ro ity tk]] [some (.live (.arr conf (laterC mc oc 16)))] hp_on.kh hp_on.kt))) (.leaf none)
theorem res_on_run (f : Int) (lu : Int) (le : List Int) (lc : List (Ty.den conf)) (lt lk : Int) (ll : List (Ty.den lockT)) (mn md : Int) (me : List Int) (mc : List (Ty.den conf)) (mk : List Int) (on od : Int) (oe : List Int) (oc : List (Ty.den conf)) (ok : List Int) (rt rc : Int) (tn td : Int) (te : List Int) (j : Nat) (tk : List Int) (l : List (Ty.den conf)) (h : pre_on f lu le lc lt lk ll mn md me mc mk on od oe oc ok rt rc tn td te j tk l) : (res_on f lu le lc lt lk ll mn md me mc mk on od oe oc ok rt rc tn td te j tk l).run = some (rs_on f lu le lc lt lk ll mn md me mc mk on od oe oc ok rt rc tn td te j tk l) := by
  unfold res_on rs_on
  rw [decide_eq_true h]
  exact rfl
theorem res_on_no (f : Int) (lu : Int) (le : List Int) (lc : List (Ty.den conf)) (lt lk : Int) (ll : List (Ty.den lockT)) (mn md : Int) (me : List Int) (mc : List (Ty.den conf)) (mk : List Int) (on od : Int) (oe : List Int) (oc : List (Ty.den conf)) (ok : List Int) (rt rc : Int) (tn td : Int) (te : List Int) (j : Nat) (tk : List Int) (l : List (Ty.den conf)) (h : ¬ pre_on f lu le lc lt lk ll mn md me mc mk on od oe oc ok rt rc tn td te j tk l) : (res_on f lu le lc lt lk ll mn md me mc mk on od oe oc ok rt rc tn td te j tk l).run = none := Tr.run_no h
def ent_on : LEnt := LEnt.by hp_on fun ⟨(_, _, _, _, _, f, _), ((lu, le, lc, lt, lk, ll, _), (mn, md, me, mc, mk, _), (on, od, oe, oc, ok, _), (rt, rc, _), (tn, td, te, j, tk, _), _), (l, _)⟩ => res_on f lu le lc lt lk ll mn md me mc mk on od oe oc ok rt rc tn td te j tk l
theorem ent_on_ok (hgo : ∀ (f : Int) (lu : Int) (le : List Int) (lc : List (Ty.den conf)) (lt lk : Int) (ll : List (Ty.den lockT)) (mn md : Int) (me : List Int) (mc : List (Ty.den conf)) (mk : List Int) (on od : Int) (oe : List Int) (oc : List (Ty.den conf)) (ok : List Int) (rt rc : Int) (tn td : Int) (te : List Int) (j : Nat) (tk : List Int) (l : List (Ty.den conf)), pre_on f lu le lc lt lk ll mn md me mc mk on od oe oc ok rt rc tn td te j tk l → SemL Tryd.prog Γ (lp 9 0) (st_on f lu le lc lt lk ll mn md me mc mk on od oe oc ok rt rc tn td te j tk l) (rs_on f lu le lc lt lk ll mn md me mc mk on od oe oc ok rt rc tn td te j tk l).1.to (rs_on f lu le lc lt lk ll mn md me mc mk on od oe oc ok rt rc tn td te j tk l).2) : EntOk Tryd.prog Γ (lp 9 0) ent_on := LEnt.by_ok fun ⟨(_, _, _, _, _, f, _), ((lu, le, lc, lt, lk, ll, _), (mn, md, me, mc, mk, _), (on, od, oe, oc, ok, _), (rt, rc, _), (tn, td, te, j, tk, _), _), (l, _)⟩ ex_ s_ h_ => by
  have h_ : (res_on f lu le lc lt lk ll mn md me mc mk on od oe oc ok rt rc tn td te j tk l).run = some (ex_, s_) := h_
  by_cases hp_ : pre_on f lu le lc lt lk ll mn md me mc mk on od oe oc ok rt rc tn td te j tk l
  · rw [res_on_run f lu le lc lt lk ll mn md me mc mk on od oe oc ok rt rc tn td te j tk l hp_] at h_
    obtain ⟨rfl, rfl⟩ := Prod.mk.inj (Option.some.inj h_)
    exact hgo f lu le lc lt lk ll mn md me mc mk on od oe oc ok rt rc tn td te j tk l hp_
  · rw [res_on_no f lu le lc lt lk ll mn md me mc mk on od oe oc ok rt rc tn td te j tk l hp_] at h_
    cases h_
theorem on_go (f : Int) (lu : Int) (le : List Int) (lc : List (Ty.den conf)) (lt lk : Int) (ll : List (Ty.den lockT)) (mn md : Int) (me : List Int) (mc : List (Ty.den conf)) (mk : List Int) (on od : Int) (oe : List Int) (oc : List (Ty.den conf)) (ok : List Int) (rt rc : Int) (tn td : Int) (te : List Int) (j : Nat) (tk : List Int) (l : List (Ty.den conf)) (h : pre_on f lu le lc lt lk ll mn md me mc mk on od oe oc ok rt rc tn td te j tk l) : SemL Tryd.prog Γ (lp 9 0) (st_on f lu le lc lt lk ll mn md me mc mk on od oe oc ok rt rc tn td te j tk l) (rs_on f lu le lc lt lk ll mn md me mc mk on od oe oc ok rt rc tn td te j tk l).1.to (rs_on f lu le lc lt lk ll mn md me mc mk on od oe oc ok rt rc tn td te j tk l).2 := by
  obtain ⟨rfl, rfl, rfl, h1, h2⟩ := h
  refine SemL.scan 16 0 (Nat.zero_le _) (fun i => st_on (i : Nat) lu le lc lt lk ll mn md me mc mk on od oe oc ok rt rc tn td te (laterC mc oc i).length tk (laterC mc oc i)) (fun _ => true) _ ?_ ?_ ?_
  · intro i _ hi _ _
    have hw : IntKind.i64.wrap ((i : Int) + 1) = ((i + 1 : Nat) : Int) := by rw [wrap_in (by omega) (by omega)]; rfl
    have hl := laterC_len mc oc i
    have eq := rn_on_eq i lu le lc lt lk ll mn md me mc mk on od oe oc ok rt rc tn td te (laterC mc oc i).length tk (laterC mc oc i)
    rw [hw, decide_eq_true (by omega : (i : Int) < (16 : Int)), decide_eq_true (show pre_b0 i (-1) mc 0 [mc, oc] lu le lc lt lk ll mn md me mc mk on od oe oc ok rt rc tn td te (laterC mc oc i).length tk (laterC mc oc i) from ⟨rfl, h1⟩), decide_eq_true (show pre_b1 i (bestD i mc (-1)) oc 0 [mc, oc] lu le lc lt lk ll mn md me mc mk on od oe oc ok rt rc tn td te (laterC mc oc i).length tk (laterC mc oc i) from ⟨rfl, h2⟩), decide_eq_true (by omega : ((laterC mc oc i).length + 1) * 2 * 16 ≤ 281474976710656), List.drop_zero, List.take_length] at eq
    have hs := laterC_succ mc oc i
    cases hh : decide (topD (i : Int) mc oc ≥ 0) with
    | true =>
      rw [hh] at eq hs
      simp only [cond_true] at hs
      have := rn_on_c i lu le lc lt lk ll mn md me mc mk on od oe oc ok rt rc tn td te (laterC mc oc i).length tk (laterC mc oc i) (eq.trans rfl)
      rw [hs, List.length_append]
      exact this
    | false =>
      rw [hh] at eq hs
      simp only [cond_false, List.append_nil] at hs
      have := rn_on_c i lu le lc lt lk ll mn md me mc mk on od oe oc ok rt rc tn td te (laterC mc oc i).length tk (laterC mc oc i) (eq.trans rfl)
      rw [hs]
      exact this
  · intro i _ _ _ h; cases h
  · intro _
    refine ⟨by simp [rs_on, Ex.to], ?_⟩
    have eq := rn_on_eq (16 : Nat) lu le lc lt lk ll mn md me mc mk on od oe oc ok rt rc tn td te (laterC mc oc 16).length tk (laterC mc oc 16)
    rw [decide_eq_false (by omega)] at eq
    exact rn_on_c (16 : Nat) lu le lc lt lk ll mn md me mc mk on od oe oc ok rt rc tn td te (laterC mc oc 16).length tk (laterC mc oc 16) (eq.trans rfl)
def lo27 : LOrc := (LOrc.add lo26 9 0 ent_on)
theorem lo27_ok : LOrcOk Tryd.prog Γ lo27 := (LOrcOk.add lo26_ok 9 0 Tryd.func9 bd_on le_on (ent_on_ok on_go))
noncomputable def cfg28 : Cfg := cfgP orc27 lo27
theorem cfg28_ok : CfgOk Tryd.prog Γ cfg28 := cfgP_ok orc27_ok lo27_ok
-- 
-- 
-- 
-- 
-- 
-- 
-- 
-- 
-- 
-- 
-- 
-- 
-- 
-- 
-- 
-- 
-- 
-- 
-- 
-- 
-- 
-- 
-- 
-- 
-- 
-- 
-- 
-- 
-- 
-- 
-- 
-- 
-- 
-- 
-- 
-- 
-- 
theorem c9_run (x0 x1 x2 x3 x4 x5 x6 y0 y1 y2 y3 y4 z0 z1 z2 z3 z4 t c : Int) : runL cfg28 9 [.agg [.si .i64 x0, .si .i64 x1, .si .i64 x2, .si .i64 x3, .si .i64 x4, .si .i64 x5, .si .i64 x6], .agg [.si .i64 y0, .si .i64 y1, .si .i64 y2, .si .i64 y3, .si .i64 y4], .agg [.si .i64 z0, .si .i64 z1, .si .i64 z2, .si .i64 z3, .si .i64 z4], .si .i64 t, .si .i64 c] = .ok (some (inr x0 && inr x1 && inr x2 && inr x3 && inr x4 && inr x5 && inr x6 && (inr y0 && inr y1 && inr y2 && inr y3 && inr y4 && (inr z0 && inr z1 && inr z2 && inr z3 && inr z4 && (inr t && decide ((8 : Int) ≠ (0 : Int)) && (inr c && decide ((8 : Int) ≠ (0 : Int)) && (decide (List.length (bE (momD y0 y1 y2 y3 y4)) ≤ 1000000 ∧ List.length (bE (momD z0 z1 z2 z3 z4)) ≤ 1000000) && (decide (List.length (bK (momD y0 y1 y2 y3 y4)) ≤ 1000000 ∧ List.length (bK (momD z0 z1 z2 z3 z4)) ≤ 1000000) && (decide (pre_on (0 : Int) (aU (madeD x0 x1 x2 x3 x4 x5 x6)) (aE (madeD x0 x1 x2 x3 x4 x5 x6)) (aC (madeD x0 x1 x2 x3 x4 x5 x6)) (aT (madeD x0 x1 x2 x3 x4 x5 x6)) (aK (madeD x0 x1 x2 x3 x4 x5 x6)) (aL (madeD x0 x1 x2 x3 x4 x5 x6)) (bN (momD y0 y1 y2 y3 y4)) (bD (momD y0 y1 y2 y3 y4)) (bE (momD y0 y1 y2 y3 y4)) (bC (momD y0 y1 y2 y3 y4)) (bK (momD y0 y1 y2 y3 y4)) (bN (momD z0 z1 z2 z3 z4)) (bD (momD z0 z1 z2 z3 z4)) (bE (momD z0 z1 z2 z3 z4)) (bC (momD z0 z1 z2 z3 z4)) (bK (momD z0 z1 z2 z3 z4)) (pickD t (8 : Int)) (pickD c (8 : Int)) (IntKind.i64.wrap ((bN (momD y0 y1 y2 y3 y4)) + (bN (momD z0 z1 z2 z3 z4)))) (bD (momD y0 y1 y2 y3 y4)) (joinD (bE (momD y0 y1 y2 y3 y4)) (bE (momD z0 z1 z2 z3 z4)) (20)) (0) (joinD (bK (momD y0 y1 y2 y3 y4)) (bK (momD z0 z1 z2 z3 z4)) (20)) []) && (some (decide (szM (joinD (bE (momD y0 y1 y2 y3 y4)) (bE (momD z0 z1 z2 z3 z4)) (20)) (List.take (laterC (bC (momD y0 y1 y2 y3 y4)) (bC (momD z0 z1 z2 z3 z4)) (16)).length (List.drop (0) (laterC (bC (momD y0 y1 y2 y3 y4)) (bC (momD z0 z1 z2 z3 z4)) (16)))) (joinD (bK (momD y0 y1 y2 y3 y4)) (bK (momD z0 z1 z2 z3 z4)) (20))) && (!validM (IntKind.i64.wrap ((bN (momD y0 y1 y2 y3 y4)) + (bN (momD z0 z1 z2 z3 z4)))) (bD (momD y0 y1 y2 y3 y4)) (joinD (bE (momD y0 y1 y2 y3 y4)) (bE (momD z0 z1 z2 z3 z4)) (20)) (List.take (laterC (bC (momD y0 y1 y2 y3 y4)) (bC (momD z0 z1 z2 z3 z4)) (16)).length (List.drop (0) (laterC (bC (momD y0 y1 y2 y3 y4)) (bC (momD z0 z1 z2 z3 z4)) (16)))) (joinD (bK (momD y0 y1 y2 y3 y4)) (bK (momD z0 z1 z2 z3 z4)) (20)) || decide (szX (madeD x0 x1 x2 x3 x4 x5 x6) ∧ szY (momD y0 y1 y2 y3 y4)) && (!rsn (madeD x0 x1 x2 x3 x4 x5 x6) (pickD t (8 : Int)) (pickD c (8 : Int)) (bN (momD y0 y1 y2 y3 y4)) (bD (momD y0 y1 y2 y3 y4)) (bE (momD y0 y1 y2 y3 y4)) (bC (momD y0 y1 y2 y3 y4)) (bK (momD y0 y1 y2 y3 y4)) == (0 : Int) || decide (szX (madeD x0 x1 x2 x3 x4 x5 x6) ∧ szM (joinD (bE (momD y0 y1 y2 y3 y4)) (bE (momD z0 z1 z2 z3 z4)) (20)) (List.take (laterC (bC (momD y0 y1 y2 y3 y4)) (bC (momD z0 z1 z2 z3 z4)) (16)).length (List.drop (0) (laterC (bC (momD y0 y1 y2 y3 y4)) (bC (momD z0 z1 z2 z3 z4)) (16)))) (joinD (bK (momD y0 y1 y2 y3 y4)) (bK (momD z0 z1 z2 z3 z4)) (20))))))).getD true))))))))) (V.sb (bif validM (IntKind.i64.wrap ((bN (momD y0 y1 y2 y3 y4)) + (bN (momD z0 z1 z2 z3 z4)))) (bD (momD y0 y1 y2 y3 y4)) (joinD (bE (momD y0 y1 y2 y3 y4)) (bE (momD z0 z1 z2 z3 z4)) (20)) (List.take (laterC (bC (momD y0 y1 y2 y3 y4)) (bC (momD z0 z1 z2 z3 z4)) (16)).length (List.drop (0) (laterC (bC (momD y0 y1 y2 y3 y4)) (bC (momD z0 z1 z2 z3 z4)) (16)))) (joinD (bK (momD y0 y1 y2 y3 y4)) (bK (momD z0 z1 z2 z3 z4)) (20)) then bif !rsn (madeD x0 x1 x2 x3 x4 x5 x6) (pickD t (8 : Int)) (pickD c (8 : Int)) (bN (momD y0 y1 y2 y3 y4)) (bD (momD y0 y1 y2 y3 y4)) (bE (momD y0 y1 y2 y3 y4)) (bC (momD y0 y1 y2 y3 y4)) (bK (momD y0 y1 y2 y3 y4)) == (0 : Int) then true else rsn (madeD x0 x1 x2 x3 x4 x5 x6) (pickD t (8 : Int)) (pickD c (8 : Int)) (IntKind.i64.wrap ((bN (momD y0 y1 y2 y3 y4)) + (bN (momD z0 z1 z2 z3 z4)))) (bD (momD y0 y1 y2 y3 y4)) (joinD (bE (momD y0 y1 y2 y3 y4)) (bE (momD z0 z1 z2 z3 z4)) (20)) (List.take (laterC (bC (momD y0 y1 y2 y3 y4)) (bC (momD z0 z1 z2 z3 z4)) (16)).length (List.drop (0) (laterC (bC (momD y0 y1 y2 y3 y4)) (bC (momD z0 z1 z2 z3 z4)) (16)))) (joinD (bK (momD y0 y1 y2 y3 y4)) (bK (momD z0 z1 z2 z3 z4)) (20)) == (0 : Int) else false)) := by kernel_rfl
end L
end Go.Proofs.YthjiodeaepigmaaDoor

/- Package label: LabelOnceOpen (newswirelaw10's function 9). -/
set_option linter.unusedVariables false
set_option linter.unusedSimpArgs false
set_option maxRecDepth 100000
set_option maxHeartbeats 4000000
namespace Go.Proofs.YthjiodeaepigmaaDoor
open Go
namespace L
theorem counts_out {l : List (Ty.den conf)} {m : Int} (h : countsD l m = true) : (∀ x ∈ l, 0 ≤ cF x ∧ cF x ≤ 15 ∧ m ≤ cC x ∧ cC x ≤ 12) ∧ l.Pairwise fun a b => cF a < cF b := by
  have h1 := allI_true.1 h
  have hb : ∀ i (hi : i < l.length), 0 ≤ cF l[i] ∧ cF l[i] ≤ 15 ∧ m ≤ cC l[i] ∧ cC l[i] ≤ 12 ∧ (0 < i → cF (l.getD (i - 1) conf.dflt) < cF l[i]) := fun i hi => by
    have := of_decide_eq_true (h1 i hi)
    have e1 : l.getD i conf.dflt = l[i] := getD_eq hi _
    rw [e1] at this
    exact this
  refine ⟨fun x hx => ?_, List.pairwise_iff_getElem.2 ?_⟩
  · obtain ⟨i, hi, rfl⟩ := List.getElem_of_mem hx
    obtain ⟨a, b, c, d, _⟩ := hb i hi
    exact ⟨a, b, c, d⟩
  · intro i j hi hj hij
    induction j with
    | zero => omega
    | succ j ih =>
      have h2 := (hb (j + 1) hj).2.2.2.2 (by omega)
      have e1 : l.getD j conf.dflt = l[j] := getD_eq (show j < l.length by omega) _
      rw [Nat.add_sub_cancel, e1] at h2
      by_cases e : i = j
      · subst e; exact h2
      · exact Int.lt_trans (ih (by omega) (by omega)) h2
theorem none_any {α : Type} {l : List α} {p : α → Bool} : someI l p = false ↔ ∀ x ∈ l, p x = false := by
  rw [someI_any, List.any_eq_false]
  exact ⟨fun h x hx => by simpa using h x hx, fun h x hx => by simp [h x hx]⟩
theorem lackC_iff {mc : List (Ty.den conf)} {y : Ty.den conf} : lackC mc y = false ↔ ∃ z ∈ mc, cF z = cF y ∧ cC y ≤ cC z := by
  have : lackC mc y = !someI mc (enough (cF y) (cC y)) := rfl
  rw [this, someI_any, Bool.not_eq_false', List.any_eq_true]
  have e : ∀ z, enough (cF y) (cC y) z = true ↔ cF z = cF y ∧ cC y ≤ cC z := fun z => by
    unfold enough
    cases h : (cF z == cF y) with
    | true => rw [beq_iff_eq] at h; simp [h]
    | false => rw [beq_eq_false_iff_ne] at h; simp [h]
  simp only [e]
theorem lackL_iff {mk : List Int} {q : Ty.den lockT} : lackL mk q = false ↔ kN q ≤ (((kK q).filter (hasD mk)).length : Int) := by
  unfold lackL kp
  rw [List.take_length, decide_eq_false_iff_not, Int.not_lt]
/-- When a label is open. -/
theorem rsn_open {x : Ty.den labT} {rt rc now dr : Int} {me : List Int} {mc : List (Ty.den conf)} {mk : List Int} : rsn x rt rc now dr me mc mk = 0 ↔
    proper (aU x) (aE x) (aC x) (aT x) (aK x) (aL x) rt rc now dr me mc mk = true ∧ noBit (aT x) rt = false ∧ noBit (aK x) rc = false ∧ ¬ IntKind.i64.wrap (now - dr) < aU x ∧ (∀ y ∈ aE x, y ∈ me) ∧ (∀ y ∈ aC x, ∃ z ∈ mc, cF z = cF y ∧ cC y ≤ cC z) ∧
    ∀ q ∈ aL x, kN q ≤ (((kK q).filter (hasD mk)).length : Int) := by
  rw [rsn_zero, none_any, none_any, none_any]
  simp only [lackC_iff, lackL_iff, Bool.not_eq_false', hasD_iff]
theorem filter_more {l a b : List Int} (h : ∀ x ∈ l, x ∈ a → x ∈ b) : (l.filter (hasD a)).length ≤ (l.filter (hasD b)).length := by
  rw [← List.countP_eq_length_filter, ← List.countP_eq_length_filter]
  exact List.countP_mono_left fun x hx h1 => hasD_iff.2 (h x hx (hasD_iff.1 h1))
/-! ### The lists of both moments -/
theorem hasA_iff {l : List Int} {x : Int} : hasA l x = true ↔ x ∈ l := by
  unfold hasA
  rw [List.any_eq_true]
  constructor
  · rintro ⟨y, hy, e⟩
    have : y = x := by simpa using e
    exact this ▸ hy
  · intro h
    exact ⟨x, h, by simp⟩
theorem mem_join {a b : List Int} {n : Nat} {x : Int} : x ∈ joinD a b n ↔ ∃ i : Nat, i < n ∧ (x ∈ a ∨ x ∈ b) ∧ x = i := by
  unfold joinD
  rw [List.mem_map]
  constructor
  · rintro ⟨i, hi, rfl⟩
    rw [List.mem_filter, List.mem_range, Bool.or_eq_true, hasA_iff, hasA_iff] at hi
    exact ⟨i, hi.1, hi.2, rfl⟩
  · rintro ⟨i, h1, h2, rfl⟩
    exact ⟨i, List.mem_filter.2 ⟨List.mem_range.2 h1, by rw [Bool.or_eq_true, hasA_iff, hasA_iff]; exact h2⟩, rfl⟩
theorem join_left {a b : List Int} (h : risingD a 19 = true) {x : Int} (hx : x ∈ a) : x ∈ joinD a b 20 := by
  obtain ⟨h1, h2⟩ := (rising_iff.1 h).1 x hx
  exact mem_join.2 ⟨x.toNat, by omega, .inl hx, by omega⟩
theorem join_rising (a b : List Int) : risingD (joinD a b 20) 19 = true := by
  rw [rising_iff]
  refine ⟨fun x hx => ?_, ?_⟩
  · obtain ⟨i, h1, _, rfl⟩ := mem_join.1 hx
    omega
  · unfold joinD
    rw [List.pairwise_map]
    exact (List.pairwise_lt_range.filter _).imp fun h => by omega
theorem best_ge {f : Int} : ∀ (c : List (Ty.den conf)) (b : Int), b ≤ bestD f c b ∧ ∀ y ∈ c, cF y = f → cC y ≤ bestD f c b
  | [], b => ⟨Int.le_refl _, fun y h => by cases h⟩
  | x :: c, b => by
    obtain ⟨h1, h2⟩ := best_ge (f := f) c (bif cF x == f then (if cC x > b then cC x else b) else b)
    have e : bestD f (x :: c) b = bestD f c (bif cF x == f then (if cC x > b then cC x else b) else b) := rfl
    rw [e]
    have h3 : b ≤ (bif cF x == f then (if cC x > b then cC x else b) else b) ∧ (cF x = f → cC x ≤ (bif cF x == f then (if cC x > b then cC x else b) else b)) := by
      cases hh : (cF x == f) with
      | true =>
        simp only [cond_true]
        split <;> omega
      | false =>
        rw [beq_eq_false_iff_ne] at hh
        simp only [cond_false]
        exact ⟨Int.le_refl _, fun h => absurd h hh⟩
    refine ⟨Int.le_trans h3.1 h1, fun y hy hf => ?_⟩
    rcases List.mem_cons.1 hy with rfl | hy
    · exact Int.le_trans (h3.2 hf) h1
    · exact h2 y hy hf
theorem best_le {f m : Int} : ∀ (c : List (Ty.den conf)) (b : Int), b ≤ m → (∀ y ∈ c, cC y ≤ m) → bestD f c b ≤ m
  | [], b, h, _ => h
  | x :: c, b, h, hc => by
    refine best_le (f := f) c (bif cF x == f then (if cC x > b then cC x else b) else b) ?_ fun y hy => hc y (List.mem_cons_of_mem _ hy)
    have hx := hc x (List.mem_cons_self ..)
    cases (cF x == f) with
    | true =>
      simp only [cond_true]
      split <;> omega
    | false => exact h
theorem later_ok {mc oc : List (Ty.den conf)} (h1 : countsD mc 0 = true) (h2 : countsD oc 0 = true) : countsD (laterC mc oc 16) 0 = true := by
  refine counts_iff (fun x hx => ?_) ?_
  · unfold laterC at hx
    rw [List.mem_map] at hx
    obtain ⟨i, hi, rfl⟩ := hx
    rw [List.mem_filter, List.mem_range, decide_eq_true_eq] at hi
    have hle : topD (i : Int) mc oc ≤ 12 := best_le oc _ (best_le mc _ (by decide) fun y hy => ((counts_out h1).1 y hy).2.2.2) fun y hy => ((counts_out h2).1 y hy).2.2.2
    show 0 ≤ (i : Int) ∧ (i : Int) ≤ 15 ∧ 0 ≤ topD (i : Int) mc oc ∧ topD (i : Int) mc oc ≤ 12
    omega
  · unfold laterC
    rw [List.pairwise_map]
    refine (List.pairwise_lt_range.filter _).imp fun h => ?_
    show ((_ : Nat) : Int) < ((_ : Nat) : Int)
    omega
theorem later_has {mc oc : List (Ty.den conf)} (h1 : countsD mc 0 = true) {z : Ty.den conf} (hz : z ∈ mc) : ∃ w ∈ laterC mc oc 16, cF w = cF z ∧ cC z ≤ cC w := by
  obtain ⟨a, b, c, d⟩ := (counts_out h1).1 z hz
  have k1 := (best_ge (f := cF z) mc (-1)).2 z hz rfl
  have k2 := (best_ge (f := cF z) oc (bestD (cF z) mc (-1))).1
  have hn : (((cF z).toNat : Nat) : Int) = cF z := by omega
  have ht : cC z ≤ topD (cF z) mc oc := Int.le_trans k1 k2
  refine ⟨mkC (cF z) (topD (cF z) mc oc), ?_, rfl, ht⟩
  unfold laterC
  rw [List.mem_map]
  refine ⟨(cF z).toNat, List.mem_filter.2 ⟨List.mem_range.2 (by omega), ?_⟩, by rw [hn]⟩
  rw [hn, decide_eq_true_eq]
  omega
theorem law9 (x0 x1 x2 x3 x4 x5 x6 y0 y1 y2 y3 y4 z0 z1 z2 z3 z4 t c : Int) (hx : (inr x0 && inr x1 && inr x2 && inr x3 && inr x4 && inr x5 && inr x6) = true) (hy : (inr y0 && inr y1 && inr y2 && inr y3 && inr y4) = true) (hz : (inr z0 && inr z1 && inr z2 && inr z3 && inr z4) = true) (ht : inr t = true) (hc : inr c = true) :
    SemF Tryd.prog Γ 9 [.agg [.si .i64 x0, .si .i64 x1, .si .i64 x2, .si .i64 x3, .si .i64 x4, .si .i64 x5, .si .i64 x6], .agg [.si .i64 y0, .si .i64 y1, .si .i64 y2, .si .i64 y3, .si .i64 y4], .agg [.si .i64 z0, .si .i64 z1, .si .i64 z2, .si .i64 z3, .si .i64 z4], .si .i64 t, .si .i64 c] [] [] (.sb true) [] [] := by
  obtain ⟨v1, v2⟩ := made_valid x0 x1 x2 x3 x4 x5 x6
  obtain ⟨u1, u2⟩ := made_num x0 x1 x2 x3 x4 x5 x6
  obtain ⟨n1, n2, d1, d2⟩ := mom_num y0 y1 y2 y3 y4
  obtain ⟨l1, l2, l3, l4⟩ := mom_lists y0 y1 y2 y3 y4
  obtain ⟨n1', n2', d1', d2'⟩ := mom_num z0 z1 z2 z3 z4
  obtain ⟨l1', l2', l3', l4'⟩ := mom_lists z0 z1 z2 z3 z4
  obtain ⟨t1, t2⟩ := pickD_lt (k := t) (n := 8) (by decide)
  obtain ⟨c1, c2⟩ := pickD_lt (k := c) (n := 8) (by decide)
  refine of_runL cfg28_ok (c9_run x0 x1 x2 x3 x4 x5 x6 y0 y1 y2 y3 y4 z0 z1 z2 z3 z4 t c) ?_ ?_
  all_goals
    generalize madeD x0 x1 x2 x3 x4 x5 x6 = X at *
    generalize momD y0 y1 y2 y3 y4 = Y at *
    generalize momD z0 z1 z2 z3 z4 = Z at *
    generalize pickD t 8 = rt at *
    generalize pickD c 8 = rc at *
    have w1 : IntKind.i64.wrap (bN Y + bN Z) = bN Y + bN Z := wrap_in (by omega) (by omega)
    rw [w1, List.drop_zero, List.take_length]
    have hv := validM_of (n := bN Y + bN Z) (d := bD Y) (by omega) (by omega) d1 (by omega) (join_rising (bE Y) (bE Z)) (later_ok l2 l2') (join_rising (bK Y) (bK Z))
  · have g1 : decide (List.length (bE Y) ≤ 1000000 ∧ List.length (bE Z) ≤ 1000000) = true := decide_eq_true ⟨l4.1, l4'.1⟩
    have g2 : decide (List.length (bK Y) ≤ 1000000 ∧ List.length (bK Z) ≤ 1000000) = true := decide_eq_true ⟨l4.2.2, l4'.2.2⟩
    have b1 := joinD_len (bE Y) (bE Z) 20
    have b2 := joinD_len (bK Y) (bK Z) 20
    have b3 := laterC_len (bC Y) (bC Z) 16
    have hs : szM (joinD (bE Y) (bE Z) 20) (laterC (bC Y) (bC Z) 16) (joinD (bK Y) (bK Z) 20) := ⟨by omega, by omega, by omega⟩
    have g3 : decide (pre_on 0 (aU X) (aE X) (aC X) (aT X) (aK X) (aL X) (bN Y) (bD Y) (bE Y) (bC Y) (bK Y) (bN Z) (bD Z) (bE Z) (bC Z) (bK Z) rt rc (bN Y + bN Z) (bD Y) (joinD (bE Y) (bE Z) 20) 0 (joinD (bK Y) (bK Z) 20) []) = true := decide_eq_true ⟨rfl, rfl, rfl, l4.2.1, l4'.2.1⟩
    simp only [hx, hy, hz, ht, hc, g1, g2, g3, hv, decide_eq_true hs, decide_eq_true (And.intro v2 l4), decide_eq_true (And.intro v2 hs), decide_eq_true (show (8 : Int) ≠ 0 by decide), Bool.or_true, Bool.and_true, Bool.not_true, Option.getD_some, Bool.false_or]
  · rw [hv]
    by_cases e : rsn X rt rc (bN Y) (bD Y) (bE Y) (bC Y) (bK Y) = 0
    · have k : rsn X rt rc (bN Y + bN Z) (bD Y) (joinD (bE Y) (bE Z) 20) (laterC (bC Y) (bC Z) 16) (joinD (bK Y) (bK Z) 20) = 0 := by
        rw [rsn_open] at e ⊢
        obtain ⟨_, p2, p3, p4, p5, p6, p7⟩ := e
        refine ⟨proper_of v1 hv ⟨t1, by omega⟩ ⟨c1, by omega⟩, p2, p3, ?_, fun y hy => join_left l1 (p5 y hy), fun y hy => ?_, fun q hq => ?_⟩
        · rw [wrap_in (by omega) (by omega)] at p4 ⊢
          omega
        · obtain ⟨z, hz, e1, e2⟩ := p6 y hy
          obtain ⟨w, hw, e3, e4⟩ := later_has (oc := bC Z) l2 hz
          exact ⟨w, hw, e3.trans e1, Int.le_trans e2 e4⟩
        · have := filter_more (l := kK q) (a := bK Y) (b := joinD (bK Y) (bK Z) 20) fun x _ hx => join_left l3 hx
          have := p7 q hq
          omega
      rw [e, k]; rfl
    · have hz : (rsn X rt rc (bN Y) (bD Y) (bE Y) (bC Y) (bK Y) == 0) = false := by simpa using e
      rw [hz]; rfl
end L
end Go.Proofs.YthjiodeaepigmaaDoor

/- Package label: the unions' loops, printed. -/
set_option linter.unusedVariables false
set_option linter.unusedSimpArgs false
set_option maxRecDepth 100000
set_option maxHeartbeats 4000000
namespace Go.Proofs.YthjiodeaepigmaaDoor
open Go
namespace L
-- 
-- 
def cbI (x _ : Int) : Int := x
def cbC (x y : Ty.den conf) : Ty.den conf := (cF x, if cC y > cC x then cC y else cC x, ())
def cbL (x _ : Ty.den lockT) : Ty.den lockT := x
-- 
def hp_u2 : HP := { n := 69, lv := [0, 1, 2, 3, 9], sp := [.ty (.slice conf), .ty (.slice conf), .fn 51 [], .fn 52 [], .bz 0], op := [], bp := [.arr conf], bv := [(4, conf)] }
def lve_u2 : Ex → List Nat
  | .normal => [0, 1, 2, 3, 9]
  | .exit 0 => [0, 1, 9]
  | _ => []
theorem bd_u2 : Tryd.f50.body = some (root 50) := by kernel_rfl
theorem le_u2 : (loops (root 50))[0]? = some (lp 50 0) := by kernel_rfl
theorem li_u2 : Lies (root 50) 1 (lp 50 0) := Lies.of_take (n := 0) (by kernel_rfl)
def st_u2 (a b : List (Ty.den conf)) (j : Nat) (l : List (Ty.den conf)) : St := hp_u2.st ⟨(a, b, (), (), j, ()), (), (l, ())⟩
noncomputable def rn_u2 (a b : List (Ty.den conf)) (j : Nat) (l : List (Ty.den conf)) := outa lve_u2 (evCK Tryd.prog Γ (cfM Tryd.prog Γ cfg28 30) (cfg28.lo 50) [] 60 1 (lp 50 0) (st_u2 a b j l))
theorem rn_u2_eq (a b : List (Ty.den conf)) (j : Nat) (l : List (Ty.den conf)) : (rn_u2 a b j l).run = (bif decide ((Nat.cast (a.length) : Int) > (0 : Int)) then (bif decide ((Nat.cast (b.length) : Int) > (0 : Int)) then (bif decide ((0 : Int) ≤ (0 : Int) ∧ (0 : Int) < (Nat.cast (a.length) : Int)) then (bif decide ((0 : Int) ≤ (0 : Int) ∧ (0 : Int) < (Nat.cast (b.length) : Int)) then (bif decide (sgn (cF (a.getD (0) conf.dflt)) (cF (b.getD (0) conf.dflt)) < (0 : Int)) then (bif decide ((0 : Int) ≤ (0 : Int) ∧ (0 : Int) < (Nat.cast (a.length) : Int)) then (bif decide ((j + 1) * 2 * 16 ≤ 281474976710656) then (bif decide ((0 : Int) ≤ (1 : Int) ∧ (1 : Int) ≤ (Nat.cast (a.length) : Int) ∧ (Nat.cast (a.length) : Int) ≤ (Nat.cast (a.length) : Int)) then (some ((Ex.normal, [V.slst Tag.ro conf (List.drop (1) (List.take ((Nat.cast (a.length) : Int)).toNat a)), V.slst Tag.ro conf b, V.fn (Fn.func (51 : FuncId)) [] [], V.fn (Fn.func (52 : FuncId)) [] [], V.bs true (0 : Nat) (0 : Nat) (j + (1 : Nat))], [], [some (Bf.live (BC.arr conf (List.take j (List.drop (0) l) ++ [(a.getD (0) conf.dflt)])))], (69 : Nat), (0 : Nat), (0 : Nat)))) else none) else none) else none) else (bif decide (sgn (cF (a.getD (0) conf.dflt)) (cF (b.getD (0) conf.dflt)) > (0 : Int)) then (bif decide ((0 : Int) ≤ (0 : Int) ∧ (0 : Int) < (Nat.cast (b.length) : Int)) then (bif decide ((j + 1) * 2 * 16 ≤ 281474976710656) then (bif decide ((0 : Int) ≤ (1 : Int) ∧ (1 : Int) ≤ (Nat.cast (b.length) : Int) ∧ (Nat.cast (b.length) : Int) ≤ (Nat.cast (b.length) : Int)) then (some ((Ex.normal, [V.slst Tag.ro conf a, V.slst Tag.ro conf (List.drop (1) (List.take ((Nat.cast (b.length) : Int)).toNat b)), V.fn (Fn.func (51 : FuncId)) [] [], V.fn (Fn.func (52 : FuncId)) [] [], V.bs true (0 : Nat) (0 : Nat) (j + (1 : Nat))], [], [some (Bf.live (BC.arr conf (List.take j (List.drop (0) l) ++ [(b.getD (0) conf.dflt)])))], (69 : Nat), (0 : Nat), (0 : Nat)))) else none) else none) else none) else (bif decide ((0 : Int) ≤ (0 : Int) ∧ (0 : Int) < (Nat.cast (a.length) : Int)) then (bif decide ((0 : Int) ≤ (0 : Int) ∧ (0 : Int) < (Nat.cast (b.length) : Int)) then (bif decide ((j + 1) * 2 * 16 ≤ 281474976710656) then (bif decide ((0 : Int) ≤ (1 : Int) ∧ (1 : Int) ≤ (Nat.cast (a.length) : Int) ∧ (Nat.cast (a.length) : Int) ≤ (Nat.cast (a.length) : Int)) then (bif decide ((0 : Int) ≤ (1 : Int) ∧ (1 : Int) ≤ (Nat.cast (b.length) : Int) ∧ (Nat.cast (b.length) : Int) ≤ (Nat.cast (b.length) : Int)) then (some ((Ex.normal, [V.slst Tag.ro conf (List.drop (1) (List.take ((Nat.cast (a.length) : Int)).toNat a)), V.slst Tag.ro conf (List.drop (1) (List.take ((Nat.cast (b.length) : Int)).toNat b)), V.fn (Fn.func (51 : FuncId)) [] [], V.fn (Fn.func (52 : FuncId)) [] [], V.bs true (0 : Nat) (0 : Nat) (j + (1 : Nat))], [], [some (Bf.live (BC.arr conf (List.take j (List.drop (0) l) ++ [cbC (a.getD (0) conf.dflt) (b.getD (0) conf.dflt)])))], (69 : Nat), (0 : Nat), (0 : Nat)))) else none) else none) else none) else none) else none))) else none) else none) else (some ((Ex.exit (0 : Nat), [V.slst Tag.ro conf a, V.slst Tag.ro conf b, V.bs true (0 : Nat) (0 : Nat) j], [], [some (Bf.live (BC.arr conf l))], (69 : Nat), (0 : Nat), (0 : Nat))))) else (some ((Ex.exit (0 : Nat), [V.slst Tag.ro conf a, V.slst Tag.ro conf b, V.bs true (0 : Nat) (0 : Nat) j], [], [some (Bf.live (BC.arr conf l))], (69 : Nat), (0 : Nat), (0 : Nat))))) := by kernel_rfl
theorem rn_u2_c (a b : List (Ty.den conf)) (j : Nat) (l : List (Ty.den conf)) {e : Ex} {vs : List V} {ob : Ob} {nm : Nm} {n' kh kt : Nat} (h : (rn_u2 a b j l).run = some (e, vs, ob, nm, n', kh, kt)) : SemC Tryd.prog Γ (lp 50 0) (st_u2 a b j l) e.to (St.of n' (lve_u2 e) vs ob nm kh kt) := SemC.of_evM cfg28_ok Tryd.func50 bd_u2 li_u2 h
def hp_u3 : HP := { n := 69, lv := [0, 1, 2, 3, 9], sp := [.ty (.slice lockT), .ty (.slice lockT), .fn 42 [], .fn 54 [], .bz 0], op := [], bp := [.arr lockT], bv := [(4, lockT)] }
def lve_u3 : Ex → List Nat
  | .normal => [0, 1, 2, 3, 9]
  | .exit 0 => [0, 1, 9]
  | _ => []
theorem bd_u3 : Tryd.f53.body = some (root 53) := by kernel_rfl
theorem le_u3 : (loops (root 53))[0]? = some (lp 53 0) := by kernel_rfl
theorem li_u3 : Lies (root 53) 1 (lp 53 0) := Lies.of_take (n := 0) (by kernel_rfl)
def st_u3 (a b : List (Ty.den lockT)) (j : Nat) (l : List (Ty.den lockT)) : St := hp_u3.st ⟨(a, b, (), (), j, ()), (), (l, ())⟩
noncomputable def rn_u3 (a b : List (Ty.den lockT)) (j : Nat) (l : List (Ty.den lockT)) := outa lve_u3 (evCK Tryd.prog Γ (cfM Tryd.prog Γ cfg28 30) (cfg28.lo 53) [] 60 1 (lp 53 0) (st_u3 a b j l))
theorem rn_u3_eq (a b : List (Ty.den lockT)) (j : Nat) (l : List (Ty.den lockT)) : (rn_u3 a b j l).run = (bif decide ((Nat.cast (a.length) : Int) > (0 : Int)) then (bif decide ((Nat.cast (b.length) : Int) > (0 : Int)) then (bif decide ((0 : Int) ≤ (0 : Int) ∧ (0 : Int) < (Nat.cast (a.length) : Int)) then (bif decide ((0 : Int) ≤ (0 : Int) ∧ (0 : Int) < (Nat.cast (b.length) : Int)) then (bif decide ((kK (a.getD (0) lockT.dflt)).length ≤ 1000000 ∧ (kK (b.getD (0) lockT.dflt)).length ≤ 1000000) then (bif decide (cmpL (a.getD (0) lockT.dflt) (b.getD (0) lockT.dflt) < (0 : Int)) then (bif decide ((0 : Int) ≤ (0 : Int) ∧ (0 : Int) < (Nat.cast (a.length) : Int)) then (bif decide ((j + 1) * 2 * 32 ≤ 281474976710656) then (bif decide ((0 : Int) ≤ (1 : Int) ∧ (1 : Int) ≤ (Nat.cast (a.length) : Int) ∧ (Nat.cast (a.length) : Int) ≤ (Nat.cast (a.length) : Int)) then (some ((Ex.normal, [V.slst Tag.ro lockT (List.drop (1) (List.take ((Nat.cast (a.length) : Int)).toNat a)), V.slst Tag.ro lockT b, V.fn (Fn.func (42 : FuncId)) [] [], V.fn (Fn.func (54 : FuncId)) [] [], V.bs true (0 : Nat) (0 : Nat) (j + (1 : Nat))], [], [some (Bf.live (BC.arr lockT (List.take j (List.drop (0) l) ++ [(a.getD (0) lockT.dflt)])))], (69 : Nat), (0 : Nat), (0 : Nat)))) else none) else none) else none) else (bif decide (cmpL (a.getD (0) lockT.dflt) (b.getD (0) lockT.dflt) > (0 : Int)) then (bif decide ((0 : Int) ≤ (0 : Int) ∧ (0 : Int) < (Nat.cast (b.length) : Int)) then (bif decide ((j + 1) * 2 * 32 ≤ 281474976710656) then (bif decide ((0 : Int) ≤ (1 : Int) ∧ (1 : Int) ≤ (Nat.cast (b.length) : Int) ∧ (Nat.cast (b.length) : Int) ≤ (Nat.cast (b.length) : Int)) then (some ((Ex.normal, [V.slst Tag.ro lockT a, V.slst Tag.ro lockT (List.drop (1) (List.take ((Nat.cast (b.length) : Int)).toNat b)), V.fn (Fn.func (42 : FuncId)) [] [], V.fn (Fn.func (54 : FuncId)) [] [], V.bs true (0 : Nat) (0 : Nat) (j + (1 : Nat))], [], [some (Bf.live (BC.arr lockT (List.take j (List.drop (0) l) ++ [(b.getD (0) lockT.dflt)])))], (69 : Nat), (0 : Nat), (0 : Nat)))) else none) else none) else none) else (bif decide ((0 : Int) ≤ (0 : Int) ∧ (0 : Int) < (Nat.cast (a.length) : Int)) then (bif decide ((0 : Int) ≤ (0 : Int) ∧ (0 : Int) < (Nat.cast (b.length) : Int)) then (bif decide ((j + 1) * 2 * 32 ≤ 281474976710656) then (bif decide ((0 : Int) ≤ (1 : Int) ∧ (1 : Int) ≤ (Nat.cast (a.length) : Int) ∧ (Nat.cast (a.length) : Int) ≤ (Nat.cast (a.length) : Int)) then (bif decide ((0 : Int) ≤ (1 : Int) ∧ (1 : Int) ≤ (Nat.cast (b.length) : Int) ∧ (Nat.cast (b.length) : Int) ≤ (Nat.cast (b.length) : Int)) then (some ((Ex.normal, [V.slst Tag.ro lockT (List.drop (1) (List.take ((Nat.cast (a.length) : Int)).toNat a)), V.slst Tag.ro lockT (List.drop (1) (List.take ((Nat.cast (b.length) : Int)).toNat b)), V.fn (Fn.func (42 : FuncId)) [] [], V.fn (Fn.func (54 : FuncId)) [] [], V.bs true (0 : Nat) (0 : Nat) (j + (1 : Nat))], [], [some (Bf.live (BC.arr lockT (List.take j (List.drop (0) l) ++ [(a.getD (0) lockT.dflt)])))], (69 : Nat), (0 : Nat), (0 : Nat)))) else none) else none) else none) else none) else none))) else none) else none) else none) else (some ((Ex.exit (0 : Nat), [V.slst Tag.ro lockT a, V.slst Tag.ro lockT b, V.bs true (0 : Nat) (0 : Nat) j], [], [some (Bf.live (BC.arr lockT l))], (69 : Nat), (0 : Nat), (0 : Nat))))) else (some ((Ex.exit (0 : Nat), [V.slst Tag.ro lockT a, V.slst Tag.ro lockT b, V.bs true (0 : Nat) (0 : Nat) j], [], [some (Bf.live (BC.arr lockT l))], (69 : Nat), (0 : Nat), (0 : Nat))))) := by kernel_rfl
theorem rn_u3_c (a b : List (Ty.den lockT)) (j : Nat) (l : List (Ty.den lockT)) {e : Ex} {vs : List V} {ob : Ob} {nm : Nm} {n' kh kt : Nat} (h : (rn_u3 a b j l).run = some (e, vs, ob, nm, n', kh, kt)) : SemC Tryd.prog Γ (lp 53 0) (st_u3 a b j l) e.to (St.of n' (lve_u3 e) vs ob nm kh kt) := SemC.of_evM cfg28_ok Tryd.func53 bd_u3 li_u3 h
/-- A list's tail. -/
def tlI (a : List Int) : List Int := List.drop 1 (List.take ((Nat.cast a.length : Int)).toNat a)
theorem tlI_cons (x : Int) (a : List Int) : tlI (x :: a) = a := by unfold tlI; rw [Int.toNat_natCast, List.take_length]; rfl
-- 
-- 
def hp_u1 : HP := { n := 69, lv := [0, 1, 2, 3, 9], sp := [.ty (.slice ity), .ty (.slice ity), .fn 48 [], .fn 49 [], .bz 0], op := [], bp := [.arr ity], bv := [(4, ity)] }
def lve_u1 : Ex → List Nat
  | .normal => [0, 1, 2, 3, 9]
  | .exit 0 => [0, 1, 9]
  | _ => []
theorem bd_u1 : Tryd.f47.body = some (root 47) := by kernel_rfl
theorem le_u1 : (loops (root 47))[0]? = some (lp 47 0) := by kernel_rfl
theorem li_u1 : Lies (root 47) 1 (lp 47 0) := Lies.of_take (n := 0) (by kernel_rfl)
def st_u1 (a b : List Int) (j : Nat) (l : List Int) : St := hp_u1.st ⟨(a, b, (), (), j, ()), (), (l, ())⟩
noncomputable def rn_u1 (a b : List Int) (j : Nat) (l : List Int) := outa lve_u1 (evCK Tryd.prog Γ (cfM Tryd.prog Γ cfg28 30) (cfg28.lo 47) [] 60 1 (lp 47 0) (st_u1 a b j l))
theorem rn_u1_eq (a b : List Int) (j : Nat) (l : List Int) : (rn_u1 a b j l).run = (bif decide ((Nat.cast (a.length) : Int) > (0 : Int)) then (bif decide ((Nat.cast (b.length) : Int) > (0 : Int)) then (bif decide ((0 : Int) ≤ (0 : Int) ∧ (0 : Int) < (Nat.cast (a.length) : Int)) then (bif decide ((0 : Int) ≤ (0 : Int) ∧ (0 : Int) < (Nat.cast (b.length) : Int)) then (bif decide (sgn (a.getD (0) (0 : Int)) (b.getD (0) (0 : Int)) < (0 : Int)) then (bif decide ((0 : Int) ≤ (0 : Int) ∧ (0 : Int) < (Nat.cast (a.length) : Int)) then (bif decide ((j + 1) * 2 * 8 ≤ 281474976710656) then (bif decide ((0 : Int) ≤ (1 : Int) ∧ (1 : Int) ≤ (Nat.cast (a.length) : Int) ∧ (Nat.cast (a.length) : Int) ≤ (Nat.cast (a.length) : Int)) then (some ((Ex.normal, [V.slst Tag.ro ity (tlI a), V.slst Tag.ro ity b, V.fn (Fn.func (48 : FuncId)) [] [], V.fn (Fn.func (49 : FuncId)) [] [], V.bs true (0 : Nat) (0 : Nat) (j + (1 : Nat))], [], [some (Bf.live (BC.arr ity (List.take j (List.drop (0) l) ++ [a.getD (0) (0 : Int)])))], (69 : Nat), (0 : Nat), (0 : Nat)))) else none) else none) else none) else (bif decide (sgn (a.getD (0) (0 : Int)) (b.getD (0) (0 : Int)) > (0 : Int)) then (bif decide ((0 : Int) ≤ (0 : Int) ∧ (0 : Int) < (Nat.cast (b.length) : Int)) then (bif decide ((j + 1) * 2 * 8 ≤ 281474976710656) then (bif decide ((0 : Int) ≤ (1 : Int) ∧ (1 : Int) ≤ (Nat.cast (b.length) : Int) ∧ (Nat.cast (b.length) : Int) ≤ (Nat.cast (b.length) : Int)) then (some ((Ex.normal, [V.slst Tag.ro ity a, V.slst Tag.ro ity (tlI b), V.fn (Fn.func (48 : FuncId)) [] [], V.fn (Fn.func (49 : FuncId)) [] [], V.bs true (0 : Nat) (0 : Nat) (j + (1 : Nat))], [], [some (Bf.live (BC.arr ity (List.take j (List.drop (0) l) ++ [b.getD (0) (0 : Int)])))], (69 : Nat), (0 : Nat), (0 : Nat)))) else none) else none) else none) else (bif decide ((0 : Int) ≤ (0 : Int) ∧ (0 : Int) < (Nat.cast (a.length) : Int)) then (bif decide ((0 : Int) ≤ (0 : Int) ∧ (0 : Int) < (Nat.cast (b.length) : Int)) then (bif decide ((j + 1) * 2 * 8 ≤ 281474976710656) then (bif decide ((0 : Int) ≤ (1 : Int) ∧ (1 : Int) ≤ (Nat.cast (a.length) : Int) ∧ (Nat.cast (a.length) : Int) ≤ (Nat.cast (a.length) : Int)) then (bif decide ((0 : Int) ≤ (1 : Int) ∧ (1 : Int) ≤ (Nat.cast (b.length) : Int) ∧ (Nat.cast (b.length) : Int) ≤ (Nat.cast (b.length) : Int)) then (some ((Ex.normal, [V.slst Tag.ro ity (tlI a), V.slst Tag.ro ity (tlI b), V.fn (Fn.func (48 : FuncId)) [] [], V.fn (Fn.func (49 : FuncId)) [] [], V.bs true (0 : Nat) (0 : Nat) (j + (1 : Nat))], [], [some (Bf.live (BC.arr ity (List.take j (List.drop (0) l) ++ [a.getD (0) (0 : Int)])))], (69 : Nat), (0 : Nat), (0 : Nat)))) else none) else none) else none) else none) else none))) else none) else none) else (some ((Ex.exit (0 : Nat), [V.slst Tag.ro ity a, V.slst Tag.ro ity b, V.bs true (0 : Nat) (0 : Nat) j], [], [some (Bf.live (BC.arr ity l))], (69 : Nat), (0 : Nat), (0 : Nat))))) else (some ((Ex.exit (0 : Nat), [V.slst Tag.ro ity a, V.slst Tag.ro ity b, V.bs true (0 : Nat) (0 : Nat) j], [], [some (Bf.live (BC.arr ity l))], (69 : Nat), (0 : Nat), (0 : Nat))))) := by kernel_rfl
theorem rn_u1_c (a b : List Int) (j : Nat) (l : List Int) {e : Ex} {vs : List V} {ob : Ob} {nm : Nm} {n' kh kt : Nat} (h : (rn_u1 a b j l).run = some (e, vs, ob, nm, n', kh, kt)) : SemC Tryd.prog Γ (lp 47 0) (st_u1 a b j l) e.to (St.of n' (lve_u1 e) vs ob nm kh kt) := SemC.of_evM cfg28_ok Tryd.func47 bd_u1 li_u1 h
end L
end Go.Proofs.YthjiodeaepigmaaDoor

/- Package label: what the unions' loops leave. -/
set_option linter.unusedVariables false
set_option linter.unusedSimpArgs false
set_option maxRecDepth 100000
set_option maxHeartbeats 4000000
namespace Go.Proofs.YthjiodeaepigmaaDoor
open Go
namespace L
-- 
-- 
/-- Two lists put together, until one of them ends: what is there then, and what is left of both. -/
def mgA {α : Type} (cmp : α → α → Int) (cb : α → α → α) : List α → List α → List α × List α × List α
  | [], b => ([], [], b)
  | x :: a, [] => ([], x :: a, [])
  | x :: a, y :: b => if cmp x y < 0 then (x :: (mgA cmp cb a (y :: b)).1, (mgA cmp cb a (y :: b)).2) else if cmp x y > 0 then (y :: (mgA cmp cb (x :: a) b).1, (mgA cmp cb (x :: a) b).2) else (cb x y :: (mgA cmp cb a b).1, (mgA cmp cb a b).2)
termination_by a b => a.length + b.length
theorem mgA_nil {α : Type} {cmp : α → α → Int} {cb : α → α → α} (b : List α) : mgA cmp cb [] b = ([], [], b) := by rw [mgA]
theorem mgA_end {α : Type} {cmp : α → α → Int} {cb : α → α → α} (a : List α) : mgA cmp cb a [] = ([], a, []) := by cases a <;> rw [mgA]
theorem mgA_cons {α : Type} {cmp : α → α → Int} {cb : α → α → α} (x y : α) (a b : List α) : mgA cmp cb (x :: a) (y :: b) = if cmp x y < 0 then (x :: (mgA cmp cb a (y :: b)).1, (mgA cmp cb a (y :: b)).2) else if cmp x y > 0 then (y :: (mgA cmp cb (x :: a) b).1, (mgA cmp cb (x :: a) b).2) else (cb x y :: (mgA cmp cb a b).1, (mgA cmp cb a b).2) := by rw [mgA]
theorem mgA_len {α : Type} {cmp : α → α → Int} {cb : α → α → α} : ∀ (n : Nat) (a b : List α), a.length + b.length ≤ n → (mgA cmp cb a b).1.length + (mgA cmp cb a b).2.1.length + (mgA cmp cb a b).2.2.length ≤ a.length + b.length
  | _, [], b, _ => by rw [mgA_nil]; simp
  | _, x :: a, [], _ => by rw [mgA_end]; simp
  | 0, x :: a, y :: b, h => by simp at h
  | n + 1, x :: a, y :: b, h => by
    rw [mgA_cons]
    simp only [List.length_cons] at h
    split
    · have := mgA_len (cmp := cmp) (cb := cb) n a (y :: b) (by simp only [List.length_cons]; omega)
      simp only [List.length_cons] at *
      omega
    · split
      · have := mgA_len (cmp := cmp) (cb := cb) n (x :: a) b (by simp only [List.length_cons]; omega)
        simp only [List.length_cons] at *
        omega
      · have := mgA_len (cmp := cmp) (cb := cb) n a b (by omega)
        simp only [List.length_cons] at *
        omega
def cmpC (x y : Ty.den conf) : Int := sgn (cF x) (cF y)
theorem drop_one {α : Type} (x : α) (a : List α) : List.drop 1 (List.take ((Nat.cast (x :: a).length : Int)).toNat (x :: a)) = a := by rw [Int.toNat_natCast, List.take_length]; rfl
abbrev pre_u1 (a b : List Int) (j : Nat) (l : List Int) : Prop := j = 0 ∧ l = [] ∧ a.length ≤ 1000000 ∧ b.length ≤ 1000000
def rs_u1 (a b : List Int) (j : Nat) (l : List Int) : Ex × St := (.exit 0, St.of 69 (lve_u1 (.exit 0)) [.slst .ro ity (mgA sgn cbI a b).2.1, .slst .ro ity (mgA sgn cbI a b).2.2, .bs true 0 0 (mgA sgn cbI a b).1.length] [] [some (.live (.arr ity (mgA sgn cbI a b).1))] hp_u1.kh hp_u1.kt)
def res_u1 (a b : List Int) (j : Nat) (l : List Int) : Tr (Ex × St) := .br (decide (pre_u1 a b j l)) (.leaf (some (.exit 0, St.of 69 (lve_u1 (.exit 0)) [.slst .ro ity (mgA sgn cbI a b).2.1, .slst .ro ity (mgA sgn cbI a b).2.2, .bs true 0 0 (mgA sgn cbI a b).1.length] [] [some (.live (.arr ity (mgA sgn cbI a b).1))] hp_u1.kh hp_u1.kt))) (.leaf none)
theorem res_u1_run (a b : List Int) (j : Nat) (l : List Int) (h : pre_u1 a b j l) : (res_u1 a b j l).run = some (rs_u1 a b j l) := by
  unfold res_u1 rs_u1
  rw [decide_eq_true h]
  exact rfl
theorem res_u1_no (a b : List Int) (j : Nat) (l : List Int) (h : ¬ pre_u1 a b j l) : (res_u1 a b j l).run = none := Tr.run_no h
def ent_u1 : LEnt := LEnt.by hp_u1 fun ⟨(a, b, _, _, j, _), _, (l, _)⟩ => res_u1 a b j l
theorem ent_u1_ok (hgo : ∀ (a b : List Int) (j : Nat) (l : List Int), pre_u1 a b j l → SemL Tryd.prog Γ (lp 47 0) (st_u1 a b j l) (rs_u1 a b j l).1.to (rs_u1 a b j l).2) : EntOk Tryd.prog Γ (lp 47 0) ent_u1 := LEnt.by_ok fun ⟨(a, b, _, _, j, _), _, (l, _)⟩ ex_ s_ h_ => by
  have h_ : (res_u1 a b j l).run = some (ex_, s_) := h_
  by_cases hp_ : pre_u1 a b j l
  · rw [res_u1_run a b j l hp_] at h_
    obtain ⟨rfl, rfl⟩ := Prod.mk.inj (Option.some.inj h_)
    exact hgo a b j l hp_
  · rw [res_u1_no a b j l hp_] at h_
    cases h_
theorem u1_go (a b : List Int) (j : Nat) (l : List Int) (h : pre_u1 a b j l) : SemL Tryd.prog Γ (lp 47 0) (st_u1 a b j l) (rs_u1 a b j l).1.to (rs_u1 a b j l).2 := by
  obtain ⟨rfl, rfl, ha, hb⟩ := h
  refine SemL.ind (A := List Int × List Int × List Int) (fun s => st_u1 s.1 s.2.1 s.2.2.length s.2.2) (fun s => s.1.length + s.2.1.length) (fun _ => rs_u1 a b 0 [])
    (fun s => (s.2.2 ++ (mgA sgn cbI s.1 s.2.1).1, (mgA sgn cbI s.1 s.2.1).2) = mgA sgn cbI a b ∧ s.1.length + s.2.1.length + s.2.2.length ≤ 2000000) ?_ (a, b, []) ⟨rfl, by show a.length + b.length + 0 ≤ _; omega⟩
  rintro ⟨a1, b1, o⟩ ⟨i1, i2⟩
  simp only at i1 i2 ⊢
  cases a1 with
  | nil =>
    have eq := rn_u1_eq [] b1 o.length o
    refine .inr ⟨by simp [rs_u1, Ex.to], ?_⟩
    rw [mgA_nil, List.append_nil] at i1
    rw [decide_eq_false (by simp)] at eq
    have := rn_u1_c [] b1 o.length o (eq.trans rfl)
    unfold rs_u1
    rw [← i1]
    exact this
  | cons x a1 =>
   cases b1 with
   | nil =>
    have eq := rn_u1_eq (x :: a1) [] o.length o
    refine .inr ⟨by simp [rs_u1, Ex.to], ?_⟩
    rw [mgA_end, List.append_nil] at i1
    rw [decide_eq_true (by simp only [List.length_cons]; omega : (Nat.cast (x :: a1).length : Int) > 0), decide_eq_false (by simp)] at eq
    have := rn_u1_c (x :: a1) [] o.length o (eq.trans rfl)
    unfold rs_u1
    rw [← i1]
    exact this
   | cons y b1 =>
      have eq := rn_u1_eq (x :: a1) (y :: b1) o.length o
      have e1 : List.getD (x :: a1) 0 (0 : Int) = x := rfl
      have e2 : List.getD (y :: b1) 0 (0 : Int) = y := rfl
      have g1 : 0 < (x :: a1).length := by simp
      have g2 : 0 < (y :: b1).length := by simp
      have l1 : (x :: a1).length = a1.length + 1 := rfl
      have l2 : (y :: b1).length = b1.length + 1 := rfl
      rw [decide_eq_true (by omega : (Nat.cast (x :: a1).length : Int) > 0), decide_eq_true (by omega : (Nat.cast (y :: b1).length : Int) > 0), decide_eq_true (by omega : (0 : Int) ≤ 0 ∧ (0 : Int) < (Nat.cast (x :: a1).length : Int)), decide_eq_true (by omega : (0 : Int) ≤ 0 ∧ (0 : Int) < (Nat.cast (y :: b1).length : Int)),
        decide_eq_true (by omega : (o.length + 1) * 2 * 8 ≤ 281474976710656), decide_eq_true (by omega : (0 : Int) ≤ 1 ∧ (1 : Int) ≤ (Nat.cast (x :: a1).length : Int) ∧ (Nat.cast (x :: a1).length : Int) ≤ (Nat.cast (x :: a1).length : Int)),
        decide_eq_true (by omega : (0 : Int) ≤ 1 ∧ (1 : Int) ≤ (Nat.cast (y :: b1).length : Int) ∧ (Nat.cast (y :: b1).length : Int) ≤ (Nat.cast (y :: b1).length : Int)), e1, e2, List.drop_zero, List.take_length] at eq
      rw [tlI_cons, tlI_cons] at eq
      have hm := mgA_cons (cmp := sgn) (cb := cbI) x y a1 b1
      by_cases c1 : sgn x y < 0
      · rw [if_pos c1] at hm
        rw [decide_eq_true c1] at eq
        have := rn_u1_c (x :: a1) (y :: b1) o.length o (eq.trans rfl)
        refine .inl ⟨(a1, y :: b1, o ++ [x]), ?_, ⟨?_, ?_⟩, ?_, trivial⟩
        · show SemC _ _ _ _ _ (st_u1 a1 (y :: b1) (o ++ [x]).length (o ++ [x]))
          rw [List.length_append]
          exact this
        · rw [← i1, hm]; simp
        · show a1.length + (y :: b1).length + (o ++ [x]).length ≤ _
          rw [List.length_append, l2]; rw [l1, l2] at i2; simp only [List.length_cons, List.length_nil]; omega
        · show a1.length + (y :: b1).length < (x :: a1).length + (y :: b1).length
          omega
      · rw [if_neg c1] at hm
        rw [decide_eq_false c1] at eq
        by_cases c2 : sgn x y > 0
        · rw [if_pos c2] at hm
          rw [decide_eq_true c2] at eq
          have := rn_u1_c (x :: a1) (y :: b1) o.length o (eq.trans rfl)
          refine .inl ⟨(x :: a1, b1, o ++ [y]), ?_, ⟨?_, ?_⟩, ?_, trivial⟩
          · show SemC _ _ _ _ _ (st_u1 (x :: a1) b1 (o ++ [y]).length (o ++ [y]))
            rw [List.length_append]
            exact this
          · rw [← i1, hm]; simp
          · show (x :: a1).length + b1.length + (o ++ [y]).length ≤ _
            rw [List.length_append, l1]; rw [l1, l2] at i2; simp only [List.length_cons, List.length_nil]; omega
          · show (x :: a1).length + b1.length < (x :: a1).length + (y :: b1).length
            omega
        · rw [if_neg c2] at hm
          rw [decide_eq_false c2] at eq
          have := rn_u1_c (x :: a1) (y :: b1) o.length o (eq.trans rfl)
          refine .inl ⟨(a1, b1, o ++ [cbI x y]), ?_, ⟨?_, ?_⟩, ?_, trivial⟩
          · show SemC _ _ _ _ _ (st_u1 a1 b1 (o ++ [cbI x y]).length (o ++ [cbI x y]))
            rw [List.length_append]
            exact this
          · rw [← i1, hm]; simp
          · show a1.length + b1.length + (o ++ [cbI x y]).length ≤ _
            rw [List.length_append]; rw [l1, l2] at i2; simp only [List.length_cons, List.length_nil]; omega
          · show a1.length + b1.length < (x :: a1).length + (y :: b1).length
            omega
abbrev pre_u2 (a b : List (Ty.den conf)) (j : Nat) (l : List (Ty.den conf)) : Prop := j = 0 ∧ l = [] ∧ a.length ≤ 1000000 ∧ b.length ≤ 1000000
def rs_u2 (a b : List (Ty.den conf)) (j : Nat) (l : List (Ty.den conf)) : Ex × St := (.exit 0, St.of 69 (lve_u2 (.exit 0)) [.slst .ro conf (mgA cmpC cbC a b).2.1, .slst .ro conf (mgA cmpC cbC a b).2.2, .bs true 0 0 (mgA cmpC cbC a b).1.length] [] [some (.live (.arr conf (mgA cmpC cbC a b).1))] hp_u2.kh hp_u2.kt)
def res_u2 (a b : List (Ty.den conf)) (j : Nat) (l : List (Ty.den conf)) : Tr (Ex × St) := .br (decide (pre_u2 a b j l)) (.leaf (some (.exit 0, St.of 69 (lve_u2 (.exit 0)) [.slst .ro conf (mgA cmpC cbC a b).2.1, .slst .ro conf (mgA cmpC cbC a b).2.2, .bs true 0 0 (mgA cmpC cbC a b).1.length] [] [some (.live (.arr conf (mgA cmpC cbC a b).1))] hp_u2.kh hp_u2.kt))) (.leaf none)
theorem res_u2_run (a b : List (Ty.den conf)) (j : Nat) (l : List (Ty.den conf)) (h : pre_u2 a b j l) : (res_u2 a b j l).run = some (rs_u2 a b j l) := by
  unfold res_u2 rs_u2
  rw [decide_eq_true h]
  exact rfl
theorem res_u2_no (a b : List (Ty.den conf)) (j : Nat) (l : List (Ty.den conf)) (h : ¬ pre_u2 a b j l) : (res_u2 a b j l).run = none := Tr.run_no h
def ent_u2 : LEnt := LEnt.by hp_u2 fun ⟨(a, b, _, _, j, _), _, (l, _)⟩ => res_u2 a b j l
theorem ent_u2_ok (hgo : ∀ (a b : List (Ty.den conf)) (j : Nat) (l : List (Ty.den conf)), pre_u2 a b j l → SemL Tryd.prog Γ (lp 50 0) (st_u2 a b j l) (rs_u2 a b j l).1.to (rs_u2 a b j l).2) : EntOk Tryd.prog Γ (lp 50 0) ent_u2 := LEnt.by_ok fun ⟨(a, b, _, _, j, _), _, (l, _)⟩ ex_ s_ h_ => by
  have h_ : (res_u2 a b j l).run = some (ex_, s_) := h_
  by_cases hp_ : pre_u2 a b j l
  · rw [res_u2_run a b j l hp_] at h_
    obtain ⟨rfl, rfl⟩ := Prod.mk.inj (Option.some.inj h_)
    exact hgo a b j l hp_
  · rw [res_u2_no a b j l hp_] at h_
    cases h_
theorem u2_go (a b : List (Ty.den conf)) (j : Nat) (l : List (Ty.den conf)) (h : pre_u2 a b j l) : SemL Tryd.prog Γ (lp 50 0) (st_u2 a b j l) (rs_u2 a b j l).1.to (rs_u2 a b j l).2 := by
  obtain ⟨rfl, rfl, ha, hb⟩ := h
  refine SemL.ind (A := List (Ty.den conf) × List (Ty.den conf) × List (Ty.den conf)) (fun s => st_u2 s.1 s.2.1 s.2.2.length s.2.2) (fun s => s.1.length + s.2.1.length) (fun _ => rs_u2 a b 0 [])
    (fun s => (s.2.2 ++ (mgA cmpC cbC s.1 s.2.1).1, (mgA cmpC cbC s.1 s.2.1).2) = mgA cmpC cbC a b ∧ s.1.length + s.2.1.length + s.2.2.length ≤ 2000000) ?_ (a, b, []) ⟨rfl, by show a.length + b.length + 0 ≤ _; omega⟩
  rintro ⟨a1, b1, o⟩ ⟨i1, i2⟩
  simp only at i1 i2 ⊢
  cases a1 with
  | nil =>
    have eq := rn_u2_eq [] b1 o.length o
    refine .inr ⟨by simp [rs_u2, Ex.to], ?_⟩
    rw [mgA_nil, List.append_nil] at i1
    rw [decide_eq_false (by simp)] at eq
    have := rn_u2_c [] b1 o.length o (eq.trans rfl)
    unfold rs_u2
    rw [← i1]
    exact this
  | cons x a1 =>
   cases b1 with
   | nil =>
    have eq := rn_u2_eq (x :: a1) [] o.length o
    refine .inr ⟨by simp [rs_u2, Ex.to], ?_⟩
    rw [mgA_end, List.append_nil] at i1
    rw [decide_eq_true (by simp only [List.length_cons]; omega : (Nat.cast (x :: a1).length : Int) > 0), decide_eq_false (by simp)] at eq
    have := rn_u2_c (x :: a1) [] o.length o (eq.trans rfl)
    unfold rs_u2
    rw [← i1]
    exact this
   | cons y b1 =>
      have eq := rn_u2_eq (x :: a1) (y :: b1) o.length o
      have e1 : List.getD (x :: a1) 0 conf.dflt = x := rfl
      have e2 : List.getD (y :: b1) 0 conf.dflt = y := rfl
      have g1 : 0 < (x :: a1).length := by simp
      have g2 : 0 < (y :: b1).length := by simp
      have l1 : (x :: a1).length = a1.length + 1 := rfl
      have l2 : (y :: b1).length = b1.length + 1 := rfl
      rw [decide_eq_true (by omega : (Nat.cast (x :: a1).length : Int) > 0), decide_eq_true (by omega : (Nat.cast (y :: b1).length : Int) > 0), decide_eq_true (by omega : (0 : Int) ≤ 0 ∧ (0 : Int) < (Nat.cast (x :: a1).length : Int)), decide_eq_true (by omega : (0 : Int) ≤ 0 ∧ (0 : Int) < (Nat.cast (y :: b1).length : Int)),
        decide_eq_true (by omega : (o.length + 1) * 2 * 16 ≤ 281474976710656), decide_eq_true (by omega : (0 : Int) ≤ 1 ∧ (1 : Int) ≤ (Nat.cast (x :: a1).length : Int) ∧ (Nat.cast (x :: a1).length : Int) ≤ (Nat.cast (x :: a1).length : Int)),
        decide_eq_true (by omega : (0 : Int) ≤ 1 ∧ (1 : Int) ≤ (Nat.cast (y :: b1).length : Int) ∧ (Nat.cast (y :: b1).length : Int) ≤ (Nat.cast (y :: b1).length : Int)), e1, e2, List.drop_zero, List.take_length] at eq
      rw [drop_one, drop_one] at eq
      have hcmp : sgn (cF x) (cF y) = cmpC x y := rfl
      rw [hcmp] at eq
      have hm := mgA_cons (cmp := cmpC) (cb := cbC) x y a1 b1
      by_cases c1 : cmpC x y < 0
      · rw [if_pos c1] at hm
        rw [decide_eq_true c1] at eq
        have := rn_u2_c (x :: a1) (y :: b1) o.length o (eq.trans rfl)
        refine .inl ⟨(a1, y :: b1, o ++ [x]), ?_, ⟨?_, ?_⟩, ?_, trivial⟩
        · show SemC _ _ _ _ _ (st_u2 a1 (y :: b1) (o ++ [x]).length (o ++ [x]))
          rw [List.length_append]
          exact this
        · rw [← i1, hm]; simp
        · show a1.length + (y :: b1).length + (o ++ [x]).length ≤ _
          rw [List.length_append, l2]; rw [l1, l2] at i2; simp only [List.length_cons, List.length_nil]; omega
        · show a1.length + (y :: b1).length < (x :: a1).length + (y :: b1).length
          omega
      · rw [if_neg c1] at hm
        rw [decide_eq_false c1] at eq
        by_cases c2 : cmpC x y > 0
        · rw [if_pos c2] at hm
          rw [decide_eq_true c2] at eq
          have := rn_u2_c (x :: a1) (y :: b1) o.length o (eq.trans rfl)
          refine .inl ⟨(x :: a1, b1, o ++ [y]), ?_, ⟨?_, ?_⟩, ?_, trivial⟩
          · show SemC _ _ _ _ _ (st_u2 (x :: a1) b1 (o ++ [y]).length (o ++ [y]))
            rw [List.length_append]
            exact this
          · rw [← i1, hm]; simp
          · show (x :: a1).length + b1.length + (o ++ [y]).length ≤ _
            rw [List.length_append, l1]; rw [l1, l2] at i2; simp only [List.length_cons, List.length_nil]; omega
          · show (x :: a1).length + b1.length < (x :: a1).length + (y :: b1).length
            omega
        · rw [if_neg c2] at hm
          rw [decide_eq_false c2] at eq
          have := rn_u2_c (x :: a1) (y :: b1) o.length o (eq.trans rfl)
          refine .inl ⟨(a1, b1, o ++ [cbC x y]), ?_, ⟨?_, ?_⟩, ?_, trivial⟩
          · show SemC _ _ _ _ _ (st_u2 a1 b1 (o ++ [cbC x y]).length (o ++ [cbC x y]))
            rw [List.length_append]
            exact this
          · rw [← i1, hm]; simp
          · show a1.length + b1.length + (o ++ [cbC x y]).length ≤ _
            rw [List.length_append]; rw [l1, l2] at i2; simp only [List.length_cons, List.length_nil]; omega
          · show a1.length + b1.length < (x :: a1).length + (y :: b1).length
            omega
abbrev pre_u3 (a b : List (Ty.den lockT)) (j : Nat) (l : List (Ty.den lockT)) : Prop := j = 0 ∧ l = [] ∧ a.length ≤ 1000000 ∧ b.length ≤ 1000000 ∧ (∀ q ∈ a, (kK q).length ≤ 1000000) ∧ ∀ q ∈ b, (kK q).length ≤ 1000000
def rs_u3 (a b : List (Ty.den lockT)) (j : Nat) (l : List (Ty.den lockT)) : Ex × St := (.exit 0, St.of 69 (lve_u3 (.exit 0)) [.slst .ro lockT (mgA cmpL cbL a b).2.1, .slst .ro lockT (mgA cmpL cbL a b).2.2, .bs true 0 0 (mgA cmpL cbL a b).1.length] [] [some (.live (.arr lockT (mgA cmpL cbL a b).1))] hp_u3.kh hp_u3.kt)
def res_u3 (a b : List (Ty.den lockT)) (j : Nat) (l : List (Ty.den lockT)) : Tr (Ex × St) := .br (decide (pre_u3 a b j l)) (.leaf (some (.exit 0, St.of 69 (lve_u3 (.exit 0)) [.slst .ro lockT (mgA cmpL cbL a b).2.1, .slst .ro lockT (mgA cmpL cbL a b).2.2, .bs true 0 0 (mgA cmpL cbL a b).1.length] [] [some (.live (.arr lockT (mgA cmpL cbL a b).1))] hp_u3.kh hp_u3.kt))) (.leaf none)
theorem res_u3_run (a b : List (Ty.den lockT)) (j : Nat) (l : List (Ty.den lockT)) (h : pre_u3 a b j l) : (res_u3 a b j l).run = some (rs_u3 a b j l) := by
  unfold res_u3 rs_u3
  rw [decide_eq_true h]
  exact rfl
theorem res_u3_no (a b : List (Ty.den lockT)) (j : Nat) (l : List (Ty.den lockT)) (h : ¬ pre_u3 a b j l) : (res_u3 a b j l).run = none := Tr.run_no h
def ent_u3 : LEnt := LEnt.by hp_u3 fun ⟨(a, b, _, _, j, _), _, (l, _)⟩ => res_u3 a b j l
theorem ent_u3_ok (hgo : ∀ (a b : List (Ty.den lockT)) (j : Nat) (l : List (Ty.den lockT)), pre_u3 a b j l → SemL Tryd.prog Γ (lp 53 0) (st_u3 a b j l) (rs_u3 a b j l).1.to (rs_u3 a b j l).2) : EntOk Tryd.prog Γ (lp 53 0) ent_u3 := LEnt.by_ok fun ⟨(a, b, _, _, j, _), _, (l, _)⟩ ex_ s_ h_ => by
  have h_ : (res_u3 a b j l).run = some (ex_, s_) := h_
  by_cases hp_ : pre_u3 a b j l
  · rw [res_u3_run a b j l hp_] at h_
    obtain ⟨rfl, rfl⟩ := Prod.mk.inj (Option.some.inj h_)
    exact hgo a b j l hp_
  · rw [res_u3_no a b j l hp_] at h_
    cases h_
theorem u3_go (a b : List (Ty.den lockT)) (j : Nat) (l : List (Ty.den lockT)) (h : pre_u3 a b j l) : SemL Tryd.prog Γ (lp 53 0) (st_u3 a b j l) (rs_u3 a b j l).1.to (rs_u3 a b j l).2 := by
  obtain ⟨rfl, rfl, ha, hb, hka, hkb⟩ := h
  refine SemL.ind (A := List (Ty.den lockT) × List (Ty.den lockT) × List (Ty.den lockT)) (fun s => st_u3 s.1 s.2.1 s.2.2.length s.2.2) (fun s => s.1.length + s.2.1.length) (fun _ => rs_u3 a b 0 [])
    (fun s => (s.2.2 ++ (mgA cmpL cbL s.1 s.2.1).1, (mgA cmpL cbL s.1 s.2.1).2) = mgA cmpL cbL a b ∧ s.1.length + s.2.1.length + s.2.2.length ≤ 2000000 ∧ (∀ q ∈ s.1, (kK q).length ≤ 1000000) ∧ ∀ q ∈ s.2.1, (kK q).length ≤ 1000000) ?_ (a, b, []) ⟨rfl, by show a.length + b.length + 0 ≤ _; omega, hka, hkb⟩
  rintro ⟨a1, b1, o⟩ ⟨i1, i2, i3, i4⟩
  simp only at i1 i2 i3 i4 ⊢
  cases a1 with
  | nil =>
    have eq := rn_u3_eq [] b1 o.length o
    refine .inr ⟨by simp [rs_u3, Ex.to], ?_⟩
    rw [mgA_nil, List.append_nil] at i1
    rw [decide_eq_false (by simp)] at eq
    have := rn_u3_c [] b1 o.length o (eq.trans rfl)
    unfold rs_u3
    rw [← i1]
    exact this
  | cons x a1 =>
   cases b1 with
   | nil =>
    have eq := rn_u3_eq (x :: a1) [] o.length o
    refine .inr ⟨by simp [rs_u3, Ex.to], ?_⟩
    rw [mgA_end, List.append_nil] at i1
    rw [decide_eq_true (by simp only [List.length_cons]; omega : (Nat.cast (x :: a1).length : Int) > 0), decide_eq_false (by simp)] at eq
    have := rn_u3_c (x :: a1) [] o.length o (eq.trans rfl)
    unfold rs_u3
    rw [← i1]
    exact this
   | cons y b1 =>
      have eq := rn_u3_eq (x :: a1) (y :: b1) o.length o
      have e1 : List.getD (x :: a1) 0 lockT.dflt = x := rfl
      have e2 : List.getD (y :: b1) 0 lockT.dflt = y := rfl
      have g1 : 0 < (x :: a1).length := by simp
      have g2 : 0 < (y :: b1).length := by simp
      have l1 : (x :: a1).length = a1.length + 1 := rfl
      have l2 : (y :: b1).length = b1.length + 1 := rfl
      rw [decide_eq_true (by omega : (Nat.cast (x :: a1).length : Int) > 0), decide_eq_true (by omega : (Nat.cast (y :: b1).length : Int) > 0), decide_eq_true (by omega : (0 : Int) ≤ 0 ∧ (0 : Int) < (Nat.cast (x :: a1).length : Int)), decide_eq_true (by omega : (0 : Int) ≤ 0 ∧ (0 : Int) < (Nat.cast (y :: b1).length : Int)),
        decide_eq_true (by omega : (o.length + 1) * 2 * 32 ≤ 281474976710656), decide_eq_true (by omega : (0 : Int) ≤ 1 ∧ (1 : Int) ≤ (Nat.cast (x :: a1).length : Int) ∧ (Nat.cast (x :: a1).length : Int) ≤ (Nat.cast (x :: a1).length : Int)),
        decide_eq_true (by omega : (0 : Int) ≤ 1 ∧ (1 : Int) ≤ (Nat.cast (y :: b1).length : Int) ∧ (Nat.cast (y :: b1).length : Int) ≤ (Nat.cast (y :: b1).length : Int)), e1, e2, List.drop_zero, List.take_length] at eq
      rw [drop_one, drop_one] at eq
      have hkk : (kK x).length ≤ 1000000 ∧ (kK y).length ≤ 1000000 := ⟨i3 x (List.mem_cons_self ..), i4 y (List.mem_cons_self ..)⟩
      rw [decide_eq_true hkk] at eq
      have hm := mgA_cons (cmp := cmpL) (cb := cbL) x y a1 b1
      by_cases c1 : cmpL x y < 0
      · rw [if_pos c1] at hm
        rw [decide_eq_true c1] at eq
        have := rn_u3_c (x :: a1) (y :: b1) o.length o (eq.trans rfl)
        refine .inl ⟨(a1, y :: b1, o ++ [x]), ?_, ⟨?_, ?_, fun q hq => i3 q (List.mem_cons_of_mem _ hq), i4⟩, ?_, trivial⟩
        · show SemC _ _ _ _ _ (st_u3 a1 (y :: b1) (o ++ [x]).length (o ++ [x]))
          rw [List.length_append]
          exact this
        · rw [← i1, hm]; simp
        · show a1.length + (y :: b1).length + (o ++ [x]).length ≤ _
          rw [List.length_append, l2]; rw [l1, l2] at i2; simp only [List.length_cons, List.length_nil]; omega
        · show a1.length + (y :: b1).length < (x :: a1).length + (y :: b1).length
          omega
      · rw [if_neg c1] at hm
        rw [decide_eq_false c1] at eq
        by_cases c2 : cmpL x y > 0
        · rw [if_pos c2] at hm
          rw [decide_eq_true c2] at eq
          have := rn_u3_c (x :: a1) (y :: b1) o.length o (eq.trans rfl)
          refine .inl ⟨(x :: a1, b1, o ++ [y]), ?_, ⟨?_, ?_, i3, fun q hq => i4 q (List.mem_cons_of_mem _ hq)⟩, ?_, trivial⟩
          · show SemC _ _ _ _ _ (st_u3 (x :: a1) b1 (o ++ [y]).length (o ++ [y]))
            rw [List.length_append]
            exact this
          · rw [← i1, hm]; simp
          · show (x :: a1).length + b1.length + (o ++ [y]).length ≤ _
            rw [List.length_append, l1]; rw [l1, l2] at i2; simp only [List.length_cons, List.length_nil]; omega
          · show (x :: a1).length + b1.length < (x :: a1).length + (y :: b1).length
            omega
        · rw [if_neg c2] at hm
          rw [decide_eq_false c2] at eq
          have := rn_u3_c (x :: a1) (y :: b1) o.length o (eq.trans rfl)
          refine .inl ⟨(a1, b1, o ++ [cbL x y]), ?_, ⟨?_, ?_, fun q hq => i3 q (List.mem_cons_of_mem _ hq), fun q hq => i4 q (List.mem_cons_of_mem _ hq)⟩, ?_, trivial⟩
          · show SemC _ _ _ _ _ (st_u3 a1 b1 (o ++ [cbL x y]).length (o ++ [cbL x y]))
            rw [List.length_append]
            exact this
          · rw [← i1, hm]; simp
          · show a1.length + b1.length + (o ++ [cbL x y]).length ≤ _
            rw [List.length_append]; rw [l1, l2] at i2; simp only [List.length_cons, List.length_nil]; omega
          · show a1.length + b1.length < (x :: a1).length + (y :: b1).length
            omega
def lo30 : LOrc := (LOrc.add (LOrc.add (LOrc.add lo27 47 0 ent_u1) 50 0 ent_u2) 53 0 ent_u3)
theorem lo30_ok : LOrcOk Tryd.prog Γ lo30 := (LOrcOk.add (LOrcOk.add (LOrcOk.add lo27_ok 47 0 Tryd.func47 bd_u1 le_u1 (ent_u1_ok u1_go)) 50 0 Tryd.func50 bd_u2 le_u2 (ent_u2_ok u2_go)) 53 0 Tryd.func53 bd_u3 le_u3 (ent_u3_ok u3_go))
noncomputable def cfg30 : Cfg := cfgP orc27 lo30
theorem cfg30_ok : CfgOk Tryd.prog Γ cfg30 := cfgP_ok orc27_ok lo30_ok
theorem c47_run (a b : List Int) : runL cfg30 47 [.slst .ro ity a, .slst .ro ity b, .fn (.func 48) [] [], .fn (.func 49) [] []] = .ok (some (decide (pre_u1 a b (0) []) && (decide (((mgA sgn cbI a b).fst.length + (mgA sgn cbI a b).snd.fst.length) * 2 * (8 : Nat) ≤ 281474976710656) && decide (((mgA sgn cbI a b).fst.length + (mgA sgn cbI a b).snd.fst.length + (mgA sgn cbI a b).snd.snd.length) * 2 * (8 : Nat) ≤ 281474976710656)))) (V.slst Tag.ro ity (List.take ((mgA sgn cbI a b).fst.length + (mgA sgn cbI a b).snd.fst.length + (mgA sgn cbI a b).snd.snd.length) (List.drop (0) (List.take ((mgA sgn cbI a b).fst.length + (mgA sgn cbI a b).snd.fst.length) (List.drop (0) (List.take (mgA sgn cbI a b).fst.length (List.drop (0) (mgA sgn cbI a b).fst) ++ (mgA sgn cbI a b).snd.fst)) ++ (mgA sgn cbI a b).snd.snd)))) := by kernel_rfl
theorem c50_run (a b : List (Ty.den conf)) : runL cfg30 50 [.slst .ro conf a, .slst .ro conf b, .fn (.func 51) [] [], .fn (.func 52) [] []] = .ok (some (decide (pre_u2 a b (0) []) && (decide (((mgA cmpC cbC a b).fst.length + (mgA cmpC cbC a b).snd.fst.length) * 2 * (16 : Nat) ≤ 281474976710656) && decide (((mgA cmpC cbC a b).fst.length + (mgA cmpC cbC a b).snd.fst.length + (mgA cmpC cbC a b).snd.snd.length) * 2 * (16 : Nat) ≤ 281474976710656)))) (V.slst Tag.ro conf (List.take ((mgA cmpC cbC a b).fst.length + (mgA cmpC cbC a b).snd.fst.length + (mgA cmpC cbC a b).snd.snd.length) (List.drop (0) (List.take ((mgA cmpC cbC a b).fst.length + (mgA cmpC cbC a b).snd.fst.length) (List.drop (0) (List.take (mgA cmpC cbC a b).fst.length (List.drop (0) (mgA cmpC cbC a b).fst) ++ (mgA cmpC cbC a b).snd.fst)) ++ (mgA cmpC cbC a b).snd.snd)))) := by kernel_rfl
def fp_g53 : FP := ⟨[.ty (.slice lockT), .ty (.slice lockT), .fn 42 [], .fn 54 []], [], []⟩
abbrev cn_g53 (a b : List (Ty.den lockT)) : Prop := a.length ≤ 1000000 ∧ b.length ≤ 1000000 ∧ (∀ q ∈ a, (kK q).length ≤ 1000000) ∧ ∀ q ∈ b, (kK q).length ≤ 1000000
noncomputable def cr_g53 (a b : List (Ty.den lockT)) : Option Bool × V × Ob × Nm := (some (decide (cn_g53 a b)), .nil, [], [])
noncomputable def ct_g53 := Ct.by fp_g53 fun ⟨(a, b, _, _, _), _, _⟩ => cr_g53 a b
abbrev sf_g53 (a b : List (Ty.den lockT)) : Prop := SemF Tryd.prog Γ 53 (SP.vals fp_g53.sp (a, b, (), (), ())) (OP.vals fp_g53.op ()) (BP.vals fp_g53.bp ()) (.nil) ([]) ([])
noncomputable def ev_g53 (C : Cfg) (lv : List Nat) (a b : List (Ty.den lockT)) := evV Tryd.prog Γ C lv 53 (SP.vals fp_g53.sp (a, b, (), (), ())) (OP.vals fp_g53.op ()) (BP.vals fp_g53.bp ())
theorem cr_g53_ok (a b : List (Ty.den lockT)) (h : (cr_g53 a b).1.getD true = true) : cn_g53 a b := of_decide_eq_true h
theorem ct_g53_ok (H : ∀ (a b : List (Ty.den lockT)), cn_g53 a b → sf_g53 a b) : ∀ args ob nm c v ob1 nm1, ct_g53 args ob nm = some (c, v, ob1, nm1) → c.getD true = true → SemF Tryd.prog Γ 53 args ob nm v ob1 nm1 := Ct.by_ok fun ⟨(a, b, _, _, _), _, _⟩ h => H a b (cr_g53_ok a b h)
theorem t53_eq (a b : List (Ty.den lockT)) : (ev_g53 cfg30 [] a b).run = (bif decide (pre_u3 a b (0) []) then (bif decide (((mgA cmpL cbL a b).fst.length + (mgA cmpL cbL a b).snd.fst.length) * 2 * 32 ≤ 281474976710656) then (bif decide (((mgA cmpL cbL a b).fst.length + (mgA cmpL cbL a b).snd.fst.length + (mgA cmpL cbL a b).snd.snd.length) * 2 * 32 ≤ 281474976710656) then (some ((V.bs true (0 : Nat) (0 : Nat) ((mgA cmpL cbL (a, b, (), (), ()).fst (b, (), (), ()).fst).fst.length + (mgA cmpL cbL (a, b, (), (), ()).fst (b, (), (), ()).fst).snd.fst.length + (mgA cmpL cbL (a, b, (), (), ()).fst (b, (), (), ()).fst).snd.snd.length), [], [some (Bf.live (BC.arr lockT (List.take ((mgA cmpL cbL a b).fst.length + (mgA cmpL cbL a b).snd.fst.length) (List.drop (0) (List.take (mgA cmpL cbL a b).fst.length (List.drop (0) (mgA cmpL cbL a b).fst) ++ (mgA cmpL cbL a b).snd.fst)) ++ (mgA cmpL cbL a b).snd.snd)))]))) else none) else none) else none) := by kernel_rfl
end L
end Go.Proofs.YthjiodeaepigmaaDoor

/- Package label: the unions as contracts; Join's loop, printed. -/
set_option linter.unusedVariables false
set_option linter.unusedSimpArgs false
set_option maxRecDepth 100000
set_option maxHeartbeats 4000000
namespace Go.Proofs.YthjiodeaepigmaaDoor
open Go
namespace L
-- 
-- 
/-- Two lists put together. -/
def unD {α : Type} (cmp : α → α → Int) (cb : α → α → α) (a b : List α) : List α := (mgA cmp cb a b).1 ++ (mgA cmp cb a b).2.1 ++ (mgA cmp cb a b).2.2
theorem unD_len {α : Type} (cmp : α → α → Int) (cb : α → α → α) (a b : List α) : (unD cmp cb a b).length ≤ a.length + b.length := by
  unfold unD
  have := mgA_len (cmp := cmp) (cb := cb) _ a b (Nat.le_refl _)
  simp only [List.length_append]
  omega
theorem unD_all {α : Type} (o a b : List α) : List.take (o.length + a.length + b.length) (List.drop 0 (List.take (o.length + a.length) (List.drop 0 (List.take o.length (List.drop 0 o) ++ a)) ++ b)) = o ++ a ++ b := by
  simp only [List.drop_zero, List.take_length]
  rw [← List.length_append, List.take_length, ← List.length_append, List.take_length]
def fp_g47 : FP := ⟨[.ty (.slice ity), .ty (.slice ity), .fn 48 [], .fn 49 []], [], []⟩
abbrev cn_g47 (a b : List Int) : Prop := a.length ≤ 1000000 ∧ b.length ≤ 1000000
noncomputable def cr_g47 (a b : List Int) : Option Bool × V × Ob × Nm := (some (decide (cn_g47 a b)), .slst .ro ity (unD sgn cbI a b), [], [])
noncomputable def ct_g47 := Ct.by fp_g47 fun ⟨(a, b, _, _, _), _, _⟩ => cr_g47 a b
abbrev sf_g47 (a b : List Int) : Prop := SemF Tryd.prog Γ 47 (SP.vals fp_g47.sp (a, b, (), (), ())) (OP.vals fp_g47.op ()) (BP.vals fp_g47.bp ()) (.slst .ro ity (unD sgn cbI a b)) ([]) ([])
noncomputable def ev_g47 (C : Cfg) (lv : List Nat) (a b : List Int) := evV Tryd.prog Γ C lv 47 (SP.vals fp_g47.sp (a, b, (), (), ())) (OP.vals fp_g47.op ()) (BP.vals fp_g47.bp ())
theorem cr_g47_ok (a b : List Int) (h : (cr_g47 a b).1.getD true = true) : cn_g47 a b := of_decide_eq_true h
theorem ct_g47_ok (H : ∀ (a b : List Int), cn_g47 a b → sf_g47 a b) : ∀ args ob nm c v ob1 nm1, ct_g47 args ob nm = some (c, v, ob1, nm1) → c.getD true = true → SemF Tryd.prog Γ 47 args ob nm v ob1 nm1 := Ct.by_ok fun ⟨(a, b, _, _, _), _, _⟩ h => H a b (cr_g47_ok a b h)
theorem g47_go (a b : List Int) (h : cn_g47 a b) : sf_g47 a b := by
  have hl := mgA_len (cmp := sgn) (cb := cbI) _ a b (Nat.le_refl _)
  refine of_runL cfg30_ok (c47_run a b) ?_ (congrArg (V.slst .ro ity) (unD_all _ _ _))
  rw [decide_eq_true (show pre_u1 a b 0 [] from ⟨rfl, rfl, h.1, h.2⟩), decide_eq_true (by omega), decide_eq_true (by have := h.1; have := h.2; omega)]
  rfl
def fp_g50 : FP := ⟨[.ty (.slice conf), .ty (.slice conf), .fn 51 [], .fn 52 []], [], []⟩
abbrev cn_g50 (a b : List (Ty.den conf)) : Prop := a.length ≤ 1000000 ∧ b.length ≤ 1000000
noncomputable def cr_g50 (a b : List (Ty.den conf)) : Option Bool × V × Ob × Nm := (some (decide (cn_g50 a b)), .slst .ro conf (unD cmpC cbC a b), [], [])
noncomputable def ct_g50 := Ct.by fp_g50 fun ⟨(a, b, _, _, _), _, _⟩ => cr_g50 a b
abbrev sf_g50 (a b : List (Ty.den conf)) : Prop := SemF Tryd.prog Γ 50 (SP.vals fp_g50.sp (a, b, (), (), ())) (OP.vals fp_g50.op ()) (BP.vals fp_g50.bp ()) (.slst .ro conf (unD cmpC cbC a b)) ([]) ([])
noncomputable def ev_g50 (C : Cfg) (lv : List Nat) (a b : List (Ty.den conf)) := evV Tryd.prog Γ C lv 50 (SP.vals fp_g50.sp (a, b, (), (), ())) (OP.vals fp_g50.op ()) (BP.vals fp_g50.bp ())
theorem cr_g50_ok (a b : List (Ty.den conf)) (h : (cr_g50 a b).1.getD true = true) : cn_g50 a b := of_decide_eq_true h
theorem ct_g50_ok (H : ∀ (a b : List (Ty.den conf)), cn_g50 a b → sf_g50 a b) : ∀ args ob nm c v ob1 nm1, ct_g50 args ob nm = some (c, v, ob1, nm1) → c.getD true = true → SemF Tryd.prog Γ 50 args ob nm v ob1 nm1 := Ct.by_ok fun ⟨(a, b, _, _, _), _, _⟩ h => H a b (cr_g50_ok a b h)
theorem g50_go (a b : List (Ty.den conf)) (h : cn_g50 a b) : sf_g50 a b := by
  have hl := mgA_len (cmp := cmpC) (cb := cbC) _ a b (Nat.le_refl _)
  refine of_runL cfg30_ok (c50_run a b) ?_ (congrArg (V.slst .ro conf) (unD_all _ _ _))
  rw [decide_eq_true (show pre_u2 a b 0 [] from ⟨rfl, rfl, h.1, h.2⟩), decide_eq_true (by omega), decide_eq_true (by have := h.1; have := h.2; omega)]
  rfl
def ll' (l : List (Ty.den lockT)) : Option Bf := some (.live (.arr lockT l))
def fp_h53 : FP := ⟨[.ty (.slice lockT), .ty (.slice lockT), .fn 42 [], .fn 54 []], [], []⟩
abbrev cn_h53 (a b : List (Ty.den lockT)) : Prop := a.length ≤ 1000000 ∧ b.length ≤ 1000000 ∧ (∀ q ∈ a, (kK q).length ≤ 1000000) ∧ ∀ q ∈ b, (kK q).length ≤ 1000000
noncomputable def cr_h53 (a b : List (Ty.den lockT)) : Option Bool × V × Ob × Nm := (some (decide (cn_h53 a b)), .bs true 0 0 (unD cmpL cbL a b).length, [], [ll' (unD cmpL cbL a b)])
noncomputable def ct_h53 := Ct.by fp_h53 fun ⟨(a, b, _, _, _), _, _⟩ => cr_h53 a b
abbrev sf_h53 (a b : List (Ty.den lockT)) : Prop := SemF Tryd.prog Γ 53 (SP.vals fp_h53.sp (a, b, (), (), ())) (OP.vals fp_h53.op ()) (BP.vals fp_h53.bp ()) (.bs true 0 0 (unD cmpL cbL a b).length) ([]) ([ll' (unD cmpL cbL a b)])
noncomputable def ev_h53 (C : Cfg) (lv : List Nat) (a b : List (Ty.den lockT)) := evV Tryd.prog Γ C lv 53 (SP.vals fp_h53.sp (a, b, (), (), ())) (OP.vals fp_h53.op ()) (BP.vals fp_h53.bp ())
theorem cr_h53_ok (a b : List (Ty.den lockT)) (h : (cr_h53 a b).1.getD true = true) : cn_h53 a b := of_decide_eq_true h
theorem ct_h53_ok (H : ∀ (a b : List (Ty.den lockT)), cn_h53 a b → sf_h53 a b) : ∀ args ob nm c v ob1 nm1, ct_h53 args ob nm = some (c, v, ob1, nm1) → c.getD true = true → SemF Tryd.prog Γ 53 args ob nm v ob1 nm1 := Ct.by_ok fun ⟨(a, b, _, _, _), _, _⟩ h => H a b (cr_h53_ok a b h)
instance (a : List (Ty.den lockT)) : Decidable (∀ q ∈ a, (kK q).length ≤ 1000000) := inferInstance
theorem unD_alls {α : Type} (o a b : List α) : List.take (o.length + a.length) (List.drop 0 (List.take o.length (List.drop 0 o) ++ a)) ++ b = o ++ a ++ b := by
  simp only [List.drop_zero, List.take_length]
  rw [← List.length_append, List.take_length]
theorem h53_go (a b : List (Ty.den lockT)) (h : cn_h53 a b) : sf_h53 a b := by
  have hl := mgA_len (cmp := cmpL) (cb := cbL) _ a b (Nat.le_refl _)
  refine SemF.of_tree cfg30_ok (lv := []) (Eq.trans (t53_eq a b) ?_)
  obtain ⟨h1, h2, h3, h4⟩ := h
  rw [decide_eq_true (show pre_u3 a b 0 [] from ⟨rfl, rfl, h1, h2, h3, h4⟩), decide_eq_true (by omega), decide_eq_true (by omega), unD_alls]
  simp only [cond_true]
  unfold unD ll'
  rw [List.length_append, List.length_append]
noncomputable def T31_0 : CallT := fun f args ob nm => match Nat.beq f 47 with | true => ct_g47 args ob nm | false => T12 f args ob nm
theorem T31_0_ok : CtOk Tryd.prog Γ T31_0 := CtOk.cons T12_ok 47 ct_g47 (by decide) Tryd.f47 Tryd.func47 (by kernel_rfl) (by kernel_rfl) (ct_g47_ok g47_go)
noncomputable def T31_1 : CallT := fun f args ob nm => match Nat.beq f 50 with | true => ct_g50 args ob nm | false => T31_0 f args ob nm
theorem T31_1_ok : CtOk Tryd.prog Γ T31_1 := CtOk.cons T31_0_ok 50 ct_g50 (by decide) Tryd.f50 Tryd.func50 (by kernel_rfl) (by kernel_rfl) (ct_g50_ok g50_go)
noncomputable def T31 : CallT := fun f args ob nm => match Nat.beq f 53 with | true => ct_h53 args ob nm | false => T31_1 f args ob nm
theorem T31_ok : CtOk Tryd.prog Γ T31 := CtOk.cons T31_1_ok 53 ct_h53 (by decide) Tryd.f53 Tryd.func53 (by kernel_rfl) (by kernel_rfl) (ct_h53_ok h53_go)
def isT31 (f : FuncId) : Bool := Nat.beq f 123 || Nat.beq f 47 || Nat.beq f 50 || Nat.beq f 53
noncomputable def omT (T : CallT) (p : FuncId → Bool) (om : CallF) : CallF := fun f args ob nm => match p f with | true => callC T f args ob nm | false => om f args ob nm
theorem omT_ok {T : CallT} {p : FuncId → Bool} {om : CallF} (hT : CtOk Tryd.prog Γ T) (ho : CallsOk Tryd.prog Γ om ∧ CallsFit om) : CallsOk Tryd.prog Γ (omT T p om) ∧ CallsFit (omT T p om) := by
  refine ⟨fun f args ob nm out h hc => ?_, ⟨fun f args ob nm out h => ?_, fun f args ob nm out h ob' nm' hs => ?_⟩⟩
  · unfold omT at h
    split at h
    · exact callC_calls hT _ _ _ _ _ h hc
    · exact ho.1 _ _ _ _ _ h hc
  · unfold omT at h
    split at h
    · exact (callC_fit hT).eff _ _ _ _ _ h
    · exact ho.2.eff _ _ _ _ _ h
  · unfold omT at h ⊢
    split at h
    · exact (callC_fit hT).frame _ _ _ _ _ h ob' nm' hs
    · exact ho.2.frame _ _ _ _ _ h ob' nm' hs
theorem c55_run (a : List Int) : runL cfg30 55 [.slst .ro ity a] = .ok (some (decide (0 < a.length) && decide (a.length * 2 * (8 : Nat) ≤ 281474976710656))) (V.slst Tag.ro ity (List.take a.length (List.drop (0) a))) := by kernel_rfl
theorem c55_ok (a : List Int) (h : 0 < a.length ∧ a.length ≤ 1000000) : SemF Tryd.prog Γ 55 [.slst .ro ity a] [] [] (.slst .ro ity a) [] [] :=
  of_runL cfg30_ok (c55_run a) (by rw [decide_eq_true h.1, decide_eq_true (by omega)]; rfl) (congrArg (V.slst .ro ity) (take_all a))
def e55 (a : List Int) : Option Bool × V := (some (decide (0 < a.length ∧ a.length ≤ 1000000)), .slst .ro ity a)
noncomputable def orc31 : Orc := fun f args => if f = 55 then (Ty.ofVs [.slice ity] args).map (fun x => e55 x.1) else orc27 f args
theorem orc31_ok : OrcOk Tryd.prog Γ orc31 := orc27_ok.plain 55 [.slice ity] (fun x => e55 x.1) Tryd.f55 Tryd.func55 rfl (by kernel_rfl) (fun x h => c55_ok x.1 (of_decide_eq_true h))
noncomputable def cfgT (T : CallT) (p : FuncId → Bool) (orc : Orc) (lo : LOrc) : Cfg := ⟨orc, fun f => p f || Nat.beq f 63, omT T p om1, lo, lvF, fun f => !Nat.beq f 55 && mems.any (Nat.beq f), 80, fun _ _ => none⟩
theorem cfgT_ok {T : CallT} {p : FuncId → Bool} {orc : Orc} {lo : LOrc} (hT : CtOk Tryd.prog Γ T) (h : OrcOk Tryd.prog Γ orc) (hl : LOrcOk Tryd.prog Γ lo) : CfgOk Tryd.prog Γ (cfgT T p orc lo) where
  orc := h
  om := (omT_ok hT om1_ok).1
  fit := (omT_ok hT om1_ok).2
  lo := hl
  mixed := by kernel_rfl
noncomputable def cfg31 : Cfg := cfgT T31 isT31 orc31 lo30
theorem cfg31_ok : CfgOk Tryd.prog Γ cfg31 := cfgT_ok T31_ok orc31_ok lo30_ok
def hp_jn : HP := { n := 76, lv := [4, 6, 58, 59], sp := [.ptr 0 0, .ptr 1 0, .ty ity, .ty ity], op := [.cells [.ci 0, .nl, .nl, .ci 0, .ci 0, .nl], .cells [.ty ity, .ty (.slice ity), .ty (.slice conf), .ty ity, .ty ity, .bz 0]], bp := [.arr lockT] }
def lve_jn : Ex → List Nat
  | .normal => [4, 6, 58, 59]
  | .exit 0 => [4, 6]
  | _ => []
theorem bd_jn : Tryd.f16.body = some (root 16) := by kernel_rfl
theorem le_jn : (loops (root 16))[0]? = some (lp 16 0) := by kernel_rfl
theorem li_jn : Lies (root 16) 1 (lp 16 0) := Lies.of_take (n := 0) (by kernel_rfl)
def st_jn (n i u : Int) (ev : List Int) (co : List (Ty.den conf)) (t c : Int) (j : Nat) (l : List (Ty.den lockT)) : St := hp_jn.st ⟨((), (), n, i, ()), (((), (), (), (), (), (), ()), (u, ev, co, t, c, j, ()), ()), (l, ())⟩
noncomputable def rn_jn (n i u : Int) (ev : List Int) (co : List (Ty.den conf)) (t c : Int) (j : Nat) (l : List (Ty.den lockT)) := outa lve_jn (evCK Tryd.prog Γ (cfM Tryd.prog Γ cfg31 30) (cfg31.lo 16) [] 60 1 (lp 16 0) (st_jn n i u ev co t c j l))
theorem rn_jn_eq (n i u : Int) (ev : List Int) (co : List (Ty.den conf)) (t c : Int) (j : Nat) (l : List (Ty.den lockT)) : (rn_jn n i u ev co t c j l).run = (bif decide (i < n) then (bif decide ((0 : Int) ≤ i ∧ i < (Nat.cast (j) : Int)) then (bif decide (0 + i.toNat < l.length) then (bif decide (0 < List.length (kK (l.getD (0 + i.toNat) lockT.dflt)) ∧ List.length (kK (l.getD (0 + i.toNat) lockT.dflt)) ≤ 1000000) then (bif decide ((0 : Int) ≤ i ∧ i < (Nat.cast (j) : Int)) then (bif decide (0 + i.toNat < l.length) then (some ((Ex.normal, [V.ptr (0 : Nat) (0 : Nat), V.ptr (1 : Nat) (0 : Nat), V.si IntKind.i64 n, V.si IntKind.i64 (IntKind.i64.wrap (i + (1 : Int)))], [some [V.i IntKind.i64 (0 : Int), V.lst Tag.full [], V.lst Tag.full [], V.i IntKind.i64 (0 : Int), V.i IntKind.i64 (0 : Int), V.lst Tag.full []], some [V.si IntKind.i64 u, V.slst Tag.ro ity ev, V.slst Tag.ro conf co, V.si IntKind.i64 t, V.si IntKind.i64 c, V.bs true (0 : Nat) (0 : Nat) j]], [some (Bf.live (BC.arr lockT (l.set (0 + i.toNat) (l.getD (0 + i.toNat) lockT.dflt))))], (76 : Nat), (0 : Nat), (0 : Nat)))) else none) else none) else none) else none) else none) else (some ((Ex.exit (0 : Nat), [V.ptr (0 : Nat) (0 : Nat), V.ptr (1 : Nat) (0 : Nat)], [some [V.i IntKind.i64 (0 : Int), V.lst Tag.full [], V.lst Tag.full [], V.i IntKind.i64 (0 : Int), V.i IntKind.i64 (0 : Int), V.lst Tag.full []], some [V.si IntKind.i64 u, V.slst Tag.ro ity ev, V.slst Tag.ro conf co, V.si IntKind.i64 t, V.si IntKind.i64 c, V.bs true (0 : Nat) (0 : Nat) j]], [some (Bf.live (BC.arr lockT l))], (76 : Nat), (0 : Nat), (0 : Nat))))) := by kernel_rfl
theorem rn_jn_c (n i u : Int) (ev : List Int) (co : List (Ty.den conf)) (t c : Int) (j : Nat) (l : List (Ty.den lockT)) {e : Ex} {vs : List V} {ob : Ob} {nm : Nm} {n' kh kt : Nat} (h : (rn_jn n i u ev co t c j l).run = some (e, vs, ob, nm, n', kh, kt)) : SemC Tryd.prog Γ (lp 16 0) (st_jn n i u ev co t c j l) e.to (St.of n' (lve_jn e) vs ob nm kh kt) := SemC.of_evM cfg31_ok Tryd.func16 bd_jn li_jn h
end L
end Go.Proofs.YthjiodeaepigmaaDoor

/- Package label: Join, printed. -/
set_option linter.unusedVariables false
set_option linter.unusedSimpArgs false
set_option maxRecDepth 100000
set_option maxHeartbeats 4000000
namespace Go.Proofs.YthjiodeaepigmaaDoor
open Go
namespace L
-- 
-- 
abbrev pre_jn (n i u : Int) (ev : List Int) (co : List (Ty.den conf)) (t c : Int) (j : Nat) (l : List (Ty.den lockT)) : Prop := n = (l.length : Int) ∧ i = 0 ∧ j = l.length ∧ l.length ≤ 1000000 ∧ ∀ q ∈ l, 0 < (kK q).length ∧ (kK q).length ≤ 1000000
def rs_jn (n i u : Int) (ev : List Int) (co : List (Ty.den conf)) (t c : Int) (j : Nat) (l : List (Ty.den lockT)) : Ex × St := (.exit 0, St.of 76 (lve_jn (.exit 0)) [.ptr 0 0, .ptr 1 0] [some [.i .i64 0, .lst .full [], .lst .full [], .i .i64 0, .i .i64 0, .lst .full []], some [.si .i64 u, .slst .ro ity ev, .slst .ro conf co, .si .i64 t, .si .i64 c, .bs true 0 0 l.length]] [some (.live (.arr lockT l))] hp_jn.kh hp_jn.kt)
def res_jn (n i u : Int) (ev : List Int) (co : List (Ty.den conf)) (t c : Int) (j : Nat) (l : List (Ty.den lockT)) : Tr (Ex × St) := .br (decide (pre_jn n i u ev co t c j l)) (.leaf (some (.exit 0, St.of 76 (lve_jn (.exit 0)) [.ptr 0 0, .ptr 1 0] [some [.i .i64 0, .lst .full [], .lst .full [], .i .i64 0, .i .i64 0, .lst .full []], some [.si .i64 u, .slst .ro ity ev, .slst .ro conf co, .si .i64 t, .si .i64 c, .bs true 0 0 l.length]] [some (.live (.arr lockT l))] hp_jn.kh hp_jn.kt))) (.leaf none)
theorem res_jn_run (n i u : Int) (ev : List Int) (co : List (Ty.den conf)) (t c : Int) (j : Nat) (l : List (Ty.den lockT)) (h : pre_jn n i u ev co t c j l) : (res_jn n i u ev co t c j l).run = some (rs_jn n i u ev co t c j l) := by
  unfold res_jn rs_jn
  rw [decide_eq_true h]
  exact rfl
theorem res_jn_no (n i u : Int) (ev : List Int) (co : List (Ty.den conf)) (t c : Int) (j : Nat) (l : List (Ty.den lockT)) (h : ¬ pre_jn n i u ev co t c j l) : (res_jn n i u ev co t c j l).run = none := Tr.run_no h
def ent_jn : LEnt := LEnt.by hp_jn fun ⟨(_, _, n, i, _), ((_, _, _, _, _, _, _), (u, ev, co, t, c, j, _), _), (l, _)⟩ => res_jn n i u ev co t c j l
theorem ent_jn_ok (hgo : ∀ (n i u : Int) (ev : List Int) (co : List (Ty.den conf)) (t c : Int) (j : Nat) (l : List (Ty.den lockT)), pre_jn n i u ev co t c j l → SemL Tryd.prog Γ (lp 16 0) (st_jn n i u ev co t c j l) (rs_jn n i u ev co t c j l).1.to (rs_jn n i u ev co t c j l).2) : EntOk Tryd.prog Γ (lp 16 0) ent_jn := LEnt.by_ok fun ⟨(_, _, n, i, _), ((_, _, _, _, _, _, _), (u, ev, co, t, c, j, _), _), (l, _)⟩ ex_ s_ h_ => by
  have h_ : (res_jn n i u ev co t c j l).run = some (ex_, s_) := h_
  by_cases hp_ : pre_jn n i u ev co t c j l
  · rw [res_jn_run n i u ev co t c j l hp_] at h_
    obtain ⟨rfl, rfl⟩ := Prod.mk.inj (Option.some.inj h_)
    exact hgo n i u ev co t c j l hp_
  · rw [res_jn_no n i u ev co t c j l hp_] at h_
    cases h_
theorem set_same {α : Type} {l : List α} {i : Nat} (d : α) (h : i < l.length) : l.set i (l.getD i d) = l := by
  rw [getD_eq h]
  exact List.set_getElem_self h
theorem jn_go (n i u : Int) (ev : List Int) (co : List (Ty.den conf)) (t c : Int) (j : Nat) (l : List (Ty.den lockT)) (h : pre_jn n i u ev co t c j l) : SemL Tryd.prog Γ (lp 16 0) (st_jn n i u ev co t c j l) (rs_jn n i u ev co t c j l).1.to (rs_jn n i u ev co t c j l).2 := by
  obtain ⟨rfl, rfl, rfl, hl, hk⟩ := h
  refine SemL.scan l.length 0 (Nat.zero_le _) (fun i => st_jn l.length (i : Nat) u ev co t c l.length l) (fun _ => true) (rs_jn l.length 0 u ev co t c l.length l) ?_ ?_ ?_
  · intro i _ hi _ _
    have hw : IntKind.i64.wrap ((i : Int) + 1) = ((i + 1 : Nat) : Int) := by rw [wrap_in (by omega) (by omega)]; rfl
    have eq := rn_jn_eq l.length i u ev co t c l.length l
    have hq := hk (l.getD i lockT.dflt) (by have e1 : l.getD i lockT.dflt = l[i] := getD_eq hi _; rw [e1]; exact List.getElem_mem hi)
    rw [hw, decide_eq_true (by omega : (i : Int) < (l.length : Int)), decide_eq_true (by omega : (0 : Int) ≤ (i : Int) ∧ (i : Int) < (l.length : Int)), Int.toNat_natCast, Nat.zero_add, decide_eq_true hi, decide_eq_true hq, set_same _ hi] at eq
    exact rn_jn_c l.length i u ev co t c l.length l (eq.trans rfl)
  · intro i _ _ _ h; cases h
  · intro _
    refine ⟨by simp [rs_jn, Ex.to], ?_⟩
    have eq := rn_jn_eq l.length l.length u ev co t c l.length l
    rw [decide_eq_false (by omega)] at eq
    exact rn_jn_c l.length l.length u ev co t c l.length l (eq.trans rfl)
def lo32 : LOrc := (LOrc.add lo30 16 0 ent_jn)
theorem lo32_ok : LOrcOk Tryd.prog Γ lo32 := (LOrcOk.add lo30_ok 16 0 Tryd.func16 bd_jn le_jn (ent_jn_ok jn_go))
noncomputable def cfg32 : Cfg := cfgT T31 isT31 orc31 lo32
theorem cfg32_ok : CfgOk Tryd.prog Γ cfg32 := cfgT_ok T31_ok orc31_ok lo32_ok
noncomputable def ev16 (u : Int) (ev : List Int) (co : List (Ty.den conf)) (t c : Int) (l : List (Ty.den lockT)) (u' : Int) (ev' : List Int) (co' : List (Ty.den conf)) (t' c' : Int) (l' : List (Ty.den lockT)) : Tr V := (evFK Tryd.prog Γ (cfM Tryd.prog Γ cfg32 30) cfg32.lo (cfg32.lv 16) 80 16 [.agg [.si .i64 u, .slst .ro ity ev, .slst .ro conf co, .si .i64 t, .si .i64 c, .slst .ro lockT l], .agg [.si .i64 u', .slst .ro ity ev', .slst .ro conf co', .si .i64 t', .si .i64 c', .slst .ro lockT l']] [] []).bind fun p => .leaf (valO (some p))
theorem t16_eq (u : Int) (ev : List Int) (co : List (Ty.den conf)) (t c : Int) (l : List (Ty.den lockT)) (u' : Int) (ev' : List Int) (co' : List (Ty.den conf)) (t' c' : Int) (l' : List (Ty.den lockT)) : (ev16 u ev co t c l u' ev' co' t' c' l').run = (bif (some (decide (szE ev co l) && (!validE u ev co t c l || decide (szE ev' co' l')))).getD true then (bif bif !validE u ev co t c l then true else !validE u' ev' co' t' c' l' then (some (V.tup [V.agg [V.i IntKind.i64 (0 : Int), V.lst Tag.full [], V.lst Tag.full [], V.i IntKind.i64 (0 : Int), V.i IntKind.i64 (0 : Int), V.lst Tag.full []], V.i IntKind.i64 (100 : Int)])) else (bif decide (cn_g47 ev ev') then (bif decide (cn_g50 co co') then (bif decide (cn_h53 l l') then (bif decide ((Nat.cast ((unD cmpL cbL l l').length) : Int) > (4 : Int)) then (some (V.tup [V.agg [V.i IntKind.i64 (0 : Int), V.lst Tag.full [], V.lst Tag.full [], V.i IntKind.i64 (0 : Int), V.i IntKind.i64 (0 : Int), V.lst Tag.full []], V.i IntKind.i64 (100 : Int)])) else (bif decide (pre_jn (Nat.cast ((unD cmpL cbL l l').length) : Int) (0 : Int) (if u' > u then u' else u) (unD sgn cbI ev ev') (unD cmpC cbC co co') (IntKind.i64.wrap (Nat.cast ((BitVec.ofInt (64) t &&& BitVec.ofInt (64) t').toNat) : Int)) (IntKind.i64.wrap (Nat.cast ((BitVec.ofInt (64) c &&& BitVec.ofInt (64) c').toNat) : Int)) (unD cmpL cbL l l').length (unD cmpL cbL l l')) then (some (V.tup [V.agg [V.si IntKind.i64 (if u' > u then u' else u), V.slst Tag.ro ity (unD sgn cbI ev ev'), V.slst Tag.ro conf (unD cmpC cbC co co'), V.si IntKind.i64 (IntKind.i64.wrap (Nat.cast ((BitVec.ofInt (64 : Nat) t &&& BitVec.ofInt (64 : Nat) t').toNat) : Int)), V.si IntKind.i64 (IntKind.i64.wrap (Nat.cast ((BitVec.ofInt (64 : Nat) c &&& BitVec.ofInt (64 : Nat) c').toNat) : Int)), V.slst Tag.ro lockT (List.take (unD cmpL cbL l l').length (List.drop (0) (unD cmpL cbL l l')))], V.i IntKind.i64 (0 : Int)])) else none)) else none) else none) else none)) else none) := by kernel_rfl
end L
end Go.Proofs.YthjiodeaepigmaaDoor

/- Package label: Join as a contract; the loops of Same, EqualFunc, Equal, ContainsFunc: printed. -/
set_option linter.unusedVariables false
set_option linter.unusedSimpArgs false
set_option maxRecDepth 100000
set_option maxHeartbeats 4000000
namespace Go.Proofs.YthjiodeaepigmaaDoor
open Go
namespace L
-- 
-- 
def andI (a b : Int) : Int := IntKind.i64.wrap (Nat.cast ((BitVec.ofInt 64 a &&& BitVec.ofInt 64 b).toNat) : Int)
def maxI (a b : Int) : Int := if b > a then b else a
def zeroL : Ty.den labT := ((0 : Int), ([] : List Int), ([] : List (Ty.den conf)), (0 : Int), (0 : Int), ([] : List (Ty.den lockT)), ())
def unL (x y : Ty.den labT) : List (Ty.den lockT) := unD cmpL cbL (aL x) (aL y)
def joinT (x y : Ty.den labT) : Ty.den labT := (maxI (aU x) (aU y), unD sgn cbI (aE x) (aE y), unD cmpC cbC (aC x) (aC y), andI (aT x) (aT y), andI (aK x) (aK y), unL x y, ())
def joinB (x y : Ty.den labT) : Bool := vX x && vX y && decide ((unL x y).length ≤ 4)
def joinV (x y : Ty.den labT) : Ty.den labT := bif joinB x y then joinT x y else zeroL
def joinN (x y : Ty.den labT) : Int := bif joinB x y then 0 else 100
theorem mgA_all {α : Type} {cmp : α → α → Int} {cb : α → α → α} {p : α → Prop} (hc : ∀ x y, p x → p y → p (cb x y)) : ∀ (n : Nat) (a b : List α), a.length + b.length ≤ n → (∀ x ∈ a, p x) → (∀ x ∈ b, p x) → (∀ x ∈ (mgA cmp cb a b).1, p x) ∧ (∀ x ∈ (mgA cmp cb a b).2.1, p x) ∧ ∀ x ∈ (mgA cmp cb a b).2.2, p x
  | _, [], b, _, ha, hb => by rw [mgA_nil]; exact ⟨(fun x h => by cases h), ha, hb⟩
  | _, x :: a, [], _, ha, hb => by rw [mgA_end]; exact ⟨(fun x h => by cases h), ha, hb⟩
  | 0, x :: a, y :: b, h, _, _ => by simp at h
  | n + 1, x :: a, y :: b, h, ha, hb => by
    rw [mgA_cons]
    simp only [List.length_cons] at h
    have hx := ha x (List.mem_cons_self ..)
    have hy := hb y (List.mem_cons_self ..)
    split
    · obtain ⟨q1, q2, q3⟩ := mgA_all hc n a (y :: b) (by simp only [List.length_cons]; omega) (fun z hz => ha z (List.mem_cons_of_mem _ hz)) hb
      refine ⟨fun z hz => ?_, q2, q3⟩
      rcases List.mem_cons.1 hz with rfl | hz
      · exact hx
      · exact q1 z hz
    · split
      · obtain ⟨q1, q2, q3⟩ := mgA_all hc n (x :: a) b (by simp only [List.length_cons]; omega) ha (fun z hz => hb z (List.mem_cons_of_mem _ hz))
        refine ⟨fun z hz => ?_, q2, q3⟩
        rcases List.mem_cons.1 hz with rfl | hz
        · exact hy
        · exact q1 z hz
      · obtain ⟨q1, q2, q3⟩ := mgA_all hc n a b (by omega) (fun z hz => ha z (List.mem_cons_of_mem _ hz)) (fun z hz => hb z (List.mem_cons_of_mem _ hz))
        refine ⟨fun z hz => ?_, q2, q3⟩
        rcases List.mem_cons.1 hz with rfl | hz
        · exact hc x y hx hy
        · exact q1 z hz
theorem unD_mem {α : Type} {cmp : α → α → Int} {cb : α → α → α} {p : α → Prop} (hc : ∀ x y, p x → p y → p (cb x y)) {a b : List α} (ha : ∀ x ∈ a, p x) (hb : ∀ x ∈ b, p x) : ∀ x ∈ unD cmp cb a b, p x := by
  obtain ⟨q1, q2, q3⟩ := mgA_all (cmp := cmp) hc _ a b (Nat.le_refl _) ha hb
  intro x hx
  unfold unD at hx
  rcases List.mem_append.1 hx with hx | hx
  · rcases List.mem_append.1 hx with hx | hx
    · exact q1 x hx
    · exact q2 x hx
  · exact q3 x hx
theorem valid_locks {x : Ty.den labT} (h : vX x = true) : locksD (aL x) = true ∧ (aL x).length ≤ 4 := by
  unfold vX validE at h
  simp only [Bool.and_eq_true, Bool.not_eq_true', decide_eq_false_iff_not] at h
  exact ⟨h.1.1.2, by have := h.1.1.1.2; omega⟩
theorem tup2 {G : Gh} {a a' b b' : V} (ha : ∀ cv, VRel G a cv → VRel G a' cv) (hb : ∀ cv, VRel G b cv → VRel G b' cv) (cv : Value) (h : VRel G (.tup [a, b]) cv) : VRel G (.tup [a', b']) cv := by
  cases h with
  | tup hl hh =>
    refine .tup hl fun j v c h1 h2 => ?_
    match j, h1 with
    | 0, h1 => cases h1; exact ha c (hh 0 _ c rfl h2)
    | 1, h1 => cases h1; exact hb c (hh 1 _ c rfl h2)
    | j + 2, h1 => cases h1
theorem c16_ok (x y : Ty.den labT) (hx : szX x) (hy : szX y) : SemF Tryd.prog Γ 16 [labT.val x, labT.val y] [] [] (.tup [labT.val (joinV x y), .si .i64 (joinN x y)]) [] [] := by
  have eq := t16_eq (aU x) (aE x) (aC x) (aT x) (aK x) (aL x) (aU y) (aE y) (aC y) (aT y) (aK y) (aL y)
  have hx1 : szE (aE x) (aC x) (aL x) := hx
  have hy1 : szE (aE y) (aC y) (aL y) := hy
  have e1 : validE (aU x) (aE x) (aC x) (aT x) (aK x) (aL x) = vX x := rfl
  have e2 : validE (aU y) (aE y) (aC y) (aT y) (aK y) (aL y) = vX y := rfl
  rw [decide_eq_true hx1, decide_eq_true hy1, e1, e2, Bool.or_true] at eq
  have z : ∀ {G : Gh} {cv : Value}, joinB x y = false → VRel G (.tup [.agg [.i .i64 0, .lst .full [], .lst .full [], .i .i64 0, .i .i64 0, .lst .full []], .i .i64 100]) cv → VRel G (.tup [labT.val (joinV x y), .si .i64 (joinN x y)]) cv := fun {G cv} hj => by
    unfold joinV joinN
    rw [hj]
    exact tup2 (fun cv h => Ty.ofV_ok (t := labT) (x := zeroL) rfl h) (fun cv h => Ty.ofV_ok (t := ity) (x := (100 : Int)) rfl h) cv
  cases vx : vX x with
  | false =>
    rw [vx] at eq
    exact (of_val cfg32_ok (eq.trans rfl)).weaken fun G cv => z (by unfold joinB; rw [vx]; rfl)
  | true =>
    cases vy : vX y with
    | false =>
      rw [vx, vy] at eq
      exact (of_val cfg32_ok (eq.trans rfl)).weaken fun G cv => z (by unfold joinB; rw [vx, vy]; rfl)
    | true =>
      obtain ⟨lx, lx4⟩ := valid_locks vx
      obtain ⟨ly, ly4⟩ := valid_locks vy
      have hl := unD_len cmpL cbL (aL x) (aL y)
      have hq : ∀ q ∈ unD cmpL cbL (aL x) (aL y), 0 < (kK q).length ∧ (kK q).length ≤ 1000000 :=
        unD_mem (fun a b ha hb => ha) (fun q hq => ⟨locks_pos lx q hq, hx.2.2.2 q hq⟩) (fun q hq => ⟨locks_pos ly q hq, hy.2.2.2 q hq⟩)
      rw [vx, vy, decide_eq_true (show cn_g47 (aE x) (aE y) from ⟨hx.1, hy.1⟩), decide_eq_true (show cn_g50 (aC x) (aC y) from ⟨hx.2.1, hy.2.1⟩), decide_eq_true (show cn_h53 (aL x) (aL y) from ⟨hx.2.2.1, hy.2.2.1, hx.2.2.2, hy.2.2.2⟩),
        decide_eq_true (show pre_jn (Nat.cast (unD cmpL cbL (aL x) (aL y)).length : Int) 0 (if aU y > aU x then aU y else aU x) (unD sgn cbI (aE x) (aE y)) (unD cmpC cbC (aC x) (aC y)) (IntKind.i64.wrap (Nat.cast ((BitVec.ofInt 64 (aT x) &&& BitVec.ofInt 64 (aT y)).toNat) : Int)) (IntKind.i64.wrap (Nat.cast ((BitVec.ofInt 64 (aK x) &&& BitVec.ofInt 64 (aK y)).toNat) : Int)) (unD cmpL cbL (aL x) (aL y)).length (unD cmpL cbL (aL x) (aL y)) from ⟨rfl, rfl, rfl, by omega, hq⟩)] at eq
      by_cases h4 : (unD cmpL cbL (aL x) (aL y)).length ≤ 4
      · rw [decide_eq_false (by omega)] at eq
        refine (of_val cfg32_ok (eq.trans rfl)).weaken fun G cv => ?_
        have hj : joinB x y = true := by
          unfold joinB
          rw [vx, vy, decide_eq_true (show (unL x y).length ≤ 4 from h4)]
          rfl
        have hv : joinV x y = joinT x y := by unfold joinV; rw [hj]; rfl
        have hn : joinN x y = 0 := by unfold joinN; rw [hj]; rfl
        rw [hv, hn]
        refine tup2 (fun cv h => ?_) (fun cv h => Ty.ofV_ok (t := ity) (x := (0 : Int)) rfl h) cv
        have ht : List.take (unD cmpL cbL (aL x) (aL y)).length (List.drop 0 (unD cmpL cbL (aL x) (aL y))) = unD cmpL cbL (aL x) (aL y) := by rw [List.drop_zero, List.take_length]
        rw [ht] at h
        exact h
      · rw [decide_eq_true (by omega : (Nat.cast (unD cmpL cbL (aL x) (aL y)).length : Int) > 4)] at eq
        exact (of_val cfg32_ok (eq.trans rfl)).weaken fun G cv => z (by
          unfold joinB
          rw [vx, vy, decide_eq_false (show ¬ (unL x y).length ≤ 4 from h4)]
          rfl)
def e16 (x y : Ty.den labT) : Option Bool × V := (some (decide (szX x ∧ szX y)), .tup [labT.val (joinV x y), .si .i64 (joinN x y)])
theorem e16_of (x y : Ty.den labT) (h : (e16 x y).1.getD true = true) : SemF Tryd.prog Γ 16 [labT.val x, labT.val y] [] [] (e16 x y).2 [] [] := c16_ok x y (of_decide_eq_true h).1 (of_decide_eq_true h).2
noncomputable def orc33 : Orc := fun f args => if f = 16 then (Ty.ofVs [labT, labT] args).map (fun x => e16 x.1 x.2.1) else orc31 f args
theorem orc33_ok : OrcOk Tryd.prog Γ orc33 := orc31_ok.plain 16 [labT, labT] (fun x => e16 x.1 x.2.1) Tryd.f16 Tryd.func16 rfl (by kernel_rfl) (fun x h => e16_of _ _ h)
noncomputable def cfg33 : Cfg := cfgT T31 isT31 orc33 lo32
theorem cfg33_ok : CfgOk Tryd.prog Γ cfg33 := cfgT_ok T31_ok orc33_ok lo32_ok
def hp_ef : HP := { n := 32, lv := [1, 2, 15, 16, 17], sp := [.ty (.slice lockT), .fn 68 [], .ty (.slice lockT), .ty ity, .ty ity], op := [], bp := [] }
def lve_ef : Ex → List Nat
  | .normal => [1, 2, 15, 16, 17]
  | .ret => [6]
  | .exit 0 => []
  | _ => []
theorem bd_ef : Tryd.f67.body = some (root 67) := by kernel_rfl
theorem le_ef : (loops (root 67))[0]? = some (lp 67 0) := by kernel_rfl
theorem li_ef : Lies (root 67) 1 (lp 67 0) := Lies.of_take (n := 0) (by kernel_rfl)
def st_ef (b a : List (Ty.den lockT)) (n i : Int) : St := hp_ef.st ⟨(b, (), a, n, i, ()), (), ()⟩
noncomputable def rn_ef (b a : List (Ty.den lockT)) (n i : Int) := outa lve_ef (evCK Tryd.prog Γ (cfM Tryd.prog Γ cfg33 30) (cfg33.lo 67) [] 60 1 (lp 67 0) (st_ef b a n i))
theorem rn_ef_eq (b a : List (Ty.den lockT)) (n i : Int) : (rn_ef b a n i).run = (bif decide (i < n) then (bif decide ((0 : Int) ≤ i ∧ i < (Nat.cast (a.length) : Int)) then (bif decide ((0 : Int) ≤ i ∧ i < (Nat.cast (b.length) : Int)) then (bif decide ((kK (a.getD i.toNat lockT.dflt)).length ≤ 1000000 ∧ (kK (b.getD i.toNat lockT.dflt)).length ≤ 1000000) then (bif !cmpL (a.getD i.toNat lockT.dflt) (b.getD i.toNat lockT.dflt) == (0 : Int) then (some ((Ex.ret, [V.b false], [], [], (32 : Nat), (0 : Nat), (0 : Nat)))) else (some ((Ex.normal, [V.slst Tag.ro lockT b, V.fn (Fn.func (68 : FuncId)) [] [], V.slst Tag.ro lockT a, V.si IntKind.i64 n, V.si IntKind.i64 (IntKind.i64.wrap (i + (1 : Int)))], [], [], (32 : Nat), (0 : Nat), (0 : Nat))))) else none) else none) else none) else (some ((Ex.exit (0 : Nat), [], [], [], (32 : Nat), (0 : Nat), (0 : Nat))))) := by kernel_rfl
theorem rn_ef_c (b a : List (Ty.den lockT)) (n i : Int) {e : Ex} {vs : List V} {ob : Ob} {nm : Nm} {n' kh kt : Nat} (h : (rn_ef b a n i).run = some (e, vs, ob, nm, n', kh, kt)) : SemC Tryd.prog Γ (lp 67 0) (st_ef b a n i) e.to (St.of n' (lve_ef e) vs ob nm kh kt) := SemC.of_evM cfg33_ok Tryd.func67 bd_ef li_ef h
def hp_e1 : HP := { n := 26, lv := [0, 1, 12, 13], sp := [.ty (.slice ity), .ty (.slice ity), .ty ity, .ty ity], op := [], bp := [] }
def lve_e1 : Ex → List Nat
  | .normal => [0, 1, 12, 13]
  | .ret => [4]
  | .exit 0 => []
  | _ => []
theorem bd_e1 : Tryd.f69.body = some (root 69) := by kernel_rfl
theorem le_e1 : (loops (root 69))[0]? = some (lp 69 0) := by kernel_rfl
theorem li_e1 : Lies (root 69) 1 (lp 69 0) := Lies.of_take (n := 0) (by kernel_rfl)
def st_e1 (a b : List Int) (n i : Int) : St := hp_e1.st ⟨(a, b, n, i, ()), (), ()⟩
noncomputable def rn_e1 (a b : List Int) (n i : Int) := outa lve_e1 (evCK Tryd.prog Γ (cfM Tryd.prog Γ cfg33 30) (cfg33.lo 69) [] 60 1 (lp 69 0) (st_e1 a b n i))
theorem rn_e1_eq (a b : List Int) (n i : Int) : (rn_e1 a b n i).run = (bif decide (i < n) then (bif decide ((0 : Int) ≤ i ∧ i < (Nat.cast (a.length) : Int)) then (bif decide ((0 : Int) ≤ i ∧ i < (Nat.cast (b.length) : Int)) then (bif a.getD i.toNat (0 : Int) != b.getD i.toNat (0 : Int) then (some ((Ex.ret, [V.b false], [], [], (26 : Nat), (0 : Nat), (0 : Nat)))) else (some ((Ex.normal, [V.slst Tag.ro ity a, V.slst Tag.ro ity b, V.si IntKind.i64 n, V.si IntKind.i64 (IntKind.i64.wrap (i + (1 : Int)))], [], [], (26 : Nat), (0 : Nat), (0 : Nat))))) else none) else none) else (some ((Ex.exit (0 : Nat), [], [], [], (26 : Nat), (0 : Nat), (0 : Nat))))) := by kernel_rfl
theorem rn_e1_c (a b : List Int) (n i : Int) {e : Ex} {vs : List V} {ob : Ob} {nm : Nm} {n' kh kt : Nat} (h : (rn_e1 a b n i).run = some (e, vs, ob, nm, n', kh, kt)) : SemC Tryd.prog Γ (lp 69 0) (st_e1 a b n i) e.to (St.of n' (lve_e1 e) vs ob nm kh kt) := SemC.of_evM cfg33_ok Tryd.func69 bd_e1 li_e1 h
def hp_e2 : HP := { n := 26, lv := [0, 1, 12, 13], sp := [.ty (.slice conf), .ty (.slice conf), .ty ity, .ty ity], op := [], bp := [] }
def lve_e2 : Ex → List Nat
  | .normal => [0, 1, 12, 13]
  | .ret => [4]
  | .exit 0 => []
  | _ => []
theorem bd_e2 : Tryd.f70.body = some (root 70) := by kernel_rfl
theorem le_e2 : (loops (root 70))[0]? = some (lp 70 0) := by kernel_rfl
theorem li_e2 : Lies (root 70) 1 (lp 70 0) := Lies.of_take (n := 0) (by kernel_rfl)
def st_e2 (a b : List (Ty.den conf)) (n i : Int) : St := hp_e2.st ⟨(a, b, n, i, ()), (), ()⟩
noncomputable def rn_e2 (a b : List (Ty.den conf)) (n i : Int) := outa lve_e2 (evCK Tryd.prog Γ (cfM Tryd.prog Γ cfg33 30) (cfg33.lo 70) [] 60 1 (lp 70 0) (st_e2 a b n i))
theorem rn_e2_eq (a b : List (Ty.den conf)) (n i : Int) : (rn_e2 a b n i).run = (bif decide (i < n) then (bif decide ((0 : Int) ≤ i ∧ i < (Nat.cast (a.length) : Int)) then (bif decide ((0 : Int) ≤ i ∧ i < (Nat.cast (b.length) : Int)) then (bif !((cF (a.getD i.toNat conf.dflt)) == (cF (b.getD i.toNat conf.dflt)) && ((cC (a.getD i.toNat conf.dflt)) == (cC (b.getD i.toNat conf.dflt)) && true)) then (some ((Ex.ret, [V.b false], [], [], (26 : Nat), (0 : Nat), (0 : Nat)))) else (some ((Ex.normal, [V.slst Tag.ro conf a, V.slst Tag.ro conf b, V.si IntKind.i64 n, V.si IntKind.i64 (IntKind.i64.wrap (i + (1 : Int)))], [], [], (26 : Nat), (0 : Nat), (0 : Nat))))) else none) else none) else (some ((Ex.exit (0 : Nat), [], [], [], (26 : Nat), (0 : Nat), (0 : Nat))))) := by kernel_rfl
theorem rn_e2_c (a b : List (Ty.den conf)) (n i : Int) {e : Ex} {vs : List V} {ob : Ob} {nm : Nm} {n' kh kt : Nat} (h : (rn_e2 a b n i).run = some (e, vs, ob, nm, n', kh, kt)) : SemC Tryd.prog Γ (lp 70 0) (st_e2 a b n i) e.to (St.of n' (lve_e2 e) vs ob nm kh kt) := SemC.of_evM cfg33_ok Tryd.func70 bd_e2 li_e2 h
def hp_s0 : HP := { n := 89, lv := [2, 3, 5], sp := [.ptr 0 0, .ptr 1 0, .ty ity], op := [.cells [.ty ity, .ty (.slice ity), .ty (.slice conf), .ty ity, .ty ity, .ty (.slice lockT)], .cells [.ty ity, .ty (.slice ity), .ty (.slice conf), .ty ity, .ty ity, .ty (.slice lockT)]], bp := [] }
def lve_s0 : Ex → List Nat
  | .normal => [2, 3, 5]
  | .ret => [4]
  | .exit 0 => [2, 3]
  | _ => []
theorem bd_s0 : Tryd.f18.body = some (root 18) := by kernel_rfl
theorem le_s0 : (loops (root 18))[0]? = some (lp 18 0) := by kernel_rfl
theorem li_s0 : Lies (root 18) 1 (lp 18 0) := Lies.of_take (n := 0) (by kernel_rfl)
def st_s0 (i : Int) (u : Int) (ev : List Int) (co : List (Ty.den conf)) (t c : Int) (l : List (Ty.den lockT)) (uw : Int) (ew : List Int) (cw : List (Ty.den conf)) (tw kw : Int) (lw : List (Ty.den lockT)) : St := hp_s0.st ⟨((), (), i, ()), ((u, ev, co, t, c, l, ()), (uw, ew, cw, tw, kw, lw, ()), ()), ()⟩
noncomputable def rn_s0 (i : Int) (u : Int) (ev : List Int) (co : List (Ty.den conf)) (t c : Int) (l : List (Ty.den lockT)) (uw : Int) (ew : List Int) (cw : List (Ty.den conf)) (tw kw : Int) (lw : List (Ty.den lockT)) := outa lve_s0 (evCK Tryd.prog Γ (cfM Tryd.prog Γ cfg33 30) (cfg33.lo 18) [] 60 1 (lp 18 0) (st_s0 i u ev co t c l uw ew cw tw kw lw))
theorem rn_s0_eq (i : Int) (u : Int) (ev : List Int) (co : List (Ty.den conf)) (t c : Int) (l : List (Ty.den lockT)) (uw : Int) (ew : List Int) (cw : List (Ty.den conf)) (tw kw : Int) (lw : List (Ty.den lockT)) : (rn_s0 i u ev co t c l uw ew cw tw kw lw).run = (bif decide (i < (Nat.cast (co.length) : Int)) then (bif decide ((0 : Int) ≤ i ∧ i < (Nat.cast (co.length) : Int)) then (bif decide ((0 : Int) ≤ i ∧ i < (Nat.cast (cw.length) : Int)) then (bif !((cF (co.getD i.toNat conf.dflt)) == (cF (cw.getD i.toNat conf.dflt)) && ((cC (co.getD i.toNat conf.dflt)) == (cC (cw.getD i.toNat conf.dflt)) && true)) then (some ((Ex.ret, [V.b false], [], [], (89 : Nat), (0 : Nat), (0 : Nat)))) else (some ((Ex.normal, [V.ptr (0 : Nat) (0 : Nat), V.ptr (1 : Nat) (0 : Nat), V.si IntKind.i64 (IntKind.i64.wrap (i + (1 : Int)))], [some [V.si IntKind.i64 u, V.slst Tag.ro ity ev, V.slst Tag.ro conf co, V.si IntKind.i64 t, V.si IntKind.i64 c, V.slst Tag.ro lockT l], some [V.si IntKind.i64 uw, V.slst Tag.ro ity ew, V.slst Tag.ro conf cw, V.si IntKind.i64 tw, V.si IntKind.i64 kw, V.slst Tag.ro lockT lw]], [], (89 : Nat), (0 : Nat), (0 : Nat))))) else none) else none) else (some ((Ex.exit (0 : Nat), [V.ptr (0 : Nat) (0 : Nat), V.ptr (1 : Nat) (0 : Nat)], [some [V.si IntKind.i64 u, V.slst Tag.ro ity ev, V.slst Tag.ro conf co, V.si IntKind.i64 t, V.si IntKind.i64 c, V.slst Tag.ro lockT l], some [V.si IntKind.i64 uw, V.slst Tag.ro ity ew, V.slst Tag.ro conf cw, V.si IntKind.i64 tw, V.si IntKind.i64 kw, V.slst Tag.ro lockT lw]], [], (89 : Nat), (0 : Nat), (0 : Nat))))) := by kernel_rfl
theorem rn_s0_c (i : Int) (u : Int) (ev : List Int) (co : List (Ty.den conf)) (t c : Int) (l : List (Ty.den lockT)) (uw : Int) (ew : List Int) (cw : List (Ty.den conf)) (tw kw : Int) (lw : List (Ty.den lockT)) {e : Ex} {vs : List V} {ob : Ob} {nm : Nm} {n' kh kt : Nat} (h : (rn_s0 i u ev co t c l uw ew cw tw kw lw).run = some (e, vs, ob, nm, n', kh, kt)) : SemC Tryd.prog Γ (lp 18 0) (st_s0 i u ev co t c l uw ew cw tw kw lw) e.to (St.of n' (lve_s0 e) vs ob nm kh kt) := SemC.of_evM cfg33_ok Tryd.func18 bd_s0 li_s0 h
def hp_s1 : HP := { n := 89, lv := [2, 3, 6], sp := [.ptr 0 0, .ptr 1 0, .ty ity], op := [.cells [.ty ity, .ty (.slice ity), .ty (.slice conf), .ty ity, .ty ity, .ty (.slice lockT)], .cells [.ty ity, .ty (.slice ity), .ty (.slice conf), .ty ity, .ty ity, .ty (.slice lockT)]], bp := [] }
def lve_s1 : Ex → List Nat
  | .normal => [2, 3, 6]
  | .ret => [4]
  | .exit 2 => []
  | _ => []
theorem bd_s1 : Tryd.f18.body = some (root 18) := by kernel_rfl
theorem le_s1 : (loops (root 18))[1]? = some (lp 18 1) := by kernel_rfl
theorem li_s1 : Lies (root 18) 2 (lp 18 1) := Lies.of_take (n := 0) (by kernel_rfl)
def st_s1 (i : Int) (u : Int) (ev : List Int) (co : List (Ty.den conf)) (t c : Int) (l : List (Ty.den lockT)) (uw : Int) (ew : List Int) (cw : List (Ty.den conf)) (tw kw : Int) (lw : List (Ty.den lockT)) : St := hp_s1.st ⟨((), (), i, ()), ((u, ev, co, t, c, l, ()), (uw, ew, cw, tw, kw, lw, ()), ()), ()⟩
noncomputable def rn_s1 (i : Int) (u : Int) (ev : List Int) (co : List (Ty.den conf)) (t c : Int) (l : List (Ty.den lockT)) (uw : Int) (ew : List Int) (cw : List (Ty.den conf)) (tw kw : Int) (lw : List (Ty.den lockT)) := outa lve_s1 (evCK Tryd.prog Γ (cfM Tryd.prog Γ cfg33 30) (cfg33.lo 18) [] 60 2 (lp 18 1) (st_s1 i u ev co t c l uw ew cw tw kw lw))
theorem rn_s1_eq (i : Int) (u : Int) (ev : List Int) (co : List (Ty.den conf)) (t c : Int) (l : List (Ty.den lockT)) (uw : Int) (ew : List Int) (cw : List (Ty.den conf)) (tw kw : Int) (lw : List (Ty.den lockT)) : (rn_s1 i u ev co t c l uw ew cw tw kw lw).run = (bif decide (i < (Nat.cast (l.length) : Int)) then (bif decide ((0 : Int) ≤ i ∧ i < (Nat.cast (l.length) : Int)) then (bif decide ((0 : Int) ≤ i ∧ i < (Nat.cast (lw.length) : Int)) then (bif (some (!(kN (l.getD i.toNat lockT.dflt)) == (kN (lw.getD i.toNat lockT.dflt)) || decide (List.length (kK (l.getD i.toNat lockT.dflt)) ≤ 1000000 ∧ List.length (kK (lw.getD i.toNat lockT.dflt)) ≤ 1000000))).getD true then (bif !bif (kN (l.getD i.toNat lockT.dflt)) == (kN (lw.getD i.toNat lockT.dflt)) then rcmp (kK (l.getD i.toNat lockT.dflt)) (kK (lw.getD i.toNat lockT.dflt)) == (0 : Int) else false then (some ((Ex.ret, [V.b false], [], [], (89 : Nat), (0 : Nat), (0 : Nat)))) else (some ((Ex.normal, [V.ptr (0 : Nat) (0 : Nat), V.ptr (1 : Nat) (0 : Nat), V.si IntKind.i64 (IntKind.i64.wrap (i + (1 : Int)))], [some [V.si IntKind.i64 u, V.slst Tag.ro ity ev, V.slst Tag.ro conf co, V.si IntKind.i64 t, V.si IntKind.i64 c, V.slst Tag.ro lockT l], some [V.si IntKind.i64 uw, V.slst Tag.ro ity ew, V.slst Tag.ro conf cw, V.si IntKind.i64 tw, V.si IntKind.i64 kw, V.slst Tag.ro lockT lw]], [], (89 : Nat), (0 : Nat), (0 : Nat))))) else none) else none) else none) else (some ((Ex.exit (2 : Nat), [], [], [], (89 : Nat), (0 : Nat), (0 : Nat))))) := by kernel_rfl
theorem rn_s1_c (i : Int) (u : Int) (ev : List Int) (co : List (Ty.den conf)) (t c : Int) (l : List (Ty.den lockT)) (uw : Int) (ew : List Int) (cw : List (Ty.den conf)) (tw kw : Int) (lw : List (Ty.den lockT)) {e : Ex} {vs : List V} {ob : Ob} {nm : Nm} {n' kh kt : Nat} (h : (rn_s1 i u ev co t c l uw ew cw tw kw lw).run = some (e, vs, ob, nm, n', kh, kt)) : SemC Tryd.prog Γ (lp 18 1) (st_s1 i u ev co t c l uw ew cw tw kw lw) e.to (St.of n' (lve_s1 e) vs ob nm kh kt) := SemC.of_evM cfg33_ok Tryd.func18 bd_s1 li_s1 h
-- 
def hp_cq : HP := { n := 19, lv := [0, 1, 7, 8], sp := [.ty (.slice lockT), .fn 66 [.pel lockT], .ty ity, .ty ity], op := [], bp := [] }
def lve_cq : Ex → List Nat
  | .normal => [0, 1, 7, 8]
  | .ret => [4]
  | .exit 0 => []
  | _ => []
theorem bd_cq : Tryd.f82.body = some (root 82) := by kernel_rfl
theorem le_cq : (loops (root 82))[0]? = some (lp 82 0) := by kernel_rfl
theorem li_cq : Lies (root 82) 1 (lp 82 0) := Lies.of_take (n := 0) (by kernel_rfl)
def st_cq (a : List (Ty.den lockT)) (q : Ty.den lockT) (n i : Int) : St := hp_cq.st ⟨(a, (q, ()), n, i, ()), (), ()⟩
noncomputable def rn_cq (a : List (Ty.den lockT)) (q : Ty.den lockT) (n i : Int) := outa lve_cq (evCK Tryd.prog Γ (cfM Tryd.prog Γ cfg33 30) (cfg33.lo 82) [] 60 1 (lp 82 0) (st_cq a q n i))
theorem rn_cq_eq (a : List (Ty.den lockT)) (q : Ty.den lockT) (n i : Int) : (rn_cq a q n i).run = (bif decide (i < n) then (bif decide ((0 : Int) ≤ i ∧ i < (Nat.cast (a.length) : Int)) then (bif decide ((kK (a.getD i.toNat lockT.dflt)).length ≤ 1000000 ∧ (kK q).length ≤ 1000000) then (bif cmpL (a.getD i.toNat lockT.dflt) q == (0 : Int) then (some ((Ex.ret, [V.si IntKind.i64 i], [], [], (19 : Nat), (0 : Nat), (0 : Nat)))) else (some ((Ex.normal, [V.slst Tag.ro lockT a, V.fn (Fn.func (66 : FuncId)) [] [V.pel [V.agg [V.si IntKind.i64 q.fst, V.slst Tag.ro ity q.snd.fst]] (0 : Nat) (0 : Nat)], V.si IntKind.i64 n, V.si IntKind.i64 (IntKind.i64.wrap (i + (1 : Int)))], [], [], (19 : Nat), (0 : Nat), (0 : Nat))))) else none) else none) else (some ((Ex.exit (0 : Nat), [], [], [], (19 : Nat), (0 : Nat), (0 : Nat))))) := by kernel_rfl
theorem rn_cq_c (a : List (Ty.den lockT)) (q : Ty.den lockT) (n i : Int) {e : Ex} {vs : List V} {ob : Ob} {nm : Nm} {n' kh kt : Nat} (h : (rn_cq a q n i).run = some (e, vs, ob, nm, n', kh, kt)) : SemC Tryd.prog Γ (lp 82 0) (st_cq a q n i) e.to (St.of n' (lve_cq e) vs ob nm kh kt) := SemC.of_evM cfg33_ok Tryd.func82 bd_cq li_cq h
end L
end Go.Proofs.YthjiodeaepigmaaDoor

