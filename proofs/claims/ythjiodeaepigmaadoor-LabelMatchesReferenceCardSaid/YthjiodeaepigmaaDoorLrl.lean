/- Parts of the library of texts, one after the other: L18, L25, L26, L27, L28, L29, L30, L31, L32, L33, L34, L35, L36, L37, L38, L39, L40, L41, L42, L43, Ev34. -/
import Derived.Test.YthjiodeaepigmaaDoorLrk
import Derived.Test.YthjiodeaepigmaaDoorRows
import Derived.Handed
import Derived.OpenShut
import Derived.LaidMore
import Derived.Test.YthjiodeaepigmaaDoorLrh
/- Package label: its laid variable; from a law's contract to a row. -/
set_option linter.unusedVariables false
set_option linter.unusedSimpArgs false
set_option maxRecDepth 100000
namespace Go.Proofs.YthjiodeaepigmaaDoor
open Go Go.ChangeShapes Go.WideShapes Go.ChangeAt Go.RowKit
theorem VRel.func (G : Gh) (f : Fn) : VRel G (.fn f [] []) (.func f #[] #[]) := .fn rfl rfl (fun j v cv h => by simp at h) (fun j v cv h => by simp at h)
theorem VRel.glob {P : Program} {W : World} {n : String} {g : Nat} {cs : Array Value} {vs : List V} (hg : P.globalNamed n = some g) (hv : W.var? P n = some cs) (h : Rels (Gh.start W) vs cs.toList) : VRel (Gh.start W).bare (.pel [.agg vs] 0 0) (.pointer (some ⟨g, 0, none⟩)) := by
 have hp : VRel (Gh.start W) (.pel [.agg vs] 0 0) (.pointer (some ⟨g, 0 + (0 * vs.length + 0), none⟩)) := by
  refine VRel.pel (sz := vs.length) (cvs := cs.toList) (fun x hx => ?_) ?_ (fun j cv hj => ?_) (fun j v cv h1 h2 => ?_)
  · simp at hx; subst hx; rfl
  · simpa [flat, V.cells] using h.1
  · show W.cell? ⟨g, 0 + j, none⟩ = some cv
    rw [Nat.zero_add, World.var?_cell hg hv j]
    simpa using hj
  · exact h.2 j v cv (by simpa [flat, V.cells] using h1) h2
 have hb : (Gh.start W).sub (Gh.start W).bare := ⟨fun _ _ _ h => h, (fun _ _ h => by cases h), (fun _ _ h => by cases h), (fun _ _ h => by cases h)⟩
 simpa using hp.mono' hb
theorem int_of {H : Type} {enc : TypeId × Value → H} {P : Program} {w : World} {base : Nat} {sp : Nat → Bool} {held : Bool} {fuel : Nat} {t : TypeId} {k k' : IntKind} {n : Int} {c : Value} {q : List MemPlace}
 (ht : P.underlying t = some (.int k)) (h : DataW.trod enc P w base sp held fuel t [c] = some (.lit (.int k' n), q)) : c = .int k' n := by
 cases fuel with
 | zero => simp [DataW.trod] at h
 | succ fuel =>
  cases c <;> simp [DataW.trod, ht] at h
  obtain ⟨⟨hk, _⟩, ⟨rfl, rfl⟩, _⟩ := h
  rw [hk]
theorem cells2 {w : World} {base : Nat} {a : Addr} {c : List Value} (h : w.cells? base a 2 = some c) : ∃ x y, c = [x, y] ∧ w.cell? a = some x ∧ w.cell? (a.add 1) = some y := by
 unfold World.cells? at h
 split at h
 · have e0 : a.add 0 = a := by simp [Addr.add]
   simp only [List.range_succ, List.range_zero, List.nil_append, List.mapM_cons, List.mapM_nil, List.cons_append, e0] at h
   cases h0 : w.cell? a with
   | none => simp [h0] at h
   | some x =>
    cases h1 : w.cell? (a.add 1) with
    | none => simp [h0, h1] at h
    | some y => simp [h0, h1] at h; exact ⟨x, y, h.symm, rfl, rfl⟩
 · cases h
namespace L
theorem own : ownKnob Tryd.prog.godebug = none := by kernel_rfl
theorem laidOut : laidOutB Tryd.prog = true := by kernel_rfl
def laid : List (String × DataW Unit) := [("newswire/label.reasons", Rows.laid_newswire_label_reasons)]
theorem g0 : Tryd.prog.globalNamed "newswire/label.reasons" = some 0 := by kernel_rfl
theorem t0 : (Tryd.prog.globals[0]?).map (·.type) = some 97 := by kernel_rfl
theorem cells100 : Tryd.prog.cellsOf 100 = 2 := by kernel_rfl
theorem cells3 : Tryd.prog.cellsOf 3 = 1 := by kernel_rfl
theorem cells98 : Tryd.prog.cellsOf 98 = 1 := by kernel_rfl
theorem row_of {W : World} {n : Nat} {c : List Value} {k : Int} {f0 : FuncId} {b : UInt8} {r : List UInt8} {q : List MemPlace} (hone : ((List.range Tryd.prog.funcs.size).filter fun f => (Tryd.prog.funcs[f]?).any (·.name.toUTF8.data.toList == b :: r)) = [f0])
 (h : DataW.trod (funcToken Tryd.prog) Tryd.prog W 0 (fun _ => true) true n 100 c = some (.agg [.lit (.int .i64 k), .held (b :: r)], q)) : c = [.int .i64 k, .func (.func f0) #[] #[]] := by
 obtain ⟨xs, m, _, e, hl, hn, hf⟩ := DataW.trod_struct Tryd.underlying100 h
 have hl2 : c.length = 2 := hl.trans cells100
 obtain ⟨v0, v1, rfl⟩ : ∃ v0 v1, c = [v0, v1] := by
  match c, hl2 with
  | [a, b], _ => exact ⟨a, b, rfl⟩
 have e' : DataW.agg [DataW.lit (.int .i64 k), DataW.held (b :: r)] = DataW.agg (xs.map (·.1)) := congrArg Prod.fst e
 match xs, e', hf with
 | [x0, x1], e', hf =>
  simp only [List.map_cons, List.map_nil, DataW.agg.injEq, List.cons.injEq, and_true] at e'
  have f0 := hf 0 _ rfl
  have f1 := hf 1 _ rfl
  simp only [List.getElem?_cons_zero, List.getElem?_cons_succ] at f0 f1
  obtain ⟨d0, p0⟩ := x0
  obtain ⟨d1, p1⟩ := x1
  obtain ⟨rfl, rfl⟩ := e'
  have k0 : DataW.trod (funcToken Tryd.prog) Tryd.prog W 0 (fun _ => true) true m 3 [v0] = some (.lit (.int .i64 k), p0) := by
   simpa [cells3] using f0
  have k1 : DataW.trod (funcToken Tryd.prog) Tryd.prog W 0 (fun _ => true) true m 98 [v1] = some (.held (b :: r), p1) := by
   simpa [cells98] using f1
  rw [int_of Tryd.underlying3 k0, func_of_trod Tryd.underlying98 hone k1]
theorem globs {W : World} (h : laidMetH Tryd.prog laid W) : ∀ g v, Γ g = some v → VRel (Gh.start W).bare v (.pointer (some ⟨g, 0, none⟩)) := by
 intro g v hv
 match g, hv with
 | 0, hv =>
  obtain rfl := Option.some.inj hv
  obtain ⟨g, t, cs, fuel, p, hg, ht, hw, hd⟩ := laidMetH.funcs h (n := "newswire/label.reasons") (List.mem_singleton.2 rfl)
  obtain rfl := Option.some.inj (g0.symm.trans hg)
  obtain rfl := Option.some.inj (t0.symm.trans ht)
  refine VRel.glob g0 hw ?_
  have hd' : DataW.trod (funcToken Tryd.prog) Tryd.prog W 0 (fun _ => true) true fuel 97 cs.toList = some (.slice [.agg [.lit (.int .i64 2), .held [110, 101, 119, 115, 119, 105, 114, 101, 47, 108, 97, 98, 101, 108, 46, 114, 101, 97, 115, 111, 110, 115, 36, 49]], .agg [.lit (.int .i64 3), .held [110, 101, 119, 115, 119, 105, 114, 101, 47, 108, 97, 98, 101, 108, 46, 114, 101, 97, 115, 111, 110, 115, 36, 50]], .agg [.lit (.int .i64 4), .held [110, 101, 119, 115, 119, 105, 114, 101, 47, 108, 97, 98, 101, 108, 46, 114, 101, 97, 115, 111, 110, 115, 36, 51]], .agg [.lit (.int .i64 5), .held [110, 101, 119, 115, 119, 105, 114, 101, 47, 108, 97, 98, 101, 108, 46, 114, 101, 97, 115, 111, 110, 115, 36, 52]], .agg [.lit (.int .i64 6), .held [110, 101, 119, 115, 119, 105, 114, 101, 47, 108, 97, 98, 101, 108, 46, 114, 101, 97, 115, 111, 110, 115, 36, 53]], .agg [.lit (.int .i64 7), .held [110, 101, 119, 115, 119, 105, 114, 101, 47, 108, 97, 98, 101, 108, 46, 114, 101, 97, 115, 111, 110, 115, 36, 54]]] [], p) := hd
  rcases DataW.trod_slice Tryd.underlying97 hd' with ⟨_, hx⟩ | ⟨a, len, cap, elems, rest, n, _, hcs, hx, _, hcap, _, hlen, hel, _⟩
  · cases hx
  · have hx1 := congrArg Prod.fst hx
    simp only [] at hx1
    injection hx1 with hx1 hx2
    have hl6 : len = 6 := by
     rw [← hlen]
     have := congrArg List.length hx1
     simp at this
     exact this.symm
    subst hl6
    match elems, hlen with
    | [x0, x1, x2, x3, x4, x5], _ =>
     simp only [List.map_cons, List.map_nil, List.cons.injEq, and_true] at hx1
     obtain ⟨y0, y1, y2, y3, y4, y5⟩ := hx1
     rw [cells100] at hel
     have key : ∀ (i : Nat) (x : DataW _ × List MemPlace) (k : Int) (f0 : FuncId) (b : UInt8) (r : List UInt8), i < 6 → [x0, x1, x2, x3, x4, x5][i]? = some x → DataW.agg [DataW.lit (.int .i64 k), DataW.held (b :: r)] = x.1 → (((List.range Tryd.prog.funcs.size).filter fun f => (Tryd.prog.funcs[f]?).any (·.name.toUTF8.data.toList == b :: r)) = [f0]) →
      W.cell? (a.add (i * 2)) = some (.int .i64 k) ∧ W.cell? ((a.add (i * 2)).add 1) = some (.func (.func f0) #[] #[]) := by
      intro i x k f0 b r hi hxi hxx hone
      have h1 := hel i hi
      rw [hxi] at h1
      cases hc : W.cells? 0 (a.add (i * 2)) 2 with
      | none => rw [hc] at h1; cases h1
      | some c =>
       rw [hc] at h1
       obtain ⟨u, v, rfl, q1, q2⟩ := cells2 hc
       obtain ⟨d, pl⟩ := x
       simp only [] at hxx
       subst hxx
       have := row_of hone (show DataW.trod (funcToken Tryd.prog) Tryd.prog W 0 (fun _ => true) true n 100 [u, v] = _ from h1)
       simp only [List.cons.injEq, and_true] at this
       rw [this.1] at q1
       rw [this.2] at q2
       exact ⟨q1, q2⟩
     have k0 := key 0 x0 2 111 _ _ (by omega) rfl y0 (by kernel_rfl)
     have k1 := key 1 x1 3 112 _ _ (by omega) rfl y1 (by kernel_rfl)
     have k2 := key 2 x2 4 113 _ _ (by omega) rfl y2 (by kernel_rfl)
     have k3 := key 3 x3 5 114 _ _ (by omega) rfl y3 (by kernel_rfl)
     have k4 := key 4 x4 6 117 _ _ (by omega) rfl y4 (by kernel_rfl)
     have k5 := key 5 x5 7 121 _ _ (by omega) rfl y5 (by kernel_rfl)
     obtain ⟨b, off, spot⟩ := a
     have hspot : spot = none := by simpa [Addr.add] using World.cell?_spot k0.1
     subst hspot
     have had : ∀ m, (⟨b, off, none⟩ : Addr).add m = ⟨b, off + m, none⟩ := fun m => by unfold Addr.add; by_cases hm : m = 0 <;> simp [hm]
     simp only [had] at k0 k1 k2 k3 k4 k5
     rw [hcs]
     refine Rels.cons ?_ (Rels.nil _)
     refine VRel.lst (xs := [.agg [.i .i64 2, .fn (.func 111) [] []], .agg [.i .i64 3, .fn (.func 112) [] []], .agg [.i .i64 4, .fn (.func 113) [] []], .agg [.i .i64 5, .fn (.func 114) [] []], .agg [.i .i64 6, .fn (.func 117) [] []], .agg [.i .i64 7, .fn (.func 121) [] []]])
      (sz := 2) (cvs := [.int .i64 2, .func (.func 111) #[] #[], .int .i64 3, .func (.func 112) #[] #[], .int .i64 4, .func (.func 113) #[] #[], .int .i64 5, .func (.func 114) #[] #[], .int .i64 6, .func (.func 117) #[] #[], .int .i64 7, .func (.func 121) #[] #[]]) (fun x hx => ?_) rfl (fun j cv hj => ?_) (fun j v cv h1 h2 => ?_) hcap trivial
     · simp only [List.mem_cons, List.not_mem_nil, or_false] at hx
       rcases hx with rfl | rfl | rfl | rfl | rfl | rfl <;> rfl
     · show W.cell? ⟨b, off + j, none⟩ = some cv
       match j, hj with
       | 0, hj => cases hj; exact k0.1
       | 1, hj => cases hj; exact k0.2
       | 2, hj => cases hj; exact k1.1
       | 3, hj => cases hj; exact k1.2
       | 4, hj => cases hj; exact k2.1
       | 5, hj => cases hj; exact k2.2
       | 6, hj => cases hj; exact k3.1
       | 7, hj => cases hj; exact k3.2
       | 8, hj => cases hj; exact k4.1
       | 9, hj => cases hj; exact k4.2
       | 10, hj => cases hj; exact k5.1
       | 11, hj => cases hj; exact k5.2
       | j + 12, hj => simp at hj
     · match j, h1, h2 with
       | 0, h1, h2 => cases h1; cases h2; exact .i _ _
       | 1, h1, h2 => cases h1; cases h2; exact VRel.func _ _
       | 2, h1, h2 => cases h1; cases h2; exact .i _ _
       | 3, h1, h2 => cases h1; cases h2; exact VRel.func _ _
       | 4, h1, h2 => cases h1; cases h2; exact .i _ _
       | 5, h1, h2 => cases h1; cases h2; exact VRel.func _ _
       | 6, h1, h2 => cases h1; cases h2; exact .i _ _
       | 7, h1, h2 => cases h1; cases h2; exact VRel.func _ _
       | 8, h1, h2 => cases h1; cases h2; exact .i _ _
       | 9, h1, h2 => cases h1; cases h2; exact VRel.func _ _
       | 10, h1, h2 => cases h1; cases h2; exact .i _ _
       | 11, h1, h2 => cases h1; cases h2; exact VRel.func _ _
       | j + 12, h1, h2 => simp [flat, V.cells] at h1
 | n + 1, hv => cases hv
theorem wf_in {n : Int} (h : (Lit.int .i64 n).wf = true) : inr n = true := by
 simp [Lit.wf, IntKind.min, IntKind.max, IntKind.signed, IntKind.bits] at h
 simp [inr]
 omega
theorem door_met (os : Os) (args : Array Value) : laidMetH Tryd.prog laid ((World.doorLaid Tryd.prog 26 os).forCall (fun _ _ => 0) ⟨#[], args, []⟩).memory :=
 laidMetH_of_parts3 (fuel := 8) (laidMet_of_run' 8 (by kernel_rfl) (by kernel_rfl)) (by kernel_rfl) (by kernel_rfl)
theorem lift (os : Os) (started : os.Started) (H : Type) (enc : TypeId × Value → H) {f : FuncId} {fn : Func} {s : ChangeSpec} (ts : List Ty) (noInit : Tryd.prog.inits.idxOf? f = none) (hf : Tryd.prog.funcs[f]? = some fn)
 (hoks : Ty.oks Tryd.prog ts fn.params.toList = true) (hr : fn.params.toList.all (fun t => Tryd.prog.readableRec t && decide (t < Tryd.prog.types.size)) = true) (hrt : fn.resultTypes = #[4]) (hvars : s.vars = [])
 (hspec : ∀ ds : List (DataW H), ds.length = ts.length → s.fn H ds = { results := [.lit (.bool true)], args := ds })
 (witness : ∃ (w : World) (tape : Tape) (i : Input), w.os = os ∧ (w.forCall tape i).Shaped Tryd.prog ∧ i.vars = [] ∧ Input.okWide Tryd.prog (w.forCall tape i) .any w.heap.size f i ∧
  ((s.pre enc Tryd.prog fn [] false (w.forCall tape i).memory i.args ∧ laidMetH Tryd.prog laid (w.forCall tape i).memory) ∧ sizedMet enc Tryd.prog fn (OpenSpec.ofChange s) false (w.forCall tape i).memory i.args) ∧ ({} : Assume).holds Tryd.prog (lone (Frame.enter Tryd.prog f i.args .normal) [] (w.forCall tape i)))
 (hlaw : ∀ x : Ty.dens ts, Ty.wfs ts x → SemF Tryd.prog Γ f (Ty.vals ts x) [] [] (.sb true) [] []) :
 ReturnsInHanded {} Tryd.checked os f .any (fun w args => (s.pre enc Tryd.prog fn [] false w args ∧ laidMetH Tryd.prog laid w) ∧ sizedMet enc Tryd.prog fn (OpenSpec.ofChange s) false w args)
  (s.post enc Tryd.prog fn false true false false) := by
 refine returnsInHanded_of_change_and (C := Tryd.checked) (X := fun w _ => laidMetH Tryd.prog laid w) (fun _ _ _ hh h => h.of_heap hh) own started noInit hf witness ?_
 intro W base args ds gs before hval0 hW _ _ hL _
 have hval : ∀ (j : Nat) t v, fn.params[j]? = some t → args[j]? = some v → Value.okWide Tryd.prog W .any base t v := hval0
 have hW' := hW
 obtain ⟨p, q, hA0, hV, rfl, hfz, hnd⟩ := hW
 have hA : DataW.TrodAll enc Tryd.prog W 0 (fun _ => true) true fn.params.toList args.toList ds p := hA0
 rw [hvars] at hV
 obtain ⟨rfl, rfl⟩ := trodVars_none hV
 obtain ⟨x, hw, ha, hl⟩ := open_vals (G := Gh.start W) (fun b off cv h => h) ts hoks (fun j t v a b => hval j t v (by simpa using a) (by simpa using b)) hA
 exact calls_true (P := Tryd.prog) (Γ := Γ) hf laidOut hvars hW' (by rw [List.append_nil]; exact hspec ds hl) hrt Tryd.underlying4 (fun t ht => by
  have := List.all_eq_true.1 hr t ht
  simpa using this) (globs hL) ha (hlaw x hw)
end L
end Go.Proofs.YthjiodeaepigmaaDoor

/- Package label: LabelClocks (newswirelaw10's function 8). -/
set_option linter.unusedVariables false
set_option linter.unusedSimpArgs false
set_option maxRecDepth 100000
set_option maxHeartbeats 4000000
namespace Go.Proofs.YthjiodeaepigmaaDoor
open Go
namespace L
theorem wf7 {x0 x1 x2 x3 x4 x5 x6 : Int} (a0 : (Lit.int .i64 x0).wf = true) (a1 : (Lit.int .i64 x1).wf = true) (a2 : (Lit.int .i64 x2).wf = true) (a3 : (Lit.int .i64 x3).wf = true) (a4 : (Lit.int .i64 x4).wf = true) (a5 : (Lit.int .i64 x5).wf = true) (a6 : (Lit.int .i64 x6).wf = true) :
 (inr x0 && inr x1 && inr x2 && inr x3 && inr x4 && inr x5 && inr x6) = true := by
 rw [wf_in a0, wf_in a1, wf_in a2, wf_in a3, wf_in a4, wf_in a5, wf_in a6]; rfl
theorem wf5 {x0 x1 x2 x3 x4 : Int} (a0 : (Lit.int .i64 x0).wf = true) (a1 : (Lit.int .i64 x1).wf = true) (a2 : (Lit.int .i64 x2).wf = true) (a3 : (Lit.int .i64 x3).wf = true) (a4 : (Lit.int .i64 x4).wf = true) : (inr x0 && inr x1 && inr x2 && inr x3 && inr x4) = true := by
 rw [wf_in a0, wf_in a1, wf_in a2, wf_in a3, wf_in a4]; rfl
end L
end Go.Proofs.YthjiodeaepigmaaDoor



/- Package label: LabelOnceOpen (newswirelaw10's function 9). -/
set_option linter.unusedVariables false
set_option linter.unusedSimpArgs false
set_option maxRecDepth 100000
set_option maxHeartbeats 4000000
namespace Go.Proofs.YthjiodeaepigmaaDoor
open Go
namespace L
theorem counts_out {l : List (Ty.den conf)} {m : Int} (h : countsD l m = true) : (∀ x ∈ l, 0 ≤ cF x ∧ cF x ≤ 15 ∧ m ≤ cC x ∧ cC x ≤ 12) ∧ l.Pairwise fun a b => cF a < cF b := by
 have h1 := allI_true.1 h
 have hb : ∀ i (hi : i < l.length), 0 ≤ cF l[i] ∧ cF l[i] ≤ 15 ∧ m ≤ cC l[i] ∧ cC l[i] ≤ 12 ∧ (0 < i → cF (l.getD (i - 1) conf.dflt) < cF l[i]) := fun i hi => by
  have := of_decide_eq_true (h1 i hi)
  have e1 : l.getD i conf.dflt = l[i] := getD_eq hi _
  rw [e1] at this
  exact this
 refine ⟨fun x hx => ?_, List.pairwise_iff_getElem.2 ?_⟩
 · obtain ⟨i, hi, rfl⟩ := List.getElem_of_mem hx
   obtain ⟨a, b, c, d, _⟩ := hb i hi
   exact ⟨a, b, c, d⟩
 · intro i j hi hj hij
   induction j with
   | zero => omega
   | succ j ih =>
    have h2 := (hb (j + 1) hj).2.2.2.2 (by omega)
    have e1 : l.getD j conf.dflt = l[j] := getD_eq (show j < l.length by omega) _
    rw [Nat.add_sub_cancel, e1] at h2
    by_cases e : i = j
    · subst e; exact h2
    · exact Int.lt_trans (ih (by omega) (by omega)) h2
theorem lackC_iff {mc : List (Ty.den conf)} {y : Ty.den conf} : lackC mc y = false ↔ ∃ z ∈ mc, cF z = cF y ∧ cC y ≤ cC z := by
 have : lackC mc y = !someI mc (enough (cF y) (cC y)) := rfl
 rw [this, someI_any, Bool.not_eq_false', List.any_eq_true]
 have e : ∀ z, enough (cF y) (cC y) z = true ↔ cF z = cF y ∧ cC y ≤ cC z := fun z => by
  unfold enough
  cases h : (cF z == cF y) with
  | true => rw [beq_iff_eq] at h; simp [h]
  | false => rw [beq_eq_false_iff_ne] at h; simp [h]
 simp only [e]
end L
end Go.Proofs.YthjiodeaepigmaaDoor

/- Package label: the unions' loops, printed. -/
set_option linter.unusedVariables false
set_option linter.unusedSimpArgs false
set_option maxRecDepth 100000
set_option maxHeartbeats 4000000
namespace Go.Proofs.YthjiodeaepigmaaDoor
open Go
namespace L
def cbI (x _ : Int) : Int := x
def cbC (x y : Ty.den conf) : Ty.den conf := (cF x, if cC y > cC x then cC y else cC x, ())
def cbL (x _ : Ty.den lockT) : Ty.den lockT := x
def hp_u2 : HP := { n := 69, lv := [0, 1, 2, 3, 9], sp := [.ty (.slice conf), .ty (.slice conf), .fn 51 [], .fn 52 [], .bz 0], op := [], bp := [.arr conf], bv := [(4, conf)] }
def lve_u2 : Ex → List Nat
 | .normal => [0, 1, 2, 3, 9]
 | .exit 0 => [0, 1, 9]
 | _ => []
theorem bd_u2 : Tryd.f50.body = some (root 50) := by kernel_rfl
theorem le_u2 : (loops (root 50))[0]? = some (lp 50 0) := by kernel_rfl
theorem li_u2 : Lies (root 50) 1 (lp 50 0) := Lies.of_take (n := 0) (by kernel_rfl)
def st_u2 (a b : List (Ty.den conf)) (j : Nat) (l : List (Ty.den conf)) : St := hp_u2.st ⟨(a, b, (), (), j, ()), (), (l, ())⟩
noncomputable def rn_u2 (a b : List (Ty.den conf)) (j : Nat) (l : List (Ty.den conf)) := outa lve_u2 (evCK Tryd.prog Γ (cfM Tryd.prog Γ cfg25 30) (cfg25.lo 50) [] 60 1 (lp 50 0) (st_u2 a b j l))
theorem rn_u2_eq (a b : List (Ty.den conf)) (j : Nat) (l : List (Ty.den conf)) : (rn_u2 a b j l).run = (bif decide ((a.length : Int) > (0 : Int)) then (bif decide ((b.length : Int) > (0 : Int)) then (bif decide ((0 : Int) ≤ (0 : Int) ∧ (0 : Int) < (a.length : Int)) then (bif decide ((0 : Int) ≤ (0 : Int) ∧ (0 : Int) < (b.length : Int)) then (bif decide (sgn (cF (a.getD (0) conf.dflt)) (cF (b.getD (0) conf.dflt)) < (0 : Int)) then (bif decide ((0 : Int) ≤ (0 : Int) ∧ (0 : Int) < (a.length : Int)) then (bif decide ((j + 1) * 2 * 16 ≤ 281474976710656) then (bif decide ((0 : Int) ≤ (1 : Int) ∧ (1 : Int) ≤ (a.length : Int) ∧ (a.length : Int) ≤ (a.length : Int)) then (some ((Ex.normal, [V.slst .ro conf (List.drop (1) (List.take ((a.length : Int)).toNat a)), V.slst .ro conf b, V.fn (Fn.func (51 : FuncId)) [] [], V.fn (Fn.func (52 : FuncId)) [] [], V.bs true 0 0 (j + (1 : Nat))], [], [some (Bf.live (.arr conf (List.take j (List.drop (0) l) ++ [(a.getD (0) conf.dflt)])))], 69, 0, 0))) else none) else none) else none) else (bif decide (sgn (cF (a.getD (0) conf.dflt)) (cF (b.getD (0) conf.dflt)) > (0 : Int)) then (bif decide ((0 : Int) ≤ (0 : Int) ∧ (0 : Int) < (b.length : Int)) then (bif decide ((j + 1) * 2 * 16 ≤ 281474976710656) then (bif decide ((0 : Int) ≤ (1 : Int) ∧ (1 : Int) ≤ (b.length : Int) ∧ (b.length : Int) ≤ (b.length : Int)) then (some ((Ex.normal, [V.slst .ro conf a, V.slst .ro conf (List.drop (1) (List.take ((b.length : Int)).toNat b)), V.fn (Fn.func (51 : FuncId)) [] [], V.fn (Fn.func (52 : FuncId)) [] [], V.bs true 0 0 (j + (1 : Nat))], [], [some (Bf.live (.arr conf (List.take j (List.drop (0) l) ++ [(b.getD (0) conf.dflt)])))], 69, 0, 0))) else none) else none) else none) else (bif decide ((0 : Int) ≤ (0 : Int) ∧ (0 : Int) < (a.length : Int)) then (bif decide ((0 : Int) ≤ (0 : Int) ∧ (0 : Int) < (b.length : Int)) then (bif decide ((j + 1) * 2 * 16 ≤ 281474976710656) then (bif decide ((0 : Int) ≤ (1 : Int) ∧ (1 : Int) ≤ (a.length : Int) ∧ (a.length : Int) ≤ (a.length : Int)) then (bif decide ((0 : Int) ≤ (1 : Int) ∧ (1 : Int) ≤ (b.length : Int) ∧ (b.length : Int) ≤ (b.length : Int)) then (some ((Ex.normal, [V.slst .ro conf (List.drop (1) (List.take ((a.length : Int)).toNat a)), V.slst .ro conf (List.drop (1) (List.take ((b.length : Int)).toNat b)), V.fn (Fn.func (51 : FuncId)) [] [], V.fn (Fn.func (52 : FuncId)) [] [], V.bs true 0 0 (j + (1 : Nat))], [], [some (Bf.live (.arr conf (List.take j (List.drop (0) l) ++ [cbC (a.getD (0) conf.dflt) (b.getD (0) conf.dflt)])))], 69, 0, 0))) else none) else none) else none) else none) else none))) else none) else none) else (some ((Ex.exit 0, [V.slst .ro conf a, V.slst .ro conf b, V.bs true 0 0 j], [], [some (Bf.live (.arr conf l))], 69, 0, 0)))) else (some ((Ex.exit 0, [V.slst .ro conf a, V.slst .ro conf b, V.bs true 0 0 j], [], [some (Bf.live (.arr conf l))], 69, 0, 0)))) := by kernel_rfl
theorem rn_u2_c (a b : List (Ty.den conf)) (j : Nat) (l : List (Ty.den conf)) {e : Ex} {vs : List V} {ob : Ob} {nm : Nm} {n' kh kt : Nat} (h : (rn_u2 a b j l).run = some (e, vs, ob, nm, n', kh, kt)) : SemC Tryd.prog Γ (lp 50 0) (st_u2 a b j l) e.to (St.of n' (lve_u2 e) vs ob nm kh kt) := SemC.of_evM cfg25_ok Tryd.func50 bd_u2 li_u2 h
def hp_u3 : HP := { n := 69, lv := [0, 1, 2, 3, 9], sp := [.ty (.slice lockT), .ty (.slice lockT), .fn 42 [], .fn 54 [], .bz 0], op := [], bp := [.arr lockT], bv := [(4, lockT)] }
def lve_u3 : Ex → List Nat
 | .normal => [0, 1, 2, 3, 9]
 | .exit 0 => [0, 1, 9]
 | _ => []
theorem bd_u3 : Tryd.f53.body = some (root 53) := by kernel_rfl
theorem le_u3 : (loops (root 53))[0]? = some (lp 53 0) := by kernel_rfl
theorem li_u3 : Lies (root 53) 1 (lp 53 0) := Lies.of_take (n := 0) (by kernel_rfl)
def st_u3 (a b : List (Ty.den lockT)) (j : Nat) (l : List (Ty.den lockT)) : St := hp_u3.st ⟨(a, b, (), (), j, ()), (), (l, ())⟩
noncomputable def rn_u3 (a b : List (Ty.den lockT)) (j : Nat) (l : List (Ty.den lockT)) := outa lve_u3 (evCK Tryd.prog Γ (cfM Tryd.prog Γ cfg25 30) (cfg25.lo 53) [] 60 1 (lp 53 0) (st_u3 a b j l))
theorem rn_u3_eq (a b : List (Ty.den lockT)) (j : Nat) (l : List (Ty.den lockT)) : (rn_u3 a b j l).run = (bif decide ((a.length : Int) > (0 : Int)) then (bif decide ((b.length : Int) > (0 : Int)) then (bif decide ((0 : Int) ≤ (0 : Int) ∧ (0 : Int) < (a.length : Int)) then (bif decide ((0 : Int) ≤ (0 : Int) ∧ (0 : Int) < (b.length : Int)) then (bif decide ((kK (a.getD (0) lockT.dflt)).length ≤ 1000000 ∧ (kK (b.getD (0) lockT.dflt)).length ≤ 1000000) then (bif decide (cmpL (a.getD (0) lockT.dflt) (b.getD (0) lockT.dflt) < (0 : Int)) then (bif decide ((0 : Int) ≤ (0 : Int) ∧ (0 : Int) < (a.length : Int)) then (bif decide ((j + 1) * 2 * 32 ≤ 281474976710656) then (bif decide ((0 : Int) ≤ (1 : Int) ∧ (1 : Int) ≤ (a.length : Int) ∧ (a.length : Int) ≤ (a.length : Int)) then (some ((Ex.normal, [V.slst .ro lockT (List.drop (1) (List.take ((a.length : Int)).toNat a)), V.slst .ro lockT b, V.fn (Fn.func (42 : FuncId)) [] [], V.fn (Fn.func (54 : FuncId)) [] [], V.bs true 0 0 (j + (1 : Nat))], [], [some (Bf.live (.arr lockT (List.take j (List.drop (0) l) ++ [(a.getD (0) lockT.dflt)])))], 69, 0, 0))) else none) else none) else none) else (bif decide (cmpL (a.getD (0) lockT.dflt) (b.getD (0) lockT.dflt) > (0 : Int)) then (bif decide ((0 : Int) ≤ (0 : Int) ∧ (0 : Int) < (b.length : Int)) then (bif decide ((j + 1) * 2 * 32 ≤ 281474976710656) then (bif decide ((0 : Int) ≤ (1 : Int) ∧ (1 : Int) ≤ (b.length : Int) ∧ (b.length : Int) ≤ (b.length : Int)) then (some ((Ex.normal, [V.slst .ro lockT a, V.slst .ro lockT (List.drop (1) (List.take ((b.length : Int)).toNat b)), V.fn (Fn.func (42 : FuncId)) [] [], V.fn (Fn.func (54 : FuncId)) [] [], V.bs true 0 0 (j + (1 : Nat))], [], [some (Bf.live (.arr lockT (List.take j (List.drop (0) l) ++ [(b.getD (0) lockT.dflt)])))], 69, 0, 0))) else none) else none) else none) else (bif decide ((0 : Int) ≤ (0 : Int) ∧ (0 : Int) < (a.length : Int)) then (bif decide ((0 : Int) ≤ (0 : Int) ∧ (0 : Int) < (b.length : Int)) then (bif decide ((j + 1) * 2 * 32 ≤ 281474976710656) then (bif decide ((0 : Int) ≤ (1 : Int) ∧ (1 : Int) ≤ (a.length : Int) ∧ (a.length : Int) ≤ (a.length : Int)) then (bif decide ((0 : Int) ≤ (1 : Int) ∧ (1 : Int) ≤ (b.length : Int) ∧ (b.length : Int) ≤ (b.length : Int)) then (some ((Ex.normal, [V.slst .ro lockT (List.drop (1) (List.take ((a.length : Int)).toNat a)), V.slst .ro lockT (List.drop (1) (List.take ((b.length : Int)).toNat b)), V.fn (Fn.func (42 : FuncId)) [] [], V.fn (Fn.func (54 : FuncId)) [] [], V.bs true 0 0 (j + (1 : Nat))], [], [some (Bf.live (.arr lockT (List.take j (List.drop (0) l) ++ [(a.getD (0) lockT.dflt)])))], 69, 0, 0))) else none) else none) else none) else none) else none))) else none) else none) else none) else (some ((Ex.exit 0, [V.slst .ro lockT a, V.slst .ro lockT b, V.bs true 0 0 j], [], [some (Bf.live (.arr lockT l))], 69, 0, 0)))) else (some ((Ex.exit 0, [V.slst .ro lockT a, V.slst .ro lockT b, V.bs true 0 0 j], [], [some (Bf.live (.arr lockT l))], 69, 0, 0)))) := by kernel_rfl
theorem rn_u3_c (a b : List (Ty.den lockT)) (j : Nat) (l : List (Ty.den lockT)) {e : Ex} {vs : List V} {ob : Ob} {nm : Nm} {n' kh kt : Nat} (h : (rn_u3 a b j l).run = some (e, vs, ob, nm, n', kh, kt)) : SemC Tryd.prog Γ (lp 53 0) (st_u3 a b j l) e.to (St.of n' (lve_u3 e) vs ob nm kh kt) := SemC.of_evM cfg25_ok Tryd.func53 bd_u3 li_u3 h
def tlI (a : List Int) : List Int := List.drop 1 (List.take ((Nat.cast a.length : Int)).toNat a)
theorem tlI_cons (x : Int) (a : List Int) : tlI (x :: a) = a := by unfold tlI; rw [Int.toNat_natCast, List.take_length]; rfl
def hp_u1 : HP := { n := 69, lv := [0, 1, 2, 3, 9], sp := [.ty (.slice ity), .ty (.slice ity), .fn 48 [], .fn 49 [], .bz 0], op := [], bp := [.arr ity], bv := [(4, ity)] }
def lve_u1 : Ex → List Nat
 | .normal => [0, 1, 2, 3, 9]
 | .exit 0 => [0, 1, 9]
 | _ => []
theorem bd_u1 : Tryd.f47.body = some (root 47) := by kernel_rfl
theorem le_u1 : (loops (root 47))[0]? = some (lp 47 0) := by kernel_rfl
theorem li_u1 : Lies (root 47) 1 (lp 47 0) := Lies.of_take (n := 0) (by kernel_rfl)
def st_u1 (a b : List Int) (j : Nat) (l : List Int) : St := hp_u1.st ⟨(a, b, (), (), j, ()), (), (l, ())⟩
noncomputable def rn_u1 (a b : List Int) (j : Nat) (l : List Int) := outa lve_u1 (evCK Tryd.prog Γ (cfM Tryd.prog Γ cfg25 30) (cfg25.lo 47) [] 60 1 (lp 47 0) (st_u1 a b j l))
theorem rn_u1_eq (a b : List Int) (j : Nat) (l : List Int) : (rn_u1 a b j l).run = (bif decide ((a.length : Int) > (0 : Int)) then (bif decide ((b.length : Int) > (0 : Int)) then (bif decide ((0 : Int) ≤ (0 : Int) ∧ (0 : Int) < (a.length : Int)) then (bif decide ((0 : Int) ≤ (0 : Int) ∧ (0 : Int) < (b.length : Int)) then (bif decide (sgn (a.getD (0) (0 : Int)) (b.getD (0) (0 : Int)) < (0 : Int)) then (bif decide ((0 : Int) ≤ (0 : Int) ∧ (0 : Int) < (a.length : Int)) then (bif decide ((j + 1) * 2 * 8 ≤ 281474976710656) then (bif decide ((0 : Int) ≤ (1 : Int) ∧ (1 : Int) ≤ (a.length : Int) ∧ (a.length : Int) ≤ (a.length : Int)) then (some ((Ex.normal, [V.slst .ro ity (tlI a), V.slst .ro ity b, V.fn (Fn.func (48 : FuncId)) [] [], V.fn (Fn.func (49 : FuncId)) [] [], V.bs true 0 0 (j + (1 : Nat))], [], [some (Bf.live (.arr ity (List.take j (List.drop (0) l) ++ [a.getD (0) (0 : Int)])))], 69, 0, 0))) else none) else none) else none) else (bif decide (sgn (a.getD (0) (0 : Int)) (b.getD (0) (0 : Int)) > (0 : Int)) then (bif decide ((0 : Int) ≤ (0 : Int) ∧ (0 : Int) < (b.length : Int)) then (bif decide ((j + 1) * 2 * 8 ≤ 281474976710656) then (bif decide ((0 : Int) ≤ (1 : Int) ∧ (1 : Int) ≤ (b.length : Int) ∧ (b.length : Int) ≤ (b.length : Int)) then (some ((Ex.normal, [V.slst .ro ity a, V.slst .ro ity (tlI b), V.fn (Fn.func (48 : FuncId)) [] [], V.fn (Fn.func (49 : FuncId)) [] [], V.bs true 0 0 (j + (1 : Nat))], [], [some (Bf.live (.arr ity (List.take j (List.drop (0) l) ++ [b.getD (0) (0 : Int)])))], 69, 0, 0))) else none) else none) else none) else (bif decide ((0 : Int) ≤ (0 : Int) ∧ (0 : Int) < (a.length : Int)) then (bif decide ((0 : Int) ≤ (0 : Int) ∧ (0 : Int) < (b.length : Int)) then (bif decide ((j + 1) * 2 * 8 ≤ 281474976710656) then (bif decide ((0 : Int) ≤ (1 : Int) ∧ (1 : Int) ≤ (a.length : Int) ∧ (a.length : Int) ≤ (a.length : Int)) then (bif decide ((0 : Int) ≤ (1 : Int) ∧ (1 : Int) ≤ (b.length : Int) ∧ (b.length : Int) ≤ (b.length : Int)) then (some ((Ex.normal, [V.slst .ro ity (tlI a), V.slst .ro ity (tlI b), V.fn (Fn.func (48 : FuncId)) [] [], V.fn (Fn.func (49 : FuncId)) [] [], V.bs true 0 0 (j + (1 : Nat))], [], [some (Bf.live (.arr ity (List.take j (List.drop (0) l) ++ [a.getD (0) (0 : Int)])))], 69, 0, 0))) else none) else none) else none) else none) else none))) else none) else none) else (some ((Ex.exit 0, [V.slst .ro ity a, V.slst .ro ity b, V.bs true 0 0 j], [], [some (Bf.live (.arr ity l))], 69, 0, 0)))) else (some ((Ex.exit 0, [V.slst .ro ity a, V.slst .ro ity b, V.bs true 0 0 j], [], [some (Bf.live (.arr ity l))], 69, 0, 0)))) := by kernel_rfl
theorem rn_u1_c (a b : List Int) (j : Nat) (l : List Int) {e : Ex} {vs : List V} {ob : Ob} {nm : Nm} {n' kh kt : Nat} (h : (rn_u1 a b j l).run = some (e, vs, ob, nm, n', kh, kt)) : SemC Tryd.prog Γ (lp 47 0) (st_u1 a b j l) e.to (St.of n' (lve_u1 e) vs ob nm kh kt) := SemC.of_evM cfg25_ok Tryd.func47 bd_u1 li_u1 h
end L
end Go.Proofs.YthjiodeaepigmaaDoor

/- Package label: what the unions' loops leave. -/
set_option linter.unusedVariables false
set_option linter.unusedSimpArgs false
set_option maxRecDepth 100000
set_option maxHeartbeats 4000000
namespace Go.Proofs.YthjiodeaepigmaaDoor
open Go
namespace L
def mgA {α : Type} (cmp : α → α → Int) (cb : α → α → α) : List α → List α → List α × List α × List α
 | [], b => ([], [], b)
 | x :: a, [] => ([], x :: a, [])
 | x :: a, y :: b => if cmp x y < 0 then (x :: (mgA cmp cb a (y :: b)).1, (mgA cmp cb a (y :: b)).2) else if cmp x y > 0 then (y :: (mgA cmp cb (x :: a) b).1, (mgA cmp cb (x :: a) b).2) else (cb x y :: (mgA cmp cb a b).1, (mgA cmp cb a b).2)
termination_by a b => a.length + b.length
theorem mgA_nil {α : Type} {cmp : α → α → Int} {cb : α → α → α} (b : List α) : mgA cmp cb [] b = ([], [], b) := by rw [mgA]
theorem mgA_end {α : Type} {cmp : α → α → Int} {cb : α → α → α} (a : List α) : mgA cmp cb a [] = ([], a, []) := by cases a <;> rw [mgA]
theorem mgA_cons {α : Type} {cmp : α → α → Int} {cb : α → α → α} (x y : α) (a b : List α) : mgA cmp cb (x :: a) (y :: b) = if cmp x y < 0 then (x :: (mgA cmp cb a (y :: b)).1, (mgA cmp cb a (y :: b)).2) else if cmp x y > 0 then (y :: (mgA cmp cb (x :: a) b).1, (mgA cmp cb (x :: a) b).2) else (cb x y :: (mgA cmp cb a b).1, (mgA cmp cb a b).2) := by rw [mgA]
theorem mgA_len {α : Type} {cmp : α → α → Int} {cb : α → α → α} : ∀ (n : Nat) (a b : List α), a.length + b.length ≤ n → (mgA cmp cb a b).1.length + (mgA cmp cb a b).2.1.length + (mgA cmp cb a b).2.2.length ≤ a.length + b.length
 | _, [], b, _ => by rw [mgA_nil]; simp
 | _, x :: a, [], _ => by rw [mgA_end]; simp
 | 0, x :: a, y :: b, h => by simp at h
 | n + 1, x :: a, y :: b, h => by
  rw [mgA_cons]
  simp only [List.length_cons] at h
  split
  · have := mgA_len (cmp := cmp) (cb := cb) n a (y :: b) (by simp only [List.length_cons]; omega)
    simp only [List.length_cons] at *
    omega
  · split
    · have := mgA_len (cmp := cmp) (cb := cb) n (x :: a) b (by simp only [List.length_cons]; omega)
      simp only [List.length_cons] at *
      omega
    · have := mgA_len (cmp := cmp) (cb := cb) n a b (by omega)
      simp only [List.length_cons] at *
      omega
def cmpC (x y : Ty.den conf) : Int := sgn (cF x) (cF y)
theorem drop_one {α : Type} (x : α) (a : List α) : List.drop 1 (List.take ((Nat.cast (x :: a).length : Int)).toNat (x :: a)) = a := by rw [Int.toNat_natCast, List.take_length]; rfl
abbrev pre_u1 (a b : List Int) (j : Nat) (l : List Int) : Prop := j = 0 ∧ l = [] ∧ a.length ≤ 1000000 ∧ b.length ≤ 1000000
def rs_u1 (a b : List Int) (j : Nat) (l : List Int) : Ex × St := (.exit 0, St.of 69 (lve_u1 (.exit 0)) [.slst .ro ity (mgA sgn cbI a b).2.1, .slst .ro ity (mgA sgn cbI a b).2.2, .bs true 0 0 (mgA sgn cbI a b).1.length] [] [some (.live (.arr ity (mgA sgn cbI a b).1))] hp_u1.kh hp_u1.kt)
def res_u1 (a b : List Int) (j : Nat) (l : List Int) : Tr (Ex × St) := .br (decide (pre_u1 a b j l)) (.leaf (some (.exit 0, St.of 69 (lve_u1 (.exit 0)) [.slst .ro ity (mgA sgn cbI a b).2.1, .slst .ro ity (mgA sgn cbI a b).2.2, .bs true 0 0 (mgA sgn cbI a b).1.length] [] [some (.live (.arr ity (mgA sgn cbI a b).1))] hp_u1.kh hp_u1.kt))) (.leaf none)
def ent_u1 : LEnt := LEnt.by hp_u1 fun ⟨(a, b, _, _, j, _), _, (l, _)⟩ => res_u1 a b j l
theorem ent_u1_ok (hgo : ∀ (a b : List Int) (j : Nat) (l : List Int), pre_u1 a b j l → SemL Tryd.prog Γ (lp 47 0) (st_u1 a b j l) (rs_u1 a b j l).1.to (rs_u1 a b j l).2) : EntOk Tryd.prog Γ (lp 47 0) ent_u1 := LEnt.by_ok fun ⟨(a, b, _, _, j, _), _, (l, _)⟩ _ _ h_ => SemL.br (out := rs_u1 a b j l) rfl (hgo a b j l) h_
theorem u1_go (a b : List Int) (j : Nat) (l : List Int) (h : pre_u1 a b j l) : SemL Tryd.prog Γ (lp 47 0) (st_u1 a b j l) (rs_u1 a b j l).1.to (rs_u1 a b j l).2 := by
  obtain ⟨rfl, rfl, ha, hb⟩ := h
  refine SemL.ind (A := List Int × List Int × List Int) (fun s => st_u1 s.1 s.2.1 s.2.2.length s.2.2) (fun s => s.1.length + s.2.1.length) (fun _ => rs_u1 a b 0 [])
    (fun s => (s.2.2 ++ (mgA sgn cbI s.1 s.2.1).1, (mgA sgn cbI s.1 s.2.1).2) = mgA sgn cbI a b ∧ s.1.length + s.2.1.length + s.2.2.length ≤ 2000000) ?_ (a, b, []) ⟨rfl, by show a.length + b.length + 0 ≤ _; omega⟩
  rintro ⟨a1, b1, o⟩ ⟨i1, i2⟩
  simp only at i1 i2 ⊢
  cases a1 with
  | nil =>
    have eq := rn_u1_eq [] b1 o.length o
    refine .inr ⟨by simp [rs_u1, Ex.to], ?_⟩
    rw [mgA_nil, List.append_nil] at i1
    rw [decide_eq_false (by simp)] at eq
    have := rn_u1_c [] b1 o.length o (eq.trans rfl)
    unfold rs_u1
    rw [← i1]
    exact this
  | cons x a1 =>
   cases b1 with
   | nil =>
    have eq := rn_u1_eq (x :: a1) [] o.length o
    refine .inr ⟨by simp [rs_u1, Ex.to], ?_⟩
    rw [mgA_end, List.append_nil] at i1
    rw [decide_eq_true (by simp only [List.length_cons]; omega : (Nat.cast (x :: a1).length : Int) > 0), decide_eq_false (by simp)] at eq
    have := rn_u1_c (x :: a1) [] o.length o (eq.trans rfl)
    unfold rs_u1
    rw [← i1]
    exact this
   | cons y b1 =>
      have eq := rn_u1_eq (x :: a1) (y :: b1) o.length o
      have e1 : List.getD (x :: a1) 0 (0 : Int) = x := rfl
      have e2 : List.getD (y :: b1) 0 (0 : Int) = y := rfl
      have g1 : 0 < (x :: a1).length := by simp
      have g2 : 0 < (y :: b1).length := by simp
      have l1 : (x :: a1).length = a1.length + 1 := rfl
      have l2 : (y :: b1).length = b1.length + 1 := rfl
      rw [decide_eq_true (by omega : (Nat.cast (x :: a1).length : Int) > 0), decide_eq_true (by omega : (Nat.cast (y :: b1).length : Int) > 0), decide_eq_true (by omega : (0 : Int) ≤ 0 ∧ (0 : Int) < (Nat.cast (x :: a1).length : Int)), decide_eq_true (by omega : (0 : Int) ≤ 0 ∧ (0 : Int) < (Nat.cast (y :: b1).length : Int)),
        decide_eq_true (by omega : (o.length + 1) * 2 * 8 ≤ 281474976710656), decide_eq_true (by omega : (0 : Int) ≤ 1 ∧ (1 : Int) ≤ (Nat.cast (x :: a1).length : Int) ∧ (Nat.cast (x :: a1).length : Int) ≤ (Nat.cast (x :: a1).length : Int)),
        decide_eq_true (by omega : (0 : Int) ≤ 1 ∧ (1 : Int) ≤ (Nat.cast (y :: b1).length : Int) ∧ (Nat.cast (y :: b1).length : Int) ≤ (Nat.cast (y :: b1).length : Int)), e1, e2, List.drop_zero, List.take_length] at eq
      rw [tlI_cons, tlI_cons] at eq
      have hm := mgA_cons (cmp := sgn) (cb := cbI) x y a1 b1
      by_cases c1 : sgn x y < 0
      · rw [if_pos c1] at hm
        rw [decide_eq_true c1] at eq
        have := rn_u1_c (x :: a1) (y :: b1) o.length o (eq.trans rfl)
        refine .inl ⟨(a1, y :: b1, o ++ [x]), ?_, ⟨?_, ?_⟩, ?_, trivial⟩
        · show SemC _ _ _ _ _ (st_u1 a1 (y :: b1) (o ++ [x]).length (o ++ [x]))
          rw [List.length_append]
          exact this
        · rw [← i1, hm]; simp
        · show a1.length + (y :: b1).length + (o ++ [x]).length ≤ _
          rw [List.length_append, l2]; rw [l1, l2] at i2; simp only [List.length_cons, List.length_nil]; omega
        · show a1.length + (y :: b1).length < (x :: a1).length + (y :: b1).length
          omega
      · rw [if_neg c1] at hm
        rw [decide_eq_false c1] at eq
        by_cases c2 : sgn x y > 0
        · rw [if_pos c2] at hm
          rw [decide_eq_true c2] at eq
          have := rn_u1_c (x :: a1) (y :: b1) o.length o (eq.trans rfl)
          refine .inl ⟨(x :: a1, b1, o ++ [y]), ?_, ⟨?_, ?_⟩, ?_, trivial⟩
          · show SemC _ _ _ _ _ (st_u1 (x :: a1) b1 (o ++ [y]).length (o ++ [y]))
            rw [List.length_append]
            exact this
          · rw [← i1, hm]; simp
          · show (x :: a1).length + b1.length + (o ++ [y]).length ≤ _
            rw [List.length_append, l1]; rw [l1, l2] at i2; simp only [List.length_cons, List.length_nil]; omega
          · show (x :: a1).length + b1.length < (x :: a1).length + (y :: b1).length
            omega
        · rw [if_neg c2] at hm
          rw [decide_eq_false c2] at eq
          have := rn_u1_c (x :: a1) (y :: b1) o.length o (eq.trans rfl)
          refine .inl ⟨(a1, b1, o ++ [cbI x y]), ?_, ⟨?_, ?_⟩, ?_, trivial⟩
          · show SemC _ _ _ _ _ (st_u1 a1 b1 (o ++ [cbI x y]).length (o ++ [cbI x y]))
            rw [List.length_append]
            exact this
          · rw [← i1, hm]; simp
          · show a1.length + b1.length + (o ++ [cbI x y]).length ≤ _
            rw [List.length_append]; rw [l1, l2] at i2; simp only [List.length_cons, List.length_nil]; omega
          · show a1.length + b1.length < (x :: a1).length + (y :: b1).length
            omega
abbrev pre_u2 (a b : List (Ty.den conf)) (j : Nat) (l : List (Ty.den conf)) : Prop := j = 0 ∧ l = [] ∧ a.length ≤ 1000000 ∧ b.length ≤ 1000000
def rs_u2 (a b : List (Ty.den conf)) (j : Nat) (l : List (Ty.den conf)) : Ex × St := (.exit 0, St.of 69 (lve_u2 (.exit 0)) [.slst .ro conf (mgA cmpC cbC a b).2.1, .slst .ro conf (mgA cmpC cbC a b).2.2, .bs true 0 0 (mgA cmpC cbC a b).1.length] [] [some (.live (.arr conf (mgA cmpC cbC a b).1))] hp_u2.kh hp_u2.kt)
def res_u2 (a b : List (Ty.den conf)) (j : Nat) (l : List (Ty.den conf)) : Tr (Ex × St) := .br (decide (pre_u2 a b j l)) (.leaf (some (.exit 0, St.of 69 (lve_u2 (.exit 0)) [.slst .ro conf (mgA cmpC cbC a b).2.1, .slst .ro conf (mgA cmpC cbC a b).2.2, .bs true 0 0 (mgA cmpC cbC a b).1.length] [] [some (.live (.arr conf (mgA cmpC cbC a b).1))] hp_u2.kh hp_u2.kt))) (.leaf none)
def ent_u2 : LEnt := LEnt.by hp_u2 fun ⟨(a, b, _, _, j, _), _, (l, _)⟩ => res_u2 a b j l
theorem ent_u2_ok (hgo : ∀ (a b : List (Ty.den conf)) (j : Nat) (l : List (Ty.den conf)), pre_u2 a b j l → SemL Tryd.prog Γ (lp 50 0) (st_u2 a b j l) (rs_u2 a b j l).1.to (rs_u2 a b j l).2) : EntOk Tryd.prog Γ (lp 50 0) ent_u2 := LEnt.by_ok fun ⟨(a, b, _, _, j, _), _, (l, _)⟩ _ _ h_ => SemL.br (out := rs_u2 a b j l) rfl (hgo a b j l) h_
theorem u2_go (a b : List (Ty.den conf)) (j : Nat) (l : List (Ty.den conf)) (h : pre_u2 a b j l) : SemL Tryd.prog Γ (lp 50 0) (st_u2 a b j l) (rs_u2 a b j l).1.to (rs_u2 a b j l).2 := by
  obtain ⟨rfl, rfl, ha, hb⟩ := h
  refine SemL.ind (A := List (Ty.den conf) × List (Ty.den conf) × List (Ty.den conf)) (fun s => st_u2 s.1 s.2.1 s.2.2.length s.2.2) (fun s => s.1.length + s.2.1.length) (fun _ => rs_u2 a b 0 [])
    (fun s => (s.2.2 ++ (mgA cmpC cbC s.1 s.2.1).1, (mgA cmpC cbC s.1 s.2.1).2) = mgA cmpC cbC a b ∧ s.1.length + s.2.1.length + s.2.2.length ≤ 2000000) ?_ (a, b, []) ⟨rfl, by show a.length + b.length + 0 ≤ _; omega⟩
  rintro ⟨a1, b1, o⟩ ⟨i1, i2⟩
  simp only at i1 i2 ⊢
  cases a1 with
  | nil =>
    have eq := rn_u2_eq [] b1 o.length o
    refine .inr ⟨by simp [rs_u2, Ex.to], ?_⟩
    rw [mgA_nil, List.append_nil] at i1
    rw [decide_eq_false (by simp)] at eq
    have := rn_u2_c [] b1 o.length o (eq.trans rfl)
    unfold rs_u2
    rw [← i1]
    exact this
  | cons x a1 =>
   cases b1 with
   | nil =>
    have eq := rn_u2_eq (x :: a1) [] o.length o
    refine .inr ⟨by simp [rs_u2, Ex.to], ?_⟩
    rw [mgA_end, List.append_nil] at i1
    rw [decide_eq_true (by simp only [List.length_cons]; omega : (Nat.cast (x :: a1).length : Int) > 0), decide_eq_false (by simp)] at eq
    have := rn_u2_c (x :: a1) [] o.length o (eq.trans rfl)
    unfold rs_u2
    rw [← i1]
    exact this
   | cons y b1 =>
      have eq := rn_u2_eq (x :: a1) (y :: b1) o.length o
      have e1 : List.getD (x :: a1) 0 conf.dflt = x := rfl
      have e2 : List.getD (y :: b1) 0 conf.dflt = y := rfl
      have g1 : 0 < (x :: a1).length := by simp
      have g2 : 0 < (y :: b1).length := by simp
      have l1 : (x :: a1).length = a1.length + 1 := rfl
      have l2 : (y :: b1).length = b1.length + 1 := rfl
      rw [decide_eq_true (by omega : (Nat.cast (x :: a1).length : Int) > 0), decide_eq_true (by omega : (Nat.cast (y :: b1).length : Int) > 0), decide_eq_true (by omega : (0 : Int) ≤ 0 ∧ (0 : Int) < (Nat.cast (x :: a1).length : Int)), decide_eq_true (by omega : (0 : Int) ≤ 0 ∧ (0 : Int) < (Nat.cast (y :: b1).length : Int)),
        decide_eq_true (by omega : (o.length + 1) * 2 * 16 ≤ 281474976710656), decide_eq_true (by omega : (0 : Int) ≤ 1 ∧ (1 : Int) ≤ (Nat.cast (x :: a1).length : Int) ∧ (Nat.cast (x :: a1).length : Int) ≤ (Nat.cast (x :: a1).length : Int)),
        decide_eq_true (by omega : (0 : Int) ≤ 1 ∧ (1 : Int) ≤ (Nat.cast (y :: b1).length : Int) ∧ (Nat.cast (y :: b1).length : Int) ≤ (Nat.cast (y :: b1).length : Int)), e1, e2, List.drop_zero, List.take_length] at eq
      rw [drop_one, drop_one] at eq
      have hcmp : sgn (cF x) (cF y) = cmpC x y := rfl
      rw [hcmp] at eq
      have hm := mgA_cons (cmp := cmpC) (cb := cbC) x y a1 b1
      by_cases c1 : cmpC x y < 0
      · rw [if_pos c1] at hm
        rw [decide_eq_true c1] at eq
        have := rn_u2_c (x :: a1) (y :: b1) o.length o (eq.trans rfl)
        refine .inl ⟨(a1, y :: b1, o ++ [x]), ?_, ⟨?_, ?_⟩, ?_, trivial⟩
        · show SemC _ _ _ _ _ (st_u2 a1 (y :: b1) (o ++ [x]).length (o ++ [x]))
          rw [List.length_append]
          exact this
        · rw [← i1, hm]; simp
        · show a1.length + (y :: b1).length + (o ++ [x]).length ≤ _
          rw [List.length_append, l2]; rw [l1, l2] at i2; simp only [List.length_cons, List.length_nil]; omega
        · show a1.length + (y :: b1).length < (x :: a1).length + (y :: b1).length
          omega
      · rw [if_neg c1] at hm
        rw [decide_eq_false c1] at eq
        by_cases c2 : cmpC x y > 0
        · rw [if_pos c2] at hm
          rw [decide_eq_true c2] at eq
          have := rn_u2_c (x :: a1) (y :: b1) o.length o (eq.trans rfl)
          refine .inl ⟨(x :: a1, b1, o ++ [y]), ?_, ⟨?_, ?_⟩, ?_, trivial⟩
          · show SemC _ _ _ _ _ (st_u2 (x :: a1) b1 (o ++ [y]).length (o ++ [y]))
            rw [List.length_append]
            exact this
          · rw [← i1, hm]; simp
          · show (x :: a1).length + b1.length + (o ++ [y]).length ≤ _
            rw [List.length_append, l1]; rw [l1, l2] at i2; simp only [List.length_cons, List.length_nil]; omega
          · show (x :: a1).length + b1.length < (x :: a1).length + (y :: b1).length
            omega
        · rw [if_neg c2] at hm
          rw [decide_eq_false c2] at eq
          have := rn_u2_c (x :: a1) (y :: b1) o.length o (eq.trans rfl)
          refine .inl ⟨(a1, b1, o ++ [cbC x y]), ?_, ⟨?_, ?_⟩, ?_, trivial⟩
          · show SemC _ _ _ _ _ (st_u2 a1 b1 (o ++ [cbC x y]).length (o ++ [cbC x y]))
            rw [List.length_append]
            exact this
          · rw [← i1, hm]; simp
          · show a1.length + b1.length + (o ++ [cbC x y]).length ≤ _
            rw [List.length_append]; rw [l1, l2] at i2; simp only [List.length_cons, List.length_nil]; omega
          · show a1.length + b1.length < (x :: a1).length + (y :: b1).length
            omega
abbrev pre_u3 (a b : List (Ty.den lockT)) (j : Nat) (l : List (Ty.den lockT)) : Prop := j = 0 ∧ l = [] ∧ a.length ≤ 1000000 ∧ b.length ≤ 1000000 ∧ (∀ q ∈ a, (kK q).length ≤ 1000000) ∧ ∀ q ∈ b, (kK q).length ≤ 1000000
def rs_u3 (a b : List (Ty.den lockT)) (j : Nat) (l : List (Ty.den lockT)) : Ex × St := (.exit 0, St.of 69 (lve_u3 (.exit 0)) [.slst .ro lockT (mgA cmpL cbL a b).2.1, .slst .ro lockT (mgA cmpL cbL a b).2.2, .bs true 0 0 (mgA cmpL cbL a b).1.length] [] [some (.live (.arr lockT (mgA cmpL cbL a b).1))] hp_u3.kh hp_u3.kt)
def res_u3 (a b : List (Ty.den lockT)) (j : Nat) (l : List (Ty.den lockT)) : Tr (Ex × St) := .br (decide (pre_u3 a b j l)) (.leaf (some (.exit 0, St.of 69 (lve_u3 (.exit 0)) [.slst .ro lockT (mgA cmpL cbL a b).2.1, .slst .ro lockT (mgA cmpL cbL a b).2.2, .bs true 0 0 (mgA cmpL cbL a b).1.length] [] [some (.live (.arr lockT (mgA cmpL cbL a b).1))] hp_u3.kh hp_u3.kt))) (.leaf none)
def ent_u3 : LEnt := LEnt.by hp_u3 fun ⟨(a, b, _, _, j, _), _, (l, _)⟩ => res_u3 a b j l
theorem ent_u3_ok (hgo : ∀ (a b : List (Ty.den lockT)) (j : Nat) (l : List (Ty.den lockT)), pre_u3 a b j l → SemL Tryd.prog Γ (lp 53 0) (st_u3 a b j l) (rs_u3 a b j l).1.to (rs_u3 a b j l).2) : EntOk Tryd.prog Γ (lp 53 0) ent_u3 := LEnt.by_ok fun ⟨(a, b, _, _, j, _), _, (l, _)⟩ _ _ h_ => SemL.br (out := rs_u3 a b j l) rfl (hgo a b j l) h_
theorem u3_go (a b : List (Ty.den lockT)) (j : Nat) (l : List (Ty.den lockT)) (h : pre_u3 a b j l) : SemL Tryd.prog Γ (lp 53 0) (st_u3 a b j l) (rs_u3 a b j l).1.to (rs_u3 a b j l).2 := by
  obtain ⟨rfl, rfl, ha, hb, hka, hkb⟩ := h
  refine SemL.ind (A := List (Ty.den lockT) × List (Ty.den lockT) × List (Ty.den lockT)) (fun s => st_u3 s.1 s.2.1 s.2.2.length s.2.2) (fun s => s.1.length + s.2.1.length) (fun _ => rs_u3 a b 0 [])
    (fun s => (s.2.2 ++ (mgA cmpL cbL s.1 s.2.1).1, (mgA cmpL cbL s.1 s.2.1).2) = mgA cmpL cbL a b ∧ s.1.length + s.2.1.length + s.2.2.length ≤ 2000000 ∧ (∀ q ∈ s.1, (kK q).length ≤ 1000000) ∧ ∀ q ∈ s.2.1, (kK q).length ≤ 1000000) ?_ (a, b, []) ⟨rfl, by show a.length + b.length + 0 ≤ _; omega, hka, hkb⟩
  rintro ⟨a1, b1, o⟩ ⟨i1, i2, i3, i4⟩
  simp only at i1 i2 i3 i4 ⊢
  cases a1 with
  | nil =>
    have eq := rn_u3_eq [] b1 o.length o
    refine .inr ⟨by simp [rs_u3, Ex.to], ?_⟩
    rw [mgA_nil, List.append_nil] at i1
    rw [decide_eq_false (by simp)] at eq
    have := rn_u3_c [] b1 o.length o (eq.trans rfl)
    unfold rs_u3
    rw [← i1]
    exact this
  | cons x a1 =>
   cases b1 with
   | nil =>
    have eq := rn_u3_eq (x :: a1) [] o.length o
    refine .inr ⟨by simp [rs_u3, Ex.to], ?_⟩
    rw [mgA_end, List.append_nil] at i1
    rw [decide_eq_true (by simp only [List.length_cons]; omega : (Nat.cast (x :: a1).length : Int) > 0), decide_eq_false (by simp)] at eq
    have := rn_u3_c (x :: a1) [] o.length o (eq.trans rfl)
    unfold rs_u3
    rw [← i1]
    exact this
   | cons y b1 =>
      have eq := rn_u3_eq (x :: a1) (y :: b1) o.length o
      have e1 : List.getD (x :: a1) 0 lockT.dflt = x := rfl
      have e2 : List.getD (y :: b1) 0 lockT.dflt = y := rfl
      have g1 : 0 < (x :: a1).length := by simp
      have g2 : 0 < (y :: b1).length := by simp
      have l1 : (x :: a1).length = a1.length + 1 := rfl
      have l2 : (y :: b1).length = b1.length + 1 := rfl
      rw [decide_eq_true (by omega : (Nat.cast (x :: a1).length : Int) > 0), decide_eq_true (by omega : (Nat.cast (y :: b1).length : Int) > 0), decide_eq_true (by omega : (0 : Int) ≤ 0 ∧ (0 : Int) < (Nat.cast (x :: a1).length : Int)), decide_eq_true (by omega : (0 : Int) ≤ 0 ∧ (0 : Int) < (Nat.cast (y :: b1).length : Int)),
        decide_eq_true (by omega : (o.length + 1) * 2 * 32 ≤ 281474976710656), decide_eq_true (by omega : (0 : Int) ≤ 1 ∧ (1 : Int) ≤ (Nat.cast (x :: a1).length : Int) ∧ (Nat.cast (x :: a1).length : Int) ≤ (Nat.cast (x :: a1).length : Int)),
        decide_eq_true (by omega : (0 : Int) ≤ 1 ∧ (1 : Int) ≤ (Nat.cast (y :: b1).length : Int) ∧ (Nat.cast (y :: b1).length : Int) ≤ (Nat.cast (y :: b1).length : Int)), e1, e2, List.drop_zero, List.take_length] at eq
      rw [drop_one, drop_one] at eq
      have hkk : (kK x).length ≤ 1000000 ∧ (kK y).length ≤ 1000000 := ⟨i3 x (List.mem_cons_self ..), i4 y (List.mem_cons_self ..)⟩
      rw [decide_eq_true hkk] at eq
      have hm := mgA_cons (cmp := cmpL) (cb := cbL) x y a1 b1
      by_cases c1 : cmpL x y < 0
      · rw [if_pos c1] at hm
        rw [decide_eq_true c1] at eq
        have := rn_u3_c (x :: a1) (y :: b1) o.length o (eq.trans rfl)
        refine .inl ⟨(a1, y :: b1, o ++ [x]), ?_, ⟨?_, ?_, fun q hq => i3 q (List.mem_cons_of_mem _ hq), i4⟩, ?_, trivial⟩
        · show SemC _ _ _ _ _ (st_u3 a1 (y :: b1) (o ++ [x]).length (o ++ [x]))
          rw [List.length_append]
          exact this
        · rw [← i1, hm]; simp
        · show a1.length + (y :: b1).length + (o ++ [x]).length ≤ _
          rw [List.length_append, l2]; rw [l1, l2] at i2; simp only [List.length_cons, List.length_nil]; omega
        · show a1.length + (y :: b1).length < (x :: a1).length + (y :: b1).length
          omega
      · rw [if_neg c1] at hm
        rw [decide_eq_false c1] at eq
        by_cases c2 : cmpL x y > 0
        · rw [if_pos c2] at hm
          rw [decide_eq_true c2] at eq
          have := rn_u3_c (x :: a1) (y :: b1) o.length o (eq.trans rfl)
          refine .inl ⟨(x :: a1, b1, o ++ [y]), ?_, ⟨?_, ?_, i3, fun q hq => i4 q (List.mem_cons_of_mem _ hq)⟩, ?_, trivial⟩
          · show SemC _ _ _ _ _ (st_u3 (x :: a1) b1 (o ++ [y]).length (o ++ [y]))
            rw [List.length_append]
            exact this
          · rw [← i1, hm]; simp
          · show (x :: a1).length + b1.length + (o ++ [y]).length ≤ _
            rw [List.length_append, l1]; rw [l1, l2] at i2; simp only [List.length_cons, List.length_nil]; omega
          · show (x :: a1).length + b1.length < (x :: a1).length + (y :: b1).length
            omega
        · rw [if_neg c2] at hm
          rw [decide_eq_false c2] at eq
          have := rn_u3_c (x :: a1) (y :: b1) o.length o (eq.trans rfl)
          refine .inl ⟨(a1, b1, o ++ [cbL x y]), ?_, ⟨?_, ?_, fun q hq => i3 q (List.mem_cons_of_mem _ hq), fun q hq => i4 q (List.mem_cons_of_mem _ hq)⟩, ?_, trivial⟩
          · show SemC _ _ _ _ _ (st_u3 a1 b1 (o ++ [cbL x y]).length (o ++ [cbL x y]))
            rw [List.length_append]
            exact this
          · rw [← i1, hm]; simp
          · show a1.length + b1.length + (o ++ [cbL x y]).length ≤ _
            rw [List.length_append]; rw [l1, l2] at i2; simp only [List.length_cons, List.length_nil]; omega
          · show a1.length + b1.length < (x :: a1).length + (y :: b1).length
            omega
def lo30 : LOrc := (LOrc.add (LOrc.add (LOrc.add lo21 47 0 ent_u1) 50 0 ent_u2) 53 0 ent_u3)
theorem lo30_ok : LOrcOk Tryd.prog Γ lo30 := (LOrcOk.add (LOrcOk.add (LOrcOk.add lo21_ok 47 0 Tryd.func47 bd_u1 le_u1 (ent_u1_ok u1_go)) 50 0 Tryd.func50 bd_u2 le_u2 (ent_u2_ok u2_go)) 53 0 Tryd.func53 bd_u3 le_u3 (ent_u3_ok u3_go))
noncomputable def cfg30 : Cfg := cfgP orc23 lo30
theorem cfg30_ok : CfgOk Tryd.prog Γ cfg30 := cfgP_ok orc23_ok lo30_ok
theorem c47_run (a b : List Int) : runL cfg30 47 [.slst .ro ity a, .slst .ro ity b, .fn (.func 48) [] [], .fn (.func 49) [] []] = .ok (some (decide (pre_u1 a b (0) []) && (decide (((mgA sgn cbI a b).fst.length + (mgA sgn cbI a b).snd.fst.length) * 2 * (8 : Nat) ≤ 281474976710656) && decide (((mgA sgn cbI a b).fst.length + (mgA sgn cbI a b).snd.fst.length + (mgA sgn cbI a b).snd.snd.length) * 2 * (8 : Nat) ≤ 281474976710656)))) (V.slst .ro ity (List.take ((mgA sgn cbI a b).fst.length + (mgA sgn cbI a b).snd.fst.length + (mgA sgn cbI a b).snd.snd.length) (List.drop (0) (List.take ((mgA sgn cbI a b).fst.length + (mgA sgn cbI a b).snd.fst.length) (List.drop (0) (List.take (mgA sgn cbI a b).fst.length (List.drop (0) (mgA sgn cbI a b).fst) ++ (mgA sgn cbI a b).snd.fst)) ++ (mgA sgn cbI a b).snd.snd)))) := by kernel_rfl
theorem c50_run (a b : List (Ty.den conf)) : runL cfg30 50 [.slst .ro conf a, .slst .ro conf b, .fn (.func 51) [] [], .fn (.func 52) [] []] = .ok (some (decide (pre_u2 a b (0) []) && (decide (((mgA cmpC cbC a b).fst.length + (mgA cmpC cbC a b).snd.fst.length) * 2 * (16 : Nat) ≤ 281474976710656) && decide (((mgA cmpC cbC a b).fst.length + (mgA cmpC cbC a b).snd.fst.length + (mgA cmpC cbC a b).snd.snd.length) * 2 * (16 : Nat) ≤ 281474976710656)))) (V.slst .ro conf (List.take ((mgA cmpC cbC a b).fst.length + (mgA cmpC cbC a b).snd.fst.length + (mgA cmpC cbC a b).snd.snd.length) (List.drop (0) (List.take ((mgA cmpC cbC a b).fst.length + (mgA cmpC cbC a b).snd.fst.length) (List.drop (0) (List.take (mgA cmpC cbC a b).fst.length (List.drop (0) (mgA cmpC cbC a b).fst) ++ (mgA cmpC cbC a b).snd.fst)) ++ (mgA cmpC cbC a b).snd.snd)))) := by kernel_rfl
def fp_g53 : FP := ⟨[.ty (.slice lockT), .ty (.slice lockT), .fn 42 [], .fn 54 []], [], []⟩
noncomputable def ev_g53 (C : Cfg) (lv : List Nat) (a b : List (Ty.den lockT)) := evV Tryd.prog Γ C lv 53 (SP.vals fp_g53.sp (a, b, (), (), ())) (OP.vals fp_g53.op ()) (BP.vals fp_g53.bp ())
theorem t53_eq (a b : List (Ty.den lockT)) : (ev_g53 cfg30 [] a b).run = (bif decide (pre_u3 a b (0) []) then (bif decide (((mgA cmpL cbL a b).fst.length + (mgA cmpL cbL a b).snd.fst.length) * 2 * 32 ≤ 281474976710656) then (bif decide (((mgA cmpL cbL a b).fst.length + (mgA cmpL cbL a b).snd.fst.length + (mgA cmpL cbL a b).snd.snd.length) * 2 * 32 ≤ 281474976710656) then (some ((V.bs true 0 0 ((mgA cmpL cbL (a, b, (), (), ()).fst (b, (), (), ()).fst).fst.length + (mgA cmpL cbL (a, b, (), (), ()).fst (b, (), (), ()).fst).snd.fst.length + (mgA cmpL cbL (a, b, (), (), ()).fst (b, (), (), ()).fst).snd.snd.length), [], [some (Bf.live (.arr lockT (List.take ((mgA cmpL cbL a b).fst.length + (mgA cmpL cbL a b).snd.fst.length) (List.drop (0) (List.take (mgA cmpL cbL a b).fst.length (List.drop (0) (mgA cmpL cbL a b).fst) ++ (mgA cmpL cbL a b).snd.fst)) ++ (mgA cmpL cbL a b).snd.snd)))]))) else none) else none) else none) := by kernel_rfl
end L
end Go.Proofs.YthjiodeaepigmaaDoor

/- Package label: the unions as contracts; Join's loop, printed. -/
set_option linter.unusedVariables false
set_option linter.unusedSimpArgs false
set_option maxRecDepth 100000
set_option maxHeartbeats 4000000
namespace Go.Proofs.YthjiodeaepigmaaDoor
open Go
namespace L
def unD {α : Type} (cmp : α → α → Int) (cb : α → α → α) (a b : List α) : List α := (mgA cmp cb a b).1 ++ (mgA cmp cb a b).2.1 ++ (mgA cmp cb a b).2.2
theorem unD_len {α : Type} (cmp : α → α → Int) (cb : α → α → α) (a b : List α) : (unD cmp cb a b).length ≤ a.length + b.length := by
 unfold unD
 have := mgA_len (cmp := cmp) (cb := cb) _ a b (Nat.le_refl _)
 simp only [List.length_append]
 omega
theorem unD_all {α : Type} (o a b : List α) : List.take (o.length + a.length + b.length) (List.drop 0 (List.take (o.length + a.length) (List.drop 0 (List.take o.length (List.drop 0 o) ++ a)) ++ b)) = o ++ a ++ b := by
 simp only [List.drop_zero, List.take_length]
 rw [← List.length_append, List.take_length, ← List.length_append, List.take_length]
def fp_g47 : FP := ⟨[.ty (.slice ity), .ty (.slice ity), .fn 48 [], .fn 49 []], [], []⟩
abbrev cn_g47 (a b : List Int) : Prop := a.length ≤ 1000000 ∧ b.length ≤ 1000000
noncomputable def cr_g47 (a b : List Int) : Option Bool × V × Ob × Nm := (some (decide (cn_g47 a b)), .slst .ro ity (unD sgn cbI a b), [], [])
noncomputable def ct_g47 := Ct.by fp_g47 fun ⟨(a, b, _, _, _), _, _⟩ => cr_g47 a b
abbrev sf_g47 (a b : List Int) : Prop := SemF Tryd.prog Γ 47 (SP.vals fp_g47.sp (a, b, (), (), ())) (OP.vals fp_g47.op ()) (BP.vals fp_g47.bp ()) (.slst .ro ity (unD sgn cbI a b)) ([]) ([])
theorem cr_g47_ok (a b : List Int) (h : (cr_g47 a b).1.getD true = true) : cn_g47 a b := of_decide_eq_true h
theorem ct_g47_ok (H : ∀ (a b : List Int), cn_g47 a b → sf_g47 a b) : ∀ args ob nm c v ob1 nm1, ct_g47 args ob nm = some (c, v, ob1, nm1) → c.getD true = true → SemF Tryd.prog Γ 47 args ob nm v ob1 nm1 := Ct.by_ok fun ⟨(a, b, _, _, _), _, _⟩ h => H a b (cr_g47_ok a b h)
theorem g47_go (a b : List Int) (h : cn_g47 a b) : sf_g47 a b := by
 have hl := mgA_len (cmp := sgn) (cb := cbI) _ a b (Nat.le_refl _)
 refine of_runL cfg30_ok (c47_run a b) ?_ (congrArg (V.slst .ro ity) (unD_all _ _ _))
 rw [decide_eq_true (show pre_u1 a b 0 [] from ⟨rfl, rfl, h.1, h.2⟩), decide_eq_true (by omega), decide_eq_true (by have := h.1; have := h.2; omega)]
 rfl
def fp_g50 : FP := ⟨[.ty (.slice conf), .ty (.slice conf), .fn 51 [], .fn 52 []], [], []⟩
abbrev cn_g50 (a b : List (Ty.den conf)) : Prop := a.length ≤ 1000000 ∧ b.length ≤ 1000000
noncomputable def cr_g50 (a b : List (Ty.den conf)) : Option Bool × V × Ob × Nm := (some (decide (cn_g50 a b)), .slst .ro conf (unD cmpC cbC a b), [], [])
noncomputable def ct_g50 := Ct.by fp_g50 fun ⟨(a, b, _, _, _), _, _⟩ => cr_g50 a b
abbrev sf_g50 (a b : List (Ty.den conf)) : Prop := SemF Tryd.prog Γ 50 (SP.vals fp_g50.sp (a, b, (), (), ())) (OP.vals fp_g50.op ()) (BP.vals fp_g50.bp ()) (.slst .ro conf (unD cmpC cbC a b)) ([]) ([])
theorem cr_g50_ok (a b : List (Ty.den conf)) (h : (cr_g50 a b).1.getD true = true) : cn_g50 a b := of_decide_eq_true h
theorem ct_g50_ok (H : ∀ (a b : List (Ty.den conf)), cn_g50 a b → sf_g50 a b) : ∀ args ob nm c v ob1 nm1, ct_g50 args ob nm = some (c, v, ob1, nm1) → c.getD true = true → SemF Tryd.prog Γ 50 args ob nm v ob1 nm1 := Ct.by_ok fun ⟨(a, b, _, _, _), _, _⟩ h => H a b (cr_g50_ok a b h)
theorem g50_go (a b : List (Ty.den conf)) (h : cn_g50 a b) : sf_g50 a b := by
 have hl := mgA_len (cmp := cmpC) (cb := cbC) _ a b (Nat.le_refl _)
 refine of_runL cfg30_ok (c50_run a b) ?_ (congrArg (V.slst .ro conf) (unD_all _ _ _))
 rw [decide_eq_true (show pre_u2 a b 0 [] from ⟨rfl, rfl, h.1, h.2⟩), decide_eq_true (by omega), decide_eq_true (by have := h.1; have := h.2; omega)]
 rfl
def ll' (l : List (Ty.den lockT)) : Option Bf := some (.live (.arr lockT l))
def fp_h53 : FP := ⟨[.ty (.slice lockT), .ty (.slice lockT), .fn 42 [], .fn 54 []], [], []⟩
abbrev cn_h53 (a b : List (Ty.den lockT)) : Prop := a.length ≤ 1000000 ∧ b.length ≤ 1000000 ∧ (∀ q ∈ a, (kK q).length ≤ 1000000) ∧ ∀ q ∈ b, (kK q).length ≤ 1000000
noncomputable def cr_h53 (a b : List (Ty.den lockT)) : Option Bool × V × Ob × Nm := (some (decide (cn_h53 a b)), .bs true 0 0 (unD cmpL cbL a b).length, [], [ll' (unD cmpL cbL a b)])
noncomputable def ct_h53 := Ct.by fp_h53 fun ⟨(a, b, _, _, _), _, _⟩ => cr_h53 a b
abbrev sf_h53 (a b : List (Ty.den lockT)) : Prop := SemF Tryd.prog Γ 53 (SP.vals fp_h53.sp (a, b, (), (), ())) (OP.vals fp_h53.op ()) (BP.vals fp_h53.bp ()) (.bs true 0 0 (unD cmpL cbL a b).length) ([]) ([ll' (unD cmpL cbL a b)])
theorem cr_h53_ok (a b : List (Ty.den lockT)) (h : (cr_h53 a b).1.getD true = true) : cn_h53 a b := of_decide_eq_true h
theorem ct_h53_ok (H : ∀ (a b : List (Ty.den lockT)), cn_h53 a b → sf_h53 a b) : ∀ args ob nm c v ob1 nm1, ct_h53 args ob nm = some (c, v, ob1, nm1) → c.getD true = true → SemF Tryd.prog Γ 53 args ob nm v ob1 nm1 := Ct.by_ok fun ⟨(a, b, _, _, _), _, _⟩ h => H a b (cr_h53_ok a b h)
instance (a : List (Ty.den lockT)) : Decidable (∀ q ∈ a, (kK q).length ≤ 1000000) := inferInstance
theorem unD_alls {α : Type} (o a b : List α) : List.take (o.length + a.length) (List.drop 0 (List.take o.length (List.drop 0 o) ++ a)) ++ b = o ++ a ++ b := by
 simp only [List.drop_zero, List.take_length]
 rw [← List.length_append, List.take_length]
theorem h53_go (a b : List (Ty.den lockT)) (h : cn_h53 a b) : sf_h53 a b := by
 have hl := mgA_len (cmp := cmpL) (cb := cbL) _ a b (Nat.le_refl _)
 refine SemF.of_tree cfg30_ok (lv := []) (Eq.trans (t53_eq a b) ?_)
 obtain ⟨h1, h2, h3, h4⟩ := h
 rw [decide_eq_true (show pre_u3 a b 0 [] from ⟨rfl, rfl, h1, h2, h3, h4⟩), decide_eq_true (by omega), decide_eq_true (by omega), unD_alls]
 simp only [cond_true]
 unfold unD ll'
 rw [List.length_append, List.length_append]
noncomputable def T31_0 : CallT := fun f args ob nm => match Nat.beq f 47 with | true => ct_g47 args ob nm | false => T12 f args ob nm
theorem T31_0_ok : CtOk Tryd.prog Γ T31_0 := CtOk.cons T12_ok 47 ct_g47 (by decide) Tryd.f47 Tryd.func47 (by kernel_rfl) (by kernel_rfl) (ct_g47_ok g47_go)
noncomputable def T31_1 : CallT := fun f args ob nm => match Nat.beq f 50 with | true => ct_g50 args ob nm | false => T31_0 f args ob nm
theorem T31_1_ok : CtOk Tryd.prog Γ T31_1 := CtOk.cons T31_0_ok 50 ct_g50 (by decide) Tryd.f50 Tryd.func50 (by kernel_rfl) (by kernel_rfl) (ct_g50_ok g50_go)
noncomputable def T31 : CallT := fun f args ob nm => match Nat.beq f 53 with | true => ct_h53 args ob nm | false => T31_1 f args ob nm
theorem T31_ok : CtOk Tryd.prog Γ T31 := CtOk.cons T31_1_ok 53 ct_h53 (by decide) Tryd.f53 Tryd.func53 (by kernel_rfl) (by kernel_rfl) (ct_h53_ok h53_go)
def isT31 (f : FuncId) : Bool := Nat.beq f 123 || Nat.beq f 47 || Nat.beq f 50 || Nat.beq f 53
noncomputable def omT (T : CallT) (p : FuncId → Bool) (om : CallF) : CallF := fun f args ob nm => match p f with | true => callC T f args ob nm | false => om f args ob nm
theorem omT_ok {T : CallT} {p : FuncId → Bool} {om : CallF} (hT : CtOk Tryd.prog Γ T) (ho : CallsOk Tryd.prog Γ om ∧ CallsFit om) : CallsOk Tryd.prog Γ (omT T p om) ∧ CallsFit (omT T p om) := by
 refine ⟨fun f args ob nm out h hc => ?_, ⟨fun f args ob nm out h => ?_, fun f args ob nm out h ob' nm' hs => ?_⟩⟩
 · unfold omT at h
   split at h
   · exact callC_calls hT _ _ _ _ _ h hc
   · exact ho.1 _ _ _ _ _ h hc
 · unfold omT at h
   split at h
   · exact (callC_fit hT).eff _ _ _ _ _ h
   · exact ho.2.eff _ _ _ _ _ h
 · unfold omT at h ⊢
   split at h
   · exact (callC_fit hT).frame _ _ _ _ _ h ob' nm' hs
   · exact ho.2.frame _ _ _ _ _ h ob' nm' hs
theorem c55_run (a : List Int) : runL cfg30 55 [.slst .ro ity a] = .ok (some (decide (0 < a.length) && decide (a.length * 2 * (8 : Nat) ≤ 281474976710656))) (V.slst .ro ity (List.take a.length (List.drop (0) a))) := by kernel_rfl
theorem c55_ok (a : List Int) (h : 0 < a.length ∧ a.length ≤ 1000000) : SemF Tryd.prog Γ 55 [.slst .ro ity a] [] [] (.slst .ro ity a) [] [] :=
 of_runL cfg30_ok (c55_run a) (by rw [decide_eq_true h.1, decide_eq_true (by omega)]; rfl) (congrArg (V.slst .ro ity) (take_all a))
def e55 (a : List Int) : Option Bool × V := (some (decide (0 < a.length ∧ a.length ≤ 1000000)), .slst .ro ity a)
noncomputable def orc31 : Orc := fun f args => if f = 55 then (Ty.ofVs [.slice ity] args).map (fun x => e55 x.1) else orc23 f args
theorem orc31_ok : OrcOk Tryd.prog Γ orc31 := orc23_ok.plain 55 [.slice ity] (fun x => e55 x.1) Tryd.f55 Tryd.func55 rfl (by kernel_rfl) (fun x h => c55_ok x.1 (of_decide_eq_true h))
noncomputable def cfgT (T : CallT) (p : FuncId → Bool) (orc : Orc) (lo : LOrc) : Cfg := ⟨orc, fun f => p f || Nat.beq f 63, omT T p om1, lo, lvF, fun f => !Nat.beq f 55 && mems.any (Nat.beq f), 80, fun _ _ => none⟩
theorem cfgT_ok {T : CallT} {p : FuncId → Bool} {orc : Orc} {lo : LOrc} (hT : CtOk Tryd.prog Γ T) (h : OrcOk Tryd.prog Γ orc) (hl : LOrcOk Tryd.prog Γ lo) : CfgOk Tryd.prog Γ (cfgT T p orc lo) where
 orc := h
 om := (omT_ok hT om1_ok).1
 fit := (omT_ok hT om1_ok).2
 lo := hl
 mixed := by kernel_rfl
noncomputable def cfg31 : Cfg := cfgT T31 isT31 orc31 lo30
theorem cfg31_ok : CfgOk Tryd.prog Γ cfg31 := cfgT_ok T31_ok orc31_ok lo30_ok
def hp_jn : HP := { n := 76, lv := [4, 6, 58, 59], sp := [.ptr 0 0, .ptr 1 0, .ty ity, .ty ity], op := [.cells [.ci 0, .nl, .nl, .ci 0, .ci 0, .nl], .cells [.ty ity, .ty (.slice ity), .ty (.slice conf), .ty ity, .ty ity, .bz 0]], bp := [.arr lockT] }
def lve_jn : Ex → List Nat
 | .normal => [4, 6, 58, 59]
 | .exit 0 => [4, 6]
 | _ => []
theorem bd_jn : Tryd.f16.body = some (root 16) := by kernel_rfl
theorem le_jn : (loops (root 16))[0]? = some (lp 16 0) := by kernel_rfl
theorem li_jn : Lies (root 16) 1 (lp 16 0) := Lies.of_take (n := 0) (by kernel_rfl)
def st_jn (n i u : Int) (ev : List Int) (co : List (Ty.den conf)) (t c : Int) (j : Nat) (l : List (Ty.den lockT)) : St := hp_jn.st ⟨((), (), n, i, ()), (((), (), (), (), (), (), ()), (u, ev, co, t, c, j, ()), ()), (l, ())⟩
noncomputable def rn_jn (n i u : Int) (ev : List Int) (co : List (Ty.den conf)) (t c : Int) (j : Nat) (l : List (Ty.den lockT)) := outa lve_jn (evCK Tryd.prog Γ (cfM Tryd.prog Γ cfg31 30) (cfg31.lo 16) [] 60 1 (lp 16 0) (st_jn n i u ev co t c j l))
theorem rn_jn_eq (n i u : Int) (ev : List Int) (co : List (Ty.den conf)) (t c : Int) (j : Nat) (l : List (Ty.den lockT)) : (rn_jn n i u ev co t c j l).run = (bif decide (i < n) then (bif decide ((0 : Int) ≤ i ∧ i < (Nat.cast (j) : Int)) then (bif decide (0 + i.toNat < l.length) then (bif decide (0 < List.length (kK (l.getD (0 + i.toNat) lockT.dflt)) ∧ List.length (kK (l.getD (0 + i.toNat) lockT.dflt)) ≤ 1000000) then (bif decide ((0 : Int) ≤ i ∧ i < (Nat.cast (j) : Int)) then (bif decide (0 + i.toNat < l.length) then (some ((Ex.normal, [V.ptr 0 0, V.ptr 1 0, V.si .i64 n, V.si .i64 (IntKind.i64.wrap (i + (1 : Int)))], [some [V.i .i64 (0 : Int), V.lst .full [], V.lst .full [], V.i .i64 (0 : Int), V.i .i64 (0 : Int), V.lst .full []], some [V.si .i64 u, V.slst .ro ity ev, V.slst .ro conf co, V.si .i64 t, V.si .i64 c, V.bs true 0 0 j]], [some (Bf.live (.arr lockT (l.set (0 + i.toNat) (l.getD (0 + i.toNat) lockT.dflt))))], 76, 0, 0))) else none) else none) else none) else none) else none) else (some ((Ex.exit 0, [V.ptr 0 0, V.ptr 1 0], [some [V.i .i64 (0 : Int), V.lst .full [], V.lst .full [], V.i .i64 (0 : Int), V.i .i64 (0 : Int), V.lst .full []], some [V.si .i64 u, V.slst .ro ity ev, V.slst .ro conf co, V.si .i64 t, V.si .i64 c, V.bs true 0 0 j]], [some (Bf.live (.arr lockT l))], 76, 0, 0)))) := by kernel_rfl
theorem rn_jn_c (n i u : Int) (ev : List Int) (co : List (Ty.den conf)) (t c : Int) (j : Nat) (l : List (Ty.den lockT)) {e : Ex} {vs : List V} {ob : Ob} {nm : Nm} {n' kh kt : Nat} (h : (rn_jn n i u ev co t c j l).run = some (e, vs, ob, nm, n', kh, kt)) : SemC Tryd.prog Γ (lp 16 0) (st_jn n i u ev co t c j l) e.to (St.of n' (lve_jn e) vs ob nm kh kt) := SemC.of_evM cfg31_ok Tryd.func16 bd_jn li_jn h
end L
end Go.Proofs.YthjiodeaepigmaaDoor

/- Package label: Join, printed. -/
set_option linter.unusedVariables false
set_option linter.unusedSimpArgs false
set_option maxRecDepth 100000
set_option maxHeartbeats 4000000
namespace Go.Proofs.YthjiodeaepigmaaDoor
open Go
namespace L
abbrev pre_jn (n i u : Int) (ev : List Int) (co : List (Ty.den conf)) (t c : Int) (j : Nat) (l : List (Ty.den lockT)) : Prop := n = (l.length : Int) ∧ i = 0 ∧ j = l.length ∧ l.length ≤ 1000000 ∧ ∀ q ∈ l, 0 < (kK q).length ∧ (kK q).length ≤ 1000000
def rs_jn (n i u : Int) (ev : List Int) (co : List (Ty.den conf)) (t c : Int) (j : Nat) (l : List (Ty.den lockT)) : Ex × St := (.exit 0, St.of 76 (lve_jn (.exit 0)) [.ptr 0 0, .ptr 1 0] [some [.i .i64 0, .lst .full [], .lst .full [], .i .i64 0, .i .i64 0, .lst .full []], some [.si .i64 u, .slst .ro ity ev, .slst .ro conf co, .si .i64 t, .si .i64 c, .bs true 0 0 l.length]] [some (.live (.arr lockT l))] hp_jn.kh hp_jn.kt)
def res_jn (n i u : Int) (ev : List Int) (co : List (Ty.den conf)) (t c : Int) (j : Nat) (l : List (Ty.den lockT)) : Tr (Ex × St) := .br (decide (pre_jn n i u ev co t c j l)) (.leaf (some (.exit 0, St.of 76 (lve_jn (.exit 0)) [.ptr 0 0, .ptr 1 0] [some [.i .i64 0, .lst .full [], .lst .full [], .i .i64 0, .i .i64 0, .lst .full []], some [.si .i64 u, .slst .ro ity ev, .slst .ro conf co, .si .i64 t, .si .i64 c, .bs true 0 0 l.length]] [some (.live (.arr lockT l))] hp_jn.kh hp_jn.kt))) (.leaf none)
def ent_jn : LEnt := LEnt.by hp_jn fun ⟨(_, _, n, i, _), ((_, _, _, _, _, _, _), (u, ev, co, t, c, j, _), _), (l, _)⟩ => res_jn n i u ev co t c j l
theorem ent_jn_ok (hgo : ∀ (n i u : Int) (ev : List Int) (co : List (Ty.den conf)) (t c : Int) (j : Nat) (l : List (Ty.den lockT)), pre_jn n i u ev co t c j l → SemL Tryd.prog Γ (lp 16 0) (st_jn n i u ev co t c j l) (rs_jn n i u ev co t c j l).1.to (rs_jn n i u ev co t c j l).2) : EntOk Tryd.prog Γ (lp 16 0) ent_jn := LEnt.by_ok fun ⟨(_, _, n, i, _), ((_, _, _, _, _, _, _), (u, ev, co, t, c, j, _), _), (l, _)⟩ _ _ h_ => SemL.br (out := rs_jn n i u ev co t c j l) rfl (hgo n i u ev co t c j l) h_
theorem set_same {α : Type} {l : List α} {i : Nat} (d : α) (h : i < l.length) : l.set i (l.getD i d) = l := by
 rw [getD_eq h]
 exact List.set_getElem_self h
theorem jn_go (n i u : Int) (ev : List Int) (co : List (Ty.den conf)) (t c : Int) (j : Nat) (l : List (Ty.den lockT)) (h : pre_jn n i u ev co t c j l) : SemL Tryd.prog Γ (lp 16 0) (st_jn n i u ev co t c j l) (rs_jn n i u ev co t c j l).1.to (rs_jn n i u ev co t c j l).2 := by
 obtain ⟨rfl, rfl, rfl, hl, hk⟩ := h
 refine SemL.scan l.length 0 (Nat.zero_le _) (fun i => st_jn l.length (i : Nat) u ev co t c l.length l) (fun _ => true) (rs_jn l.length 0 u ev co t c l.length l) ?_ ?_ ?_
 · intro i _ hi _ _
   have hw : IntKind.i64.wrap ((i : Int) + 1) = ((i + 1 : Nat) : Int) := by rw [wrap_in (by omega) (by omega)]; rfl
   have eq := rn_jn_eq l.length i u ev co t c l.length l
   have hq := hk (l.getD i lockT.dflt) (by have e1 : l.getD i lockT.dflt = l[i] := getD_eq hi _; rw [e1]; exact List.getElem_mem hi)
   rw [hw, decide_eq_true (by omega : (i : Int) < (l.length : Int)), decide_eq_true (by omega : (0 : Int) ≤ (i : Int) ∧ (i : Int) < (l.length : Int)), Int.toNat_natCast, Nat.zero_add, decide_eq_true hi, decide_eq_true hq, set_same _ hi] at eq
   exact rn_jn_c l.length i u ev co t c l.length l (eq.trans rfl)
 · intro i _ _ _ h; cases h
 · intro _
   refine ⟨by simp [rs_jn, Ex.to], ?_⟩
   have eq := rn_jn_eq l.length l.length u ev co t c l.length l
   rw [decide_eq_false (by omega)] at eq
   exact rn_jn_c l.length l.length u ev co t c l.length l (eq.trans rfl)
def lo32 : LOrc := (LOrc.add lo30 16 0 ent_jn)
theorem lo32_ok : LOrcOk Tryd.prog Γ lo32 := (LOrcOk.add lo30_ok 16 0 Tryd.func16 bd_jn le_jn (ent_jn_ok jn_go))
noncomputable def cfg32 : Cfg := cfgT T31 isT31 orc31 lo32
theorem cfg32_ok : CfgOk Tryd.prog Γ cfg32 := cfgT_ok T31_ok orc31_ok lo32_ok
noncomputable def ev16 (u : Int) (ev : List Int) (co : List (Ty.den conf)) (t c : Int) (l : List (Ty.den lockT)) (u' : Int) (ev' : List Int) (co' : List (Ty.den conf)) (t' c' : Int) (l' : List (Ty.den lockT)) : Tr V := (evFK Tryd.prog Γ (cfM Tryd.prog Γ cfg32 30) cfg32.lo (cfg32.lv 16) 80 16 [.agg [.si .i64 u, .slst .ro ity ev, .slst .ro conf co, .si .i64 t, .si .i64 c, .slst .ro lockT l], .agg [.si .i64 u', .slst .ro ity ev', .slst .ro conf co', .si .i64 t', .si .i64 c', .slst .ro lockT l']] [] []).bind fun p => .leaf (valO (some p))
theorem t16_eq (u : Int) (ev : List Int) (co : List (Ty.den conf)) (t c : Int) (l : List (Ty.den lockT)) (u' : Int) (ev' : List Int) (co' : List (Ty.den conf)) (t' c' : Int) (l' : List (Ty.den lockT)) : (ev16 u ev co t c l u' ev' co' t' c' l').run = (bif (some (decide (szE ev co l) && (!validE u ev co t c l || decide (szE ev' co' l')))).getD true then (bif bif !validE u ev co t c l then true else !validE u' ev' co' t' c' l' then (some (V.tup [V.agg [V.i .i64 (0 : Int), V.lst .full [], V.lst .full [], V.i .i64 (0 : Int), V.i .i64 (0 : Int), V.lst .full []], V.i .i64 (100 : Int)])) else (bif decide (cn_g47 ev ev') then (bif decide (cn_g50 co co') then (bif decide (cn_h53 l l') then (bif decide ((Nat.cast ((unD cmpL cbL l l').length) : Int) > (4 : Int)) then (some (V.tup [V.agg [V.i .i64 (0 : Int), V.lst .full [], V.lst .full [], V.i .i64 (0 : Int), V.i .i64 (0 : Int), V.lst .full []], V.i .i64 (100 : Int)])) else (bif decide (pre_jn (Nat.cast ((unD cmpL cbL l l').length) : Int) (0 : Int) (if u' > u then u' else u) (unD sgn cbI ev ev') (unD cmpC cbC co co') (IntKind.i64.wrap (Nat.cast ((BitVec.ofInt (64) t &&& BitVec.ofInt (64) t').toNat) : Int)) (IntKind.i64.wrap (Nat.cast ((BitVec.ofInt (64) c &&& BitVec.ofInt (64) c').toNat) : Int)) (unD cmpL cbL l l').length (unD cmpL cbL l l')) then (some (V.tup [V.agg [V.si .i64 (if u' > u then u' else u), V.slst .ro ity (unD sgn cbI ev ev'), V.slst .ro conf (unD cmpC cbC co co'), V.si .i64 (IntKind.i64.wrap (Nat.cast ((BitVec.ofInt (64 : Nat) t &&& BitVec.ofInt (64 : Nat) t').toNat) : Int)), V.si .i64 (IntKind.i64.wrap (Nat.cast ((BitVec.ofInt (64 : Nat) c &&& BitVec.ofInt (64 : Nat) c').toNat) : Int)), V.slst .ro lockT (List.take (unD cmpL cbL l l').length (List.drop (0) (unD cmpL cbL l l')))], V.i .i64 (0 : Int)])) else none)) else none) else none) else none)) else none) := by kernel_rfl
end L
end Go.Proofs.YthjiodeaepigmaaDoor

/- Package label: Join as a contract; the loops of Same, EqualFunc, Equal, ContainsFunc: printed. -/
set_option linter.unusedVariables false
set_option linter.unusedSimpArgs false
set_option maxRecDepth 100000
set_option maxHeartbeats 4000000
namespace Go.Proofs.YthjiodeaepigmaaDoor
open Go
namespace L
def andI (a b : Int) : Int := IntKind.i64.wrap (Nat.cast ((BitVec.ofInt 64 a &&& BitVec.ofInt 64 b).toNat) : Int)
def maxI (a b : Int) : Int := if b > a then b else a
def zeroL : Ty.den labT := ((0 : Int), ([] : List Int), ([] : List (Ty.den conf)), (0 : Int), (0 : Int), ([] : List (Ty.den lockT)), ())
def unL (x y : Ty.den labT) : List (Ty.den lockT) := unD cmpL cbL (aL x) (aL y)
def joinT (x y : Ty.den labT) : Ty.den labT := (maxI (aU x) (aU y), unD sgn cbI (aE x) (aE y), unD cmpC cbC (aC x) (aC y), andI (aT x) (aT y), andI (aK x) (aK y), unL x y, ())
def joinB (x y : Ty.den labT) : Bool := vX x && vX y && decide ((unL x y).length ≤ 4)
def joinV (x y : Ty.den labT) : Ty.den labT := bif joinB x y then joinT x y else zeroL
def joinN (x y : Ty.den labT) : Int := bif joinB x y then 0 else 100
theorem mgA_all {α : Type} {cmp : α → α → Int} {cb : α → α → α} {p : α → Prop} (hc : ∀ x y, p x → p y → p (cb x y)) : ∀ (n : Nat) (a b : List α), a.length + b.length ≤ n → (∀ x ∈ a, p x) → (∀ x ∈ b, p x) → (∀ x ∈ (mgA cmp cb a b).1, p x) ∧ (∀ x ∈ (mgA cmp cb a b).2.1, p x) ∧ ∀ x ∈ (mgA cmp cb a b).2.2, p x
 | _, [], b, _, ha, hb => by rw [mgA_nil]; exact ⟨(fun x h => by cases h), ha, hb⟩
 | _, x :: a, [], _, ha, hb => by rw [mgA_end]; exact ⟨(fun x h => by cases h), ha, hb⟩
 | 0, x :: a, y :: b, h, _, _ => by simp at h
 | n + 1, x :: a, y :: b, h, ha, hb => by
  rw [mgA_cons]
  simp only [List.length_cons] at h
  have hx := ha x (List.mem_cons_self ..)
  have hy := hb y (List.mem_cons_self ..)
  split
  · obtain ⟨q1, q2, q3⟩ := mgA_all hc n a (y :: b) (by simp only [List.length_cons]; omega) (fun z hz => ha z (List.mem_cons_of_mem _ hz)) hb
    refine ⟨fun z hz => ?_, q2, q3⟩
    rcases List.mem_cons.1 hz with rfl | hz
    · exact hx
    · exact q1 z hz
  · split
    · obtain ⟨q1, q2, q3⟩ := mgA_all hc n (x :: a) b (by simp only [List.length_cons]; omega) ha (fun z hz => hb z (List.mem_cons_of_mem _ hz))
      refine ⟨fun z hz => ?_, q2, q3⟩
      rcases List.mem_cons.1 hz with rfl | hz
      · exact hy
      · exact q1 z hz
    · obtain ⟨q1, q2, q3⟩ := mgA_all hc n a b (by omega) (fun z hz => ha z (List.mem_cons_of_mem _ hz)) (fun z hz => hb z (List.mem_cons_of_mem _ hz))
      refine ⟨fun z hz => ?_, q2, q3⟩
      rcases List.mem_cons.1 hz with rfl | hz
      · exact hc x y hx hy
      · exact q1 z hz
theorem unD_mem {α : Type} {cmp : α → α → Int} {cb : α → α → α} {p : α → Prop} (hc : ∀ x y, p x → p y → p (cb x y)) {a b : List α} (ha : ∀ x ∈ a, p x) (hb : ∀ x ∈ b, p x) : ∀ x ∈ unD cmp cb a b, p x := by
 obtain ⟨q1, q2, q3⟩ := mgA_all (cmp := cmp) hc _ a b (Nat.le_refl _) ha hb
 intro x hx
 unfold unD at hx
 rcases List.mem_append.1 hx with hx | hx
 · rcases List.mem_append.1 hx with hx | hx
   · exact q1 x hx
   · exact q2 x hx
 · exact q3 x hx
theorem valid_locks {x : Ty.den labT} (h : vX x = true) : locksD (aL x) = true ∧ (aL x).length ≤ 4 := by
 unfold vX validE at h
 simp only [Bool.and_eq_true, Bool.not_eq_true', decide_eq_false_iff_not] at h
 exact ⟨h.1.1.2, by have := h.1.1.1.2; omega⟩
theorem tup2 {G : Gh} {a a' b b' : V} (ha : ∀ cv, VRel G a cv → VRel G a' cv) (hb : ∀ cv, VRel G b cv → VRel G b' cv) (cv : Value) (h : VRel G (.tup [a, b]) cv) : VRel G (.tup [a', b']) cv := by
 cases h with
 | tup hl hh =>
  refine .tup hl fun j v c h1 h2 => ?_
  match j, h1 with
  | 0, h1 => cases h1; exact ha c (hh 0 _ c rfl h2)
  | 1, h1 => cases h1; exact hb c (hh 1 _ c rfl h2)
  | j + 2, h1 => cases h1
theorem c16_ok (x y : Ty.den labT) (hx : szX x) (hy : szX y) : SemF Tryd.prog Γ 16 [labT.val x, labT.val y] [] [] (.tup [labT.val (joinV x y), .si .i64 (joinN x y)]) [] [] := by
 have eq := t16_eq (aU x) (aE x) (aC x) (aT x) (aK x) (aL x) (aU y) (aE y) (aC y) (aT y) (aK y) (aL y)
 have hx1 : szE (aE x) (aC x) (aL x) := hx
 have hy1 : szE (aE y) (aC y) (aL y) := hy
 have e1 : validE (aU x) (aE x) (aC x) (aT x) (aK x) (aL x) = vX x := rfl
 have e2 : validE (aU y) (aE y) (aC y) (aT y) (aK y) (aL y) = vX y := rfl
 rw [decide_eq_true hx1, decide_eq_true hy1, e1, e2, Bool.or_true] at eq
 have z : ∀ {G : Gh} {cv : Value}, joinB x y = false → VRel G (.tup [.agg [.i .i64 0, .lst .full [], .lst .full [], .i .i64 0, .i .i64 0, .lst .full []], .i .i64 100]) cv → VRel G (.tup [labT.val (joinV x y), .si .i64 (joinN x y)]) cv := fun {G cv} hj => by
  unfold joinV joinN
  rw [hj]
  exact tup2 (fun cv h => Ty.ofV_ok (t := labT) (x := zeroL) rfl h) (fun cv h => Ty.ofV_ok (t := ity) (x := (100 : Int)) rfl h) cv
 cases vx : vX x with
 | false =>
  rw [vx] at eq
  exact (of_val cfg32_ok (eq.trans rfl)).weaken fun G cv => z (by unfold joinB; rw [vx]; rfl)
 | true =>
  cases vy : vX y with
  | false =>
   rw [vx, vy] at eq
   exact (of_val cfg32_ok (eq.trans rfl)).weaken fun G cv => z (by unfold joinB; rw [vx, vy]; rfl)
  | true =>
   obtain ⟨lx, lx4⟩ := valid_locks vx
   obtain ⟨ly, ly4⟩ := valid_locks vy
   have hl := unD_len cmpL cbL (aL x) (aL y)
   have hq : ∀ q ∈ unD cmpL cbL (aL x) (aL y), 0 < (kK q).length ∧ (kK q).length ≤ 1000000 :=
    unD_mem (fun a b ha hb => ha) (fun q hq => ⟨locks_pos lx q hq, hx.2.2.2 q hq⟩) (fun q hq => ⟨locks_pos ly q hq, hy.2.2.2 q hq⟩)
   rw [vx, vy, decide_eq_true (show cn_g47 (aE x) (aE y) from ⟨hx.1, hy.1⟩), decide_eq_true (show cn_g50 (aC x) (aC y) from ⟨hx.2.1, hy.2.1⟩), decide_eq_true (show cn_h53 (aL x) (aL y) from ⟨hx.2.2.1, hy.2.2.1, hx.2.2.2, hy.2.2.2⟩),
    decide_eq_true (show pre_jn (Nat.cast (unD cmpL cbL (aL x) (aL y)).length : Int) 0 (if aU y > aU x then aU y else aU x) (unD sgn cbI (aE x) (aE y)) (unD cmpC cbC (aC x) (aC y)) (IntKind.i64.wrap (Nat.cast ((BitVec.ofInt 64 (aT x) &&& BitVec.ofInt 64 (aT y)).toNat) : Int)) (IntKind.i64.wrap (Nat.cast ((BitVec.ofInt 64 (aK x) &&& BitVec.ofInt 64 (aK y)).toNat) : Int)) (unD cmpL cbL (aL x) (aL y)).length (unD cmpL cbL (aL x) (aL y)) from ⟨rfl, rfl, rfl, by omega, hq⟩)] at eq
   by_cases h4 : (unD cmpL cbL (aL x) (aL y)).length ≤ 4
   · rw [decide_eq_false (by omega)] at eq
     refine (of_val cfg32_ok (eq.trans rfl)).weaken fun G cv => ?_
     have hj : joinB x y = true := by
      unfold joinB
      rw [vx, vy, decide_eq_true (show (unL x y).length ≤ 4 from h4)]
      rfl
     have hv : joinV x y = joinT x y := by unfold joinV; rw [hj]; rfl
     have hn : joinN x y = 0 := by unfold joinN; rw [hj]; rfl
     rw [hv, hn]
     refine tup2 (fun cv h => ?_) (fun cv h => Ty.ofV_ok (t := ity) (x := (0 : Int)) rfl h) cv
     have ht : List.take (unD cmpL cbL (aL x) (aL y)).length (List.drop 0 (unD cmpL cbL (aL x) (aL y))) = unD cmpL cbL (aL x) (aL y) := by rw [List.drop_zero, List.take_length]
     rw [ht] at h
     exact h
   · rw [decide_eq_true (by omega : (Nat.cast (unD cmpL cbL (aL x) (aL y)).length : Int) > 4)] at eq
     exact (of_val cfg32_ok (eq.trans rfl)).weaken fun G cv => z (by
      unfold joinB
      rw [vx, vy, decide_eq_false (show ¬ (unL x y).length ≤ 4 from h4)]
      rfl)
def e16 (x y : Ty.den labT) : Option Bool × V := (some (decide (szX x ∧ szX y)), .tup [labT.val (joinV x y), .si .i64 (joinN x y)])
theorem e16_of (x y : Ty.den labT) (h : (e16 x y).1.getD true = true) : SemF Tryd.prog Γ 16 [labT.val x, labT.val y] [] [] (e16 x y).2 [] [] := c16_ok x y (of_decide_eq_true h).1 (of_decide_eq_true h).2
noncomputable def orc33 : Orc := fun f args => if f = 16 then (Ty.ofVs [labT, labT] args).map (fun x => e16 x.1 x.2.1) else orc31 f args
theorem orc33_ok : OrcOk Tryd.prog Γ orc33 := orc31_ok.plain 16 [labT, labT] (fun x => e16 x.1 x.2.1) Tryd.f16 Tryd.func16 rfl (by kernel_rfl) (fun x h => e16_of _ _ h)
noncomputable def cfg33 : Cfg := cfgT T31 isT31 orc33 lo32
theorem cfg33_ok : CfgOk Tryd.prog Γ cfg33 := cfgT_ok T31_ok orc33_ok lo32_ok
def hp_ef : HP := { n := 32, lv := [1, 2, 15, 16, 17], sp := [.ty (.slice lockT), .fn 68 [], .ty (.slice lockT), .ty ity, .ty ity], op := [], bp := [] }
def lve_ef : Ex → List Nat
 | .normal => [1, 2, 15, 16, 17]
 | .ret => [6]
 | .exit 0 => []
 | _ => []
theorem bd_ef : Tryd.f67.body = some (root 67) := by kernel_rfl
theorem le_ef : (loops (root 67))[0]? = some (lp 67 0) := by kernel_rfl
theorem li_ef : Lies (root 67) 1 (lp 67 0) := Lies.of_take (n := 0) (by kernel_rfl)
def st_ef (b a : List (Ty.den lockT)) (n i : Int) : St := hp_ef.st ⟨(b, (), a, n, i, ()), (), ()⟩
noncomputable def rn_ef (b a : List (Ty.den lockT)) (n i : Int) := outa lve_ef (evCK Tryd.prog Γ (cfM Tryd.prog Γ cfg33 30) (cfg33.lo 67) [] 60 1 (lp 67 0) (st_ef b a n i))
theorem rn_ef_eq (b a : List (Ty.den lockT)) (n i : Int) : (rn_ef b a n i).run = (bif decide (i < n) then (bif decide ((0 : Int) ≤ i ∧ i < (a.length : Int)) then (bif decide ((0 : Int) ≤ i ∧ i < (b.length : Int)) then (bif decide ((kK (a.getD i.toNat lockT.dflt)).length ≤ 1000000 ∧ (kK (b.getD i.toNat lockT.dflt)).length ≤ 1000000) then (bif !cmpL (a.getD i.toNat lockT.dflt) (b.getD i.toNat lockT.dflt) == (0 : Int) then (some ((Ex.ret, [V.b false], [], [], 32, 0, 0))) else (some ((Ex.normal, [V.slst .ro lockT b, V.fn (Fn.func (68 : FuncId)) [] [], V.slst .ro lockT a, V.si .i64 n, V.si .i64 (IntKind.i64.wrap (i + (1 : Int)))], [], [], 32, 0, 0)))) else none) else none) else none) else (some ((Ex.exit 0, [], [], [], 32, 0, 0)))) := by kernel_rfl
theorem rn_ef_c (b a : List (Ty.den lockT)) (n i : Int) {e : Ex} {vs : List V} {ob : Ob} {nm : Nm} {n' kh kt : Nat} (h : (rn_ef b a n i).run = some (e, vs, ob, nm, n', kh, kt)) : SemC Tryd.prog Γ (lp 67 0) (st_ef b a n i) e.to (St.of n' (lve_ef e) vs ob nm kh kt) := SemC.of_evM cfg33_ok Tryd.func67 bd_ef li_ef h
def hp_e1 : HP := { n := 26, lv := [0, 1, 12, 13], sp := [.ty (.slice ity), .ty (.slice ity), .ty ity, .ty ity], op := [], bp := [] }
def lve_e1 : Ex → List Nat
 | .normal => [0, 1, 12, 13]
 | .ret => [4]
 | .exit 0 => []
 | _ => []
theorem bd_e1 : Tryd.f69.body = some (root 69) := by kernel_rfl
theorem le_e1 : (loops (root 69))[0]? = some (lp 69 0) := by kernel_rfl
theorem li_e1 : Lies (root 69) 1 (lp 69 0) := Lies.of_take (n := 0) (by kernel_rfl)
def st_e1 (a b : List Int) (n i : Int) : St := hp_e1.st ⟨(a, b, n, i, ()), (), ()⟩
noncomputable def rn_e1 (a b : List Int) (n i : Int) := outa lve_e1 (evCK Tryd.prog Γ (cfM Tryd.prog Γ cfg33 30) (cfg33.lo 69) [] 60 1 (lp 69 0) (st_e1 a b n i))
theorem rn_e1_eq (a b : List Int) (n i : Int) : (rn_e1 a b n i).run = (bif decide (i < n) then (bif decide ((0 : Int) ≤ i ∧ i < (a.length : Int)) then (bif decide ((0 : Int) ≤ i ∧ i < (b.length : Int)) then (bif a.getD i.toNat (0 : Int) != b.getD i.toNat (0 : Int) then (some ((Ex.ret, [V.b false], [], [], 26, 0, 0))) else (some ((Ex.normal, [V.slst .ro ity a, V.slst .ro ity b, V.si .i64 n, V.si .i64 (IntKind.i64.wrap (i + (1 : Int)))], [], [], 26, 0, 0)))) else none) else none) else (some ((Ex.exit 0, [], [], [], 26, 0, 0)))) := by kernel_rfl
theorem rn_e1_c (a b : List Int) (n i : Int) {e : Ex} {vs : List V} {ob : Ob} {nm : Nm} {n' kh kt : Nat} (h : (rn_e1 a b n i).run = some (e, vs, ob, nm, n', kh, kt)) : SemC Tryd.prog Γ (lp 69 0) (st_e1 a b n i) e.to (St.of n' (lve_e1 e) vs ob nm kh kt) := SemC.of_evM cfg33_ok Tryd.func69 bd_e1 li_e1 h
def hp_e2 : HP := { n := 26, lv := [0, 1, 12, 13], sp := [.ty (.slice conf), .ty (.slice conf), .ty ity, .ty ity], op := [], bp := [] }
def lve_e2 : Ex → List Nat
 | .normal => [0, 1, 12, 13]
 | .ret => [4]
 | .exit 0 => []
 | _ => []
theorem bd_e2 : Tryd.f70.body = some (root 70) := by kernel_rfl
theorem le_e2 : (loops (root 70))[0]? = some (lp 70 0) := by kernel_rfl
theorem li_e2 : Lies (root 70) 1 (lp 70 0) := Lies.of_take (n := 0) (by kernel_rfl)
def st_e2 (a b : List (Ty.den conf)) (n i : Int) : St := hp_e2.st ⟨(a, b, n, i, ()), (), ()⟩
noncomputable def rn_e2 (a b : List (Ty.den conf)) (n i : Int) := outa lve_e2 (evCK Tryd.prog Γ (cfM Tryd.prog Γ cfg33 30) (cfg33.lo 70) [] 60 1 (lp 70 0) (st_e2 a b n i))
theorem rn_e2_eq (a b : List (Ty.den conf)) (n i : Int) : (rn_e2 a b n i).run = (bif decide (i < n) then (bif decide ((0 : Int) ≤ i ∧ i < (a.length : Int)) then (bif decide ((0 : Int) ≤ i ∧ i < (b.length : Int)) then (bif !((cF (a.getD i.toNat conf.dflt)) == (cF (b.getD i.toNat conf.dflt)) && ((cC (a.getD i.toNat conf.dflt)) == (cC (b.getD i.toNat conf.dflt)) && true)) then (some ((Ex.ret, [V.b false], [], [], 26, 0, 0))) else (some ((Ex.normal, [V.slst .ro conf a, V.slst .ro conf b, V.si .i64 n, V.si .i64 (IntKind.i64.wrap (i + (1 : Int)))], [], [], 26, 0, 0)))) else none) else none) else (some ((Ex.exit 0, [], [], [], 26, 0, 0)))) := by kernel_rfl
theorem rn_e2_c (a b : List (Ty.den conf)) (n i : Int) {e : Ex} {vs : List V} {ob : Ob} {nm : Nm} {n' kh kt : Nat} (h : (rn_e2 a b n i).run = some (e, vs, ob, nm, n', kh, kt)) : SemC Tryd.prog Γ (lp 70 0) (st_e2 a b n i) e.to (St.of n' (lve_e2 e) vs ob nm kh kt) := SemC.of_evM cfg33_ok Tryd.func70 bd_e2 li_e2 h
def hp_s0 : HP := { n := 89, lv := [2, 3, 5], sp := [.ptr 0 0, .ptr 1 0, .ty ity], op := [.cells [.ty ity, .ty (.slice ity), .ty (.slice conf), .ty ity, .ty ity, .ty (.slice lockT)], .cells [.ty ity, .ty (.slice ity), .ty (.slice conf), .ty ity, .ty ity, .ty (.slice lockT)]], bp := [] }
def lve_s0 : Ex → List Nat
 | .normal => [2, 3, 5]
 | .ret => [4]
 | .exit 0 => [2, 3]
 | _ => []
theorem bd_s0 : Tryd.f18.body = some (root 18) := by kernel_rfl
theorem le_s0 : (loops (root 18))[0]? = some (lp 18 0) := by kernel_rfl
theorem li_s0 : Lies (root 18) 1 (lp 18 0) := Lies.of_take (n := 0) (by kernel_rfl)
def st_s0 (i : Int) (u : Int) (ev : List Int) (co : List (Ty.den conf)) (t c : Int) (l : List (Ty.den lockT)) (uw : Int) (ew : List Int) (cw : List (Ty.den conf)) (tw kw : Int) (lw : List (Ty.den lockT)) : St := hp_s0.st ⟨((), (), i, ()), ((u, ev, co, t, c, l, ()), (uw, ew, cw, tw, kw, lw, ()), ()), ()⟩
noncomputable def rn_s0 (i : Int) (u : Int) (ev : List Int) (co : List (Ty.den conf)) (t c : Int) (l : List (Ty.den lockT)) (uw : Int) (ew : List Int) (cw : List (Ty.den conf)) (tw kw : Int) (lw : List (Ty.den lockT)) := outa lve_s0 (evCK Tryd.prog Γ (cfM Tryd.prog Γ cfg33 30) (cfg33.lo 18) [] 60 1 (lp 18 0) (st_s0 i u ev co t c l uw ew cw tw kw lw))
theorem rn_s0_eq (i : Int) (u : Int) (ev : List Int) (co : List (Ty.den conf)) (t c : Int) (l : List (Ty.den lockT)) (uw : Int) (ew : List Int) (cw : List (Ty.den conf)) (tw kw : Int) (lw : List (Ty.den lockT)) : (rn_s0 i u ev co t c l uw ew cw tw kw lw).run = (bif decide (i < (co.length : Int)) then (bif decide ((0 : Int) ≤ i ∧ i < (co.length : Int)) then (bif decide ((0 : Int) ≤ i ∧ i < (cw.length : Int)) then (bif !((cF (co.getD i.toNat conf.dflt)) == (cF (cw.getD i.toNat conf.dflt)) && ((cC (co.getD i.toNat conf.dflt)) == (cC (cw.getD i.toNat conf.dflt)) && true)) then (some ((Ex.ret, [V.b false], [], [], 89, 0, 0))) else (some ((Ex.normal, [V.ptr 0 0, V.ptr 1 0, V.si .i64 (IntKind.i64.wrap (i + (1 : Int)))], [some [V.si .i64 u, V.slst .ro ity ev, V.slst .ro conf co, V.si .i64 t, V.si .i64 c, V.slst .ro lockT l], some [V.si .i64 uw, V.slst .ro ity ew, V.slst .ro conf cw, V.si .i64 tw, V.si .i64 kw, V.slst .ro lockT lw]], [], 89, 0, 0)))) else none) else none) else (some ((Ex.exit 0, [V.ptr 0 0, V.ptr 1 0], [some [V.si .i64 u, V.slst .ro ity ev, V.slst .ro conf co, V.si .i64 t, V.si .i64 c, V.slst .ro lockT l], some [V.si .i64 uw, V.slst .ro ity ew, V.slst .ro conf cw, V.si .i64 tw, V.si .i64 kw, V.slst .ro lockT lw]], [], 89, 0, 0)))) := by kernel_rfl
theorem rn_s0_c (i : Int) (u : Int) (ev : List Int) (co : List (Ty.den conf)) (t c : Int) (l : List (Ty.den lockT)) (uw : Int) (ew : List Int) (cw : List (Ty.den conf)) (tw kw : Int) (lw : List (Ty.den lockT)) {e : Ex} {vs : List V} {ob : Ob} {nm : Nm} {n' kh kt : Nat} (h : (rn_s0 i u ev co t c l uw ew cw tw kw lw).run = some (e, vs, ob, nm, n', kh, kt)) : SemC Tryd.prog Γ (lp 18 0) (st_s0 i u ev co t c l uw ew cw tw kw lw) e.to (St.of n' (lve_s0 e) vs ob nm kh kt) := SemC.of_evM cfg33_ok Tryd.func18 bd_s0 li_s0 h
def hp_s1 : HP := { n := 89, lv := [2, 3, 6], sp := [.ptr 0 0, .ptr 1 0, .ty ity], op := [.cells [.ty ity, .ty (.slice ity), .ty (.slice conf), .ty ity, .ty ity, .ty (.slice lockT)], .cells [.ty ity, .ty (.slice ity), .ty (.slice conf), .ty ity, .ty ity, .ty (.slice lockT)]], bp := [] }
def lve_s1 : Ex → List Nat
 | .normal => [2, 3, 6]
 | .ret => [4]
 | .exit 2 => []
 | _ => []
theorem bd_s1 : Tryd.f18.body = some (root 18) := by kernel_rfl
theorem le_s1 : (loops (root 18))[1]? = some (lp 18 1) := by kernel_rfl
theorem li_s1 : Lies (root 18) 2 (lp 18 1) := Lies.of_take (n := 0) (by kernel_rfl)
def st_s1 (i : Int) (u : Int) (ev : List Int) (co : List (Ty.den conf)) (t c : Int) (l : List (Ty.den lockT)) (uw : Int) (ew : List Int) (cw : List (Ty.den conf)) (tw kw : Int) (lw : List (Ty.den lockT)) : St := hp_s1.st ⟨((), (), i, ()), ((u, ev, co, t, c, l, ()), (uw, ew, cw, tw, kw, lw, ()), ()), ()⟩
noncomputable def rn_s1 (i : Int) (u : Int) (ev : List Int) (co : List (Ty.den conf)) (t c : Int) (l : List (Ty.den lockT)) (uw : Int) (ew : List Int) (cw : List (Ty.den conf)) (tw kw : Int) (lw : List (Ty.den lockT)) := outa lve_s1 (evCK Tryd.prog Γ (cfM Tryd.prog Γ cfg33 30) (cfg33.lo 18) [] 60 2 (lp 18 1) (st_s1 i u ev co t c l uw ew cw tw kw lw))
theorem rn_s1_eq (i : Int) (u : Int) (ev : List Int) (co : List (Ty.den conf)) (t c : Int) (l : List (Ty.den lockT)) (uw : Int) (ew : List Int) (cw : List (Ty.den conf)) (tw kw : Int) (lw : List (Ty.den lockT)) : (rn_s1 i u ev co t c l uw ew cw tw kw lw).run = (bif decide (i < (l.length : Int)) then (bif decide ((0 : Int) ≤ i ∧ i < (l.length : Int)) then (bif decide ((0 : Int) ≤ i ∧ i < (lw.length : Int)) then (bif (some (!(kN (l.getD i.toNat lockT.dflt)) == (kN (lw.getD i.toNat lockT.dflt)) || decide (List.length (kK (l.getD i.toNat lockT.dflt)) ≤ 1000000 ∧ List.length (kK (lw.getD i.toNat lockT.dflt)) ≤ 1000000))).getD true then (bif !bif (kN (l.getD i.toNat lockT.dflt)) == (kN (lw.getD i.toNat lockT.dflt)) then rcmp (kK (l.getD i.toNat lockT.dflt)) (kK (lw.getD i.toNat lockT.dflt)) == (0 : Int) else false then (some ((Ex.ret, [V.b false], [], [], 89, 0, 0))) else (some ((Ex.normal, [V.ptr 0 0, V.ptr 1 0, V.si .i64 (IntKind.i64.wrap (i + (1 : Int)))], [some [V.si .i64 u, V.slst .ro ity ev, V.slst .ro conf co, V.si .i64 t, V.si .i64 c, V.slst .ro lockT l], some [V.si .i64 uw, V.slst .ro ity ew, V.slst .ro conf cw, V.si .i64 tw, V.si .i64 kw, V.slst .ro lockT lw]], [], 89, 0, 0)))) else none) else none) else none) else (some ((Ex.exit 2, [], [], [], 89, 0, 0)))) := by kernel_rfl
theorem rn_s1_c (i : Int) (u : Int) (ev : List Int) (co : List (Ty.den conf)) (t c : Int) (l : List (Ty.den lockT)) (uw : Int) (ew : List Int) (cw : List (Ty.den conf)) (tw kw : Int) (lw : List (Ty.den lockT)) {e : Ex} {vs : List V} {ob : Ob} {nm : Nm} {n' kh kt : Nat} (h : (rn_s1 i u ev co t c l uw ew cw tw kw lw).run = some (e, vs, ob, nm, n', kh, kt)) : SemC Tryd.prog Γ (lp 18 1) (st_s1 i u ev co t c l uw ew cw tw kw lw) e.to (St.of n' (lve_s1 e) vs ob nm kh kt) := SemC.of_evM cfg33_ok Tryd.func18 bd_s1 li_s1 h
def hp_cq : HP := { n := 19, lv := [0, 1, 7, 8], sp := [.ty (.slice lockT), .fn 66 [.pel lockT], .ty ity, .ty ity], op := [], bp := [] }
def lve_cq : Ex → List Nat
 | .normal => [0, 1, 7, 8]
 | .ret => [4]
 | .exit 0 => []
 | _ => []
theorem bd_cq : Tryd.f82.body = some (root 82) := by kernel_rfl
theorem li_cq : Lies (root 82) 1 (lp 82 0) := Lies.of_take (n := 0) (by kernel_rfl)
def st_cq (a : List (Ty.den lockT)) (q : Ty.den lockT) (n i : Int) : St := hp_cq.st ⟨(a, (q, ()), n, i, ()), (), ()⟩
noncomputable def rn_cq (a : List (Ty.den lockT)) (q : Ty.den lockT) (n i : Int) := outa lve_cq (evCK Tryd.prog Γ (cfM Tryd.prog Γ cfg33 30) (cfg33.lo 82) [] 60 1 (lp 82 0) (st_cq a q n i))
theorem rn_cq_eq (a : List (Ty.den lockT)) (q : Ty.den lockT) (n i : Int) : (rn_cq a q n i).run = (bif decide (i < n) then (bif decide ((0 : Int) ≤ i ∧ i < (a.length : Int)) then (bif decide ((kK (a.getD i.toNat lockT.dflt)).length ≤ 1000000 ∧ (kK q).length ≤ 1000000) then (bif cmpL (a.getD i.toNat lockT.dflt) q == (0 : Int) then (some ((Ex.ret, [V.si .i64 i], [], [], 19, 0, 0))) else (some ((Ex.normal, [V.slst .ro lockT a, V.fn (Fn.func (66 : FuncId)) [] [V.pel [V.agg [V.si .i64 q.fst, V.slst .ro ity q.snd.fst]] (0 : Nat) (0 : Nat)], V.si .i64 n, V.si .i64 (IntKind.i64.wrap (i + (1 : Int)))], [], [], 19, 0, 0)))) else none) else none) else (some ((Ex.exit 0, [], [], [], 19, 0, 0)))) := by kernel_rfl
theorem rn_cq_c (a : List (Ty.den lockT)) (q : Ty.den lockT) (n i : Int) {e : Ex} {vs : List V} {ob : Ob} {nm : Nm} {n' kh kt : Nat} (h : (rn_cq a q n i).run = some (e, vs, ob, nm, n', kh, kt)) : SemC Tryd.prog Γ (lp 82 0) (st_cq a q n i) e.to (St.of n' (lve_cq e) vs ob nm kh kt) := SemC.of_evM cfg33_ok Tryd.func82 bd_cq li_cq h
end L
end Go.Proofs.YthjiodeaepigmaaDoor

/- Package label: what the loops of Same, EqualFunc, Equal, ContainsFunc leave; DeleteFunc of locks, printed. -/
set_option linter.unusedVariables false
set_option linter.unusedSimpArgs false
set_option maxRecDepth 100000
set_option maxHeartbeats 4000000
namespace Go.Proofs.YthjiodeaepigmaaDoor
open Go
namespace L
theorem scan_all {b : Code} (n : Nat) (p : Nat → Bool) (emb : Nat → St) (stR stE : St) (k : Nat) (hn : ∀ i, i < n → p i = true → SemC Tryd.prog Γ b (emb i) .normal (emb (i + 1))) (hr : ∀ i, i < n → p i = false → SemC Tryd.prog Γ b (emb i) .ret stR) (he : SemC Tryd.prog Γ b (emb n) (.exit k) stE) :
 SemL Tryd.prog Γ b (emb 0) (if allI n p = true then (Ex.exit k, stE) else (Ex.ret, stR)).1.to (if allI n p = true then (Ex.exit k, stE) else (Ex.ret, stR)).2 := by
 refine SemL.scan n 0 (Nat.zero_le _) emb p _ ?_ ?_ ?_
 · intro i _ hi _ hp
   exact hn i hi hp
 · intro i _ hi _ hp
   rw [if_neg (by rw [allI_false hi hp]; decide)]
   exact ⟨by simp [Ex.to], hr i hi hp⟩
 · intro h
   rw [if_pos (allI_true.2 fun i hi => h i (Nat.zero_le _) hi)]
   exact ⟨by simp [Ex.to], he⟩
def eqI {α : Type} (c : α → α → Bool) (d : α) (a b : List α) : Bool := allI a.length fun i => c (a.getD i d) (b.getD i d)
def beqL (x y : Ty.den lockT) : Bool := cmpL x y == (0 : Int)
def beqC (x y : Ty.den conf) : Bool := cF x == cF y && (cC x == cC y && true)
def beqR (x y : Ty.den lockT) : Bool := bif kN x == kN y then rcmp (kK x) (kK y) == (0 : Int) else false
abbrev pre_ef (b a : List (Ty.den lockT)) (n i : Int) : Prop := n = (a.length : Int) ∧ i = 0 ∧ a.length = b.length ∧ szL a ∧ szL b
def rs_ef (b a : List (Ty.den lockT)) (n i : Int) : Ex × St := if eqI beqL lockT.dflt a b = true then (.exit 0, St.of 32 (lve_ef (.exit 0)) [] [] [] hp_ef.kh hp_ef.kt) else (.ret, St.of 32 (lve_ef (.ret)) [.b false] [] [] hp_ef.kh hp_ef.kt)
def res_ef (b a : List (Ty.den lockT)) (n i : Int) : Tr (Ex × St) := .br (decide (pre_ef b a n i)) (.br (decide (eqI beqL lockT.dflt a b = true)) (.leaf (some (.exit 0, St.of 32 (lve_ef (.exit 0)) [] [] [] hp_ef.kh hp_ef.kt))) (.leaf (some (.ret, St.of 32 (lve_ef (.ret)) [.b false] [] [] hp_ef.kh hp_ef.kt)))) (.leaf none)
def ent_ef : LEnt := LEnt.by hp_ef fun ⟨(b, _, a, n, i, _), _, _⟩ => res_ef b a n i
theorem ent_ef_ok (hgo : ∀ (b a : List (Ty.den lockT)) (n i : Int), pre_ef b a n i → SemL Tryd.prog Γ (lp 67 0) (st_ef b a n i) (rs_ef b a n i).1.to (rs_ef b a n i).2) : EntOk Tryd.prog Γ (lp 67 0) ent_ef := LEnt.by_ok fun ⟨(b, _, a, n, i, _), _, _⟩ _ _ h_ => SemL.br (out := rs_ef b a n i) (Tr.run_ite rfl rfl) (hgo b a n i) h_
theorem ef_go (b a : List (Ty.den lockT)) (n i : Int) (h : pre_ef b a n i) : SemL Tryd.prog Γ (lp 67 0) (st_ef b a n i) (rs_ef b a n i).1.to (rs_ef b a n i).2 := by
 obtain ⟨rfl, rfl, hab, ha, hb⟩ := h
 have hla := ha.1
 have hk : ∀ i, i < a.length → (kK (a.getD i lockT.dflt)).length ≤ 1000000 ∧ (kK (b.getD i lockT.dflt)).length ≤ 1000000 := fun i hi => ⟨ha.2 _ (getD_mem hi lockT.dflt), hb.2 _ (getD_mem (hab ▸ hi) lockT.dflt)⟩
 refine scan_all a.length (fun i => beqL (a.getD i lockT.dflt) (b.getD i lockT.dflt)) (fun i => st_ef b a a.length (i : Nat)) _ _ 0 (fun i hi hp => ?_) (fun i hi hp => ?_) ?_
 · refine rn_ef_c b a a.length i (e := .normal) ?_
   have hw : IntKind.i64.wrap ((i : Int) + 1) = ((i + 1 : Nat) : Int) := by rw [wrap_in (by omega) (by omega)]; rfl
   rw [rn_ef_eq, hw, decide_eq_true (by omega : (i : Int) < a.length), decide_eq_true (by omega : (0 : Int) ≤ (i : Int) ∧ (i : Int) < a.length), decide_eq_true (by omega : (0 : Int) ≤ (i : Int) ∧ (i : Int) < b.length), Int.toNat_natCast, decide_eq_true (hk i hi)]
   unfold beqL at hp
   rw [hp]
   rfl
 · refine rn_ef_c b a a.length i (e := .ret) ?_
   rw [rn_ef_eq, decide_eq_true (by omega : (i : Int) < a.length), decide_eq_true (by omega : (0 : Int) ≤ (i : Int) ∧ (i : Int) < a.length), decide_eq_true (by omega : (0 : Int) ≤ (i : Int) ∧ (i : Int) < b.length), Int.toNat_natCast, decide_eq_true (hk i hi)]
   unfold beqL at hp
   rw [hp]
   rfl
 · refine rn_ef_c b a a.length a.length (e := .exit 0) ?_
   rw [rn_ef_eq, decide_eq_false (by omega)]
   rfl
abbrev pre_e1 (a b : List Int) (n i : Int) : Prop := n = (a.length : Int) ∧ i = 0 ∧ a.length = b.length ∧ a.length ≤ 1000000
def rs_e1 (a b : List Int) (n i : Int) : Ex × St := if eqI (fun x y => x == y) 0 a b = true then (.exit 0, St.of 26 (lve_e1 (.exit 0)) [] [] [] hp_e1.kh hp_e1.kt) else (.ret, St.of 26 (lve_e1 (.ret)) [.b false] [] [] hp_e1.kh hp_e1.kt)
def res_e1 (a b : List Int) (n i : Int) : Tr (Ex × St) := .br (decide (pre_e1 a b n i)) (.br (decide (eqI (fun x y => x == y) 0 a b = true)) (.leaf (some (.exit 0, St.of 26 (lve_e1 (.exit 0)) [] [] [] hp_e1.kh hp_e1.kt))) (.leaf (some (.ret, St.of 26 (lve_e1 (.ret)) [.b false] [] [] hp_e1.kh hp_e1.kt)))) (.leaf none)
def ent_e1 : LEnt := LEnt.by hp_e1 fun ⟨(a, b, n, i, _), _, _⟩ => res_e1 a b n i
theorem ent_e1_ok (hgo : ∀ (a b : List Int) (n i : Int), pre_e1 a b n i → SemL Tryd.prog Γ (lp 69 0) (st_e1 a b n i) (rs_e1 a b n i).1.to (rs_e1 a b n i).2) : EntOk Tryd.prog Γ (lp 69 0) ent_e1 := LEnt.by_ok fun ⟨(a, b, n, i, _), _, _⟩ _ _ h_ => SemL.br (out := rs_e1 a b n i) (Tr.run_ite rfl rfl) (hgo a b n i) h_
theorem e1_go (a b : List Int) (n i : Int) (h : pre_e1 a b n i) : SemL Tryd.prog Γ (lp 69 0) (st_e1 a b n i) (rs_e1 a b n i).1.to (rs_e1 a b n i).2 := by
 obtain ⟨rfl, rfl, hab, hla⟩ := h
 refine scan_all a.length (fun i => a.getD i 0 == b.getD i 0) (fun i => st_e1 a b a.length (i : Nat)) _ _ 0 (fun i hi hp => ?_) (fun i hi hp => ?_) ?_
 · refine rn_e1_c a b a.length i (e := .normal) ?_
   have hw : IntKind.i64.wrap ((i : Int) + 1) = ((i + 1 : Nat) : Int) := by rw [wrap_in (by omega) (by omega)]; rfl
   have hb : (a.getD i 0 != b.getD i 0) = false := by show (!(a.getD i 0 == b.getD i 0)) = false; rw [hp]; rfl
   rw [rn_e1_eq, hw, decide_eq_true (by omega : (i : Int) < a.length), decide_eq_true (by omega : (0 : Int) ≤ (i : Int) ∧ (i : Int) < a.length), decide_eq_true (by omega : (0 : Int) ≤ (i : Int) ∧ (i : Int) < b.length), Int.toNat_natCast, hb]
   rfl
 · refine rn_e1_c a b a.length i (e := .ret) ?_
   have hb : (a.getD i 0 != b.getD i 0) = true := by show (!(a.getD i 0 == b.getD i 0)) = true; rw [hp]; rfl
   rw [rn_e1_eq, decide_eq_true (by omega : (i : Int) < a.length), decide_eq_true (by omega : (0 : Int) ≤ (i : Int) ∧ (i : Int) < a.length), decide_eq_true (by omega : (0 : Int) ≤ (i : Int) ∧ (i : Int) < b.length), Int.toNat_natCast, hb]
   rfl
 · refine rn_e1_c a b a.length a.length (e := .exit 0) ?_
   rw [rn_e1_eq, decide_eq_false (by omega)]
   rfl
abbrev pre_e2 (a b : List (Ty.den conf)) (n i : Int) : Prop := n = (a.length : Int) ∧ i = 0 ∧ a.length = b.length ∧ a.length ≤ 1000000
def rs_e2 (a b : List (Ty.den conf)) (n i : Int) : Ex × St := if eqI beqC conf.dflt a b = true then (.exit 0, St.of 26 (lve_e2 (.exit 0)) [] [] [] hp_e2.kh hp_e2.kt) else (.ret, St.of 26 (lve_e2 (.ret)) [.b false] [] [] hp_e2.kh hp_e2.kt)
def res_e2 (a b : List (Ty.den conf)) (n i : Int) : Tr (Ex × St) := .br (decide (pre_e2 a b n i)) (.br (decide (eqI beqC conf.dflt a b = true)) (.leaf (some (.exit 0, St.of 26 (lve_e2 (.exit 0)) [] [] [] hp_e2.kh hp_e2.kt))) (.leaf (some (.ret, St.of 26 (lve_e2 (.ret)) [.b false] [] [] hp_e2.kh hp_e2.kt)))) (.leaf none)
def ent_e2 : LEnt := LEnt.by hp_e2 fun ⟨(a, b, n, i, _), _, _⟩ => res_e2 a b n i
theorem ent_e2_ok (hgo : ∀ (a b : List (Ty.den conf)) (n i : Int), pre_e2 a b n i → SemL Tryd.prog Γ (lp 70 0) (st_e2 a b n i) (rs_e2 a b n i).1.to (rs_e2 a b n i).2) : EntOk Tryd.prog Γ (lp 70 0) ent_e2 := LEnt.by_ok fun ⟨(a, b, n, i, _), _, _⟩ _ _ h_ => SemL.br (out := rs_e2 a b n i) (Tr.run_ite rfl rfl) (hgo a b n i) h_
theorem e2_go (a b : List (Ty.den conf)) (n i : Int) (h : pre_e2 a b n i) : SemL Tryd.prog Γ (lp 70 0) (st_e2 a b n i) (rs_e2 a b n i).1.to (rs_e2 a b n i).2 := by
 obtain ⟨rfl, rfl, hab, hla⟩ := h
 refine scan_all a.length (fun i => beqC (a.getD i conf.dflt) (b.getD i conf.dflt)) (fun i => st_e2 a b a.length (i : Nat)) _ _ 0 (fun i hi hp => ?_) (fun i hi hp => ?_) ?_
 · refine rn_e2_c a b a.length i (e := .normal) ?_
   have hw : IntKind.i64.wrap ((i : Int) + 1) = ((i + 1 : Nat) : Int) := by rw [wrap_in (by omega) (by omega)]; rfl
   rw [rn_e2_eq, hw, decide_eq_true (by omega : (i : Int) < a.length), decide_eq_true (by omega : (0 : Int) ≤ (i : Int) ∧ (i : Int) < a.length), decide_eq_true (by omega : (0 : Int) ≤ (i : Int) ∧ (i : Int) < b.length), Int.toNat_natCast]
   unfold beqC at hp
   rw [hp]
   rfl
 · refine rn_e2_c a b a.length i (e := .ret) ?_
   rw [rn_e2_eq, decide_eq_true (by omega : (i : Int) < a.length), decide_eq_true (by omega : (0 : Int) ≤ (i : Int) ∧ (i : Int) < a.length), decide_eq_true (by omega : (0 : Int) ≤ (i : Int) ∧ (i : Int) < b.length), Int.toNat_natCast]
   unfold beqC at hp
   rw [hp]
   rfl
 · refine rn_e2_c a b a.length a.length (e := .exit 0) ?_
   rw [rn_e2_eq, decide_eq_false (by omega)]
   rfl
abbrev pre_s0 (i : Int) (u : Int) (ev : List Int) (co : List (Ty.den conf)) (t c : Int) (l : List (Ty.den lockT)) (uw : Int) (ew : List Int) (cw : List (Ty.den conf)) (tw kw : Int) (lw : List (Ty.den lockT)) : Prop := i = 0 ∧ co.length = cw.length ∧ co.length ≤ 1000000
def rs_s0 (i : Int) (u : Int) (ev : List Int) (co : List (Ty.den conf)) (t c : Int) (l : List (Ty.den lockT)) (uw : Int) (ew : List Int) (cw : List (Ty.den conf)) (tw kw : Int) (lw : List (Ty.den lockT)) : Ex × St := if eqI beqC conf.dflt co cw = true then (.exit 0, St.of 89 (lve_s0 (.exit 0)) [.ptr 0 0, .ptr 1 0] [some [.si .i64 u, .slst .ro ity ev, .slst .ro conf co, .si .i64 t, .si .i64 c, .slst .ro lockT l], some [.si .i64 uw, .slst .ro ity ew, .slst .ro conf cw, .si .i64 tw, .si .i64 kw, .slst .ro lockT lw]] [] hp_s0.kh hp_s0.kt) else (.ret, St.of 89 (lve_s0 (.ret)) [.b false] [] [] hp_s0.kh hp_s0.kt)
def res_s0 (i : Int) (u : Int) (ev : List Int) (co : List (Ty.den conf)) (t c : Int) (l : List (Ty.den lockT)) (uw : Int) (ew : List Int) (cw : List (Ty.den conf)) (tw kw : Int) (lw : List (Ty.den lockT)) : Tr (Ex × St) := .br (decide (pre_s0 i u ev co t c l uw ew cw tw kw lw)) (.br (decide (eqI beqC conf.dflt co cw = true)) (.leaf (some (.exit 0, St.of 89 (lve_s0 (.exit 0)) [.ptr 0 0, .ptr 1 0] [some [.si .i64 u, .slst .ro ity ev, .slst .ro conf co, .si .i64 t, .si .i64 c, .slst .ro lockT l], some [.si .i64 uw, .slst .ro ity ew, .slst .ro conf cw, .si .i64 tw, .si .i64 kw, .slst .ro lockT lw]] [] hp_s0.kh hp_s0.kt))) (.leaf (some (.ret, St.of 89 (lve_s0 (.ret)) [.b false] [] [] hp_s0.kh hp_s0.kt)))) (.leaf none)
def ent_s0 : LEnt := LEnt.by hp_s0 fun ⟨(_, _, i, _), ((u, ev, co, t, c, l, _), (uw, ew, cw, tw, kw, lw, _), _), _⟩ => res_s0 i u ev co t c l uw ew cw tw kw lw
theorem ent_s0_ok (hgo : ∀ (i : Int) (u : Int) (ev : List Int) (co : List (Ty.den conf)) (t c : Int) (l : List (Ty.den lockT)) (uw : Int) (ew : List Int) (cw : List (Ty.den conf)) (tw kw : Int) (lw : List (Ty.den lockT)), pre_s0 i u ev co t c l uw ew cw tw kw lw → SemL Tryd.prog Γ (lp 18 0) (st_s0 i u ev co t c l uw ew cw tw kw lw) (rs_s0 i u ev co t c l uw ew cw tw kw lw).1.to (rs_s0 i u ev co t c l uw ew cw tw kw lw).2) : EntOk Tryd.prog Γ (lp 18 0) ent_s0 := LEnt.by_ok fun ⟨(_, _, i, _), ((u, ev, co, t, c, l, _), (uw, ew, cw, tw, kw, lw, _), _), _⟩ _ _ h_ => SemL.br (out := rs_s0 i u ev co t c l uw ew cw tw kw lw) (Tr.run_ite rfl rfl) (hgo i u ev co t c l uw ew cw tw kw lw) h_
theorem s0_go (i : Int) (u : Int) (ev : List Int) (co : List (Ty.den conf)) (t c : Int) (l : List (Ty.den lockT)) (uw : Int) (ew : List Int) (cw : List (Ty.den conf)) (tw kw : Int) (lw : List (Ty.den lockT)) (h : pre_s0 i u ev co t c l uw ew cw tw kw lw) : SemL Tryd.prog Γ (lp 18 0) (st_s0 i u ev co t c l uw ew cw tw kw lw) (rs_s0 i u ev co t c l uw ew cw tw kw lw).1.to (rs_s0 i u ev co t c l uw ew cw tw kw lw).2 := by
 obtain ⟨rfl, hab, hla⟩ := h
 refine scan_all co.length (fun i => beqC (co.getD i conf.dflt) (cw.getD i conf.dflt)) (fun i => st_s0 (i : Nat) u ev co t c l uw ew cw tw kw lw) _ _ 0 (fun i hi hp => ?_) (fun i hi hp => ?_) ?_
 · refine rn_s0_c i u ev co t c l uw ew cw tw kw lw (e := .normal) ?_
   have hw : IntKind.i64.wrap ((i : Int) + 1) = ((i + 1 : Nat) : Int) := by rw [wrap_in (by omega) (by omega)]; rfl
   rw [rn_s0_eq, hw, decide_eq_true (by omega : (i : Int) < co.length), decide_eq_true (by omega : (0 : Int) ≤ (i : Int) ∧ (i : Int) < co.length), decide_eq_true (by omega : (0 : Int) ≤ (i : Int) ∧ (i : Int) < cw.length), Int.toNat_natCast]
   unfold beqC at hp
   rw [hp]
   rfl
 · refine rn_s0_c i u ev co t c l uw ew cw tw kw lw (e := .ret) ?_
   rw [rn_s0_eq, decide_eq_true (by omega : (i : Int) < co.length), decide_eq_true (by omega : (0 : Int) ≤ (i : Int) ∧ (i : Int) < co.length), decide_eq_true (by omega : (0 : Int) ≤ (i : Int) ∧ (i : Int) < cw.length), Int.toNat_natCast]
   unfold beqC at hp
   rw [hp]
   rfl
 · refine rn_s0_c co.length u ev co t c l uw ew cw tw kw lw (e := .exit 0) ?_
   rw [rn_s0_eq, decide_eq_false (by omega)]
   rfl
abbrev pre_s1 (i : Int) (u : Int) (ev : List Int) (co : List (Ty.den conf)) (t c : Int) (l : List (Ty.den lockT)) (uw : Int) (ew : List Int) (cw : List (Ty.den conf)) (tw kw : Int) (lw : List (Ty.den lockT)) : Prop := i = 0 ∧ l.length = lw.length ∧ szL l ∧ szL lw
def rs_s1 (i : Int) (u : Int) (ev : List Int) (co : List (Ty.den conf)) (t c : Int) (l : List (Ty.den lockT)) (uw : Int) (ew : List Int) (cw : List (Ty.den conf)) (tw kw : Int) (lw : List (Ty.den lockT)) : Ex × St := if eqI beqR lockT.dflt l lw = true then (.exit 2, St.of 89 (lve_s1 (.exit 2)) [] [] [] hp_s1.kh hp_s1.kt) else (.ret, St.of 89 (lve_s1 (.ret)) [.b false] [] [] hp_s1.kh hp_s1.kt)
def res_s1 (i : Int) (u : Int) (ev : List Int) (co : List (Ty.den conf)) (t c : Int) (l : List (Ty.den lockT)) (uw : Int) (ew : List Int) (cw : List (Ty.den conf)) (tw kw : Int) (lw : List (Ty.den lockT)) : Tr (Ex × St) := .br (decide (pre_s1 i u ev co t c l uw ew cw tw kw lw)) (.br (decide (eqI beqR lockT.dflt l lw = true)) (.leaf (some (.exit 2, St.of 89 (lve_s1 (.exit 2)) [] [] [] hp_s1.kh hp_s1.kt))) (.leaf (some (.ret, St.of 89 (lve_s1 (.ret)) [.b false] [] [] hp_s1.kh hp_s1.kt)))) (.leaf none)
def ent_s1 : LEnt := LEnt.by hp_s1 fun ⟨(_, _, i, _), ((u, ev, co, t, c, l, _), (uw, ew, cw, tw, kw, lw, _), _), _⟩ => res_s1 i u ev co t c l uw ew cw tw kw lw
theorem ent_s1_ok (hgo : ∀ (i : Int) (u : Int) (ev : List Int) (co : List (Ty.den conf)) (t c : Int) (l : List (Ty.den lockT)) (uw : Int) (ew : List Int) (cw : List (Ty.den conf)) (tw kw : Int) (lw : List (Ty.den lockT)), pre_s1 i u ev co t c l uw ew cw tw kw lw → SemL Tryd.prog Γ (lp 18 1) (st_s1 i u ev co t c l uw ew cw tw kw lw) (rs_s1 i u ev co t c l uw ew cw tw kw lw).1.to (rs_s1 i u ev co t c l uw ew cw tw kw lw).2) : EntOk Tryd.prog Γ (lp 18 1) ent_s1 := LEnt.by_ok fun ⟨(_, _, i, _), ((u, ev, co, t, c, l, _), (uw, ew, cw, tw, kw, lw, _), _), _⟩ _ _ h_ => SemL.br (out := rs_s1 i u ev co t c l uw ew cw tw kw lw) (Tr.run_ite rfl rfl) (hgo i u ev co t c l uw ew cw tw kw lw) h_
theorem s1_go (i : Int) (u : Int) (ev : List Int) (co : List (Ty.den conf)) (t c : Int) (l : List (Ty.den lockT)) (uw : Int) (ew : List Int) (cw : List (Ty.den conf)) (tw kw : Int) (lw : List (Ty.den lockT)) (h : pre_s1 i u ev co t c l uw ew cw tw kw lw) : SemL Tryd.prog Γ (lp 18 1) (st_s1 i u ev co t c l uw ew cw tw kw lw) (rs_s1 i u ev co t c l uw ew cw tw kw lw).1.to (rs_s1 i u ev co t c l uw ew cw tw kw lw).2 := by
 obtain ⟨rfl, hab, ha, hb⟩ := h
 have hla := ha.1
 have hk : ∀ i, i < l.length → (some (!(kN (l.getD i lockT.dflt)) == (kN (lw.getD i lockT.dflt)) || decide ((kK (l.getD i lockT.dflt)).length ≤ 1000000 ∧ (kK (lw.getD i lockT.dflt)).length ≤ 1000000))).getD true = true := fun i hi => by
  rw [decide_eq_true ⟨ha.2 _ (getD_mem hi lockT.dflt), hb.2 _ (getD_mem (hab ▸ hi) lockT.dflt)⟩, Bool.or_true]; rfl
 refine scan_all l.length (fun i => beqR (l.getD i lockT.dflt) (lw.getD i lockT.dflt)) (fun i => st_s1 (i : Nat) u ev co t c l uw ew cw tw kw lw) _ _ 2 (fun i hi hp => ?_) (fun i hi hp => ?_) ?_
 · refine rn_s1_c i u ev co t c l uw ew cw tw kw lw (e := .normal) ?_
   have hw : IntKind.i64.wrap ((i : Int) + 1) = ((i + 1 : Nat) : Int) := by rw [wrap_in (by omega) (by omega)]; rfl
   rw [rn_s1_eq, hw, decide_eq_true (by omega : (i : Int) < l.length), decide_eq_true (by omega : (0 : Int) ≤ (i : Int) ∧ (i : Int) < l.length), decide_eq_true (by omega : (0 : Int) ≤ (i : Int) ∧ (i : Int) < lw.length), Int.toNat_natCast, hk i hi]
   unfold beqR at hp
   rw [hp]
   rfl
 · refine rn_s1_c i u ev co t c l uw ew cw tw kw lw (e := .ret) ?_
   rw [rn_s1_eq, decide_eq_true (by omega : (i : Int) < l.length), decide_eq_true (by omega : (0 : Int) ≤ (i : Int) ∧ (i : Int) < l.length), decide_eq_true (by omega : (0 : Int) ≤ (i : Int) ∧ (i : Int) < lw.length), Int.toNat_natCast, hk i hi]
   unfold beqR at hp
   rw [hp]
   rfl
 · refine rn_s1_c l.length u ev co t c l uw ew cw tw kw lw (e := .exit 2) ?_
   rw [rn_s1_eq, decide_eq_false (by omega)]
   rfl
abbrev pre_cq (a : List (Ty.den lockT)) (q : Ty.den lockT) (n i : Int) : Prop := n = (a.length : Int) ∧ i = 0 ∧ szL a ∧ (kK q).length ≤ 1000000
def rs_cq (a : List (Ty.den lockT)) (q : Ty.den lockT) (n i : Int) : Ex × St := if a.findIdx (fun p => beqL p q) < a.length then (.ret, St.of 19 (lve_cq (.ret)) [.si .i64 (a.findIdx (fun p => beqL p q) : Nat)] [] [] hp_cq.kh hp_cq.kt) else (.exit 0, St.of 19 (lve_cq (.exit 0)) [] [] [] hp_cq.kh hp_cq.kt)
def res_cq (a : List (Ty.den lockT)) (q : Ty.den lockT) (n i : Int) : Tr (Ex × St) := .br (decide (pre_cq a q n i)) (.br (decide (a.findIdx (fun p => beqL p q) < a.length)) (.leaf (some (.ret, St.of 19 (lve_cq (.ret)) [.si .i64 (a.findIdx (fun p => beqL p q) : Nat)] [] [] hp_cq.kh hp_cq.kt))) (.leaf (some (.exit 0, St.of 19 (lve_cq (.exit 0)) [] [] [] hp_cq.kh hp_cq.kt)))) (.leaf none)
def ent_cq : LEnt := LEnt.by hp_cq fun ⟨(a, (q, _), n, i, _), _, _⟩ => res_cq a q n i
theorem ent_cq_ok (hgo : ∀ (a : List (Ty.den lockT)) (q : Ty.den lockT) (n i : Int), pre_cq a q n i → SemL Tryd.prog Γ (lp 82 0) (st_cq a q n i) (rs_cq a q n i).1.to (rs_cq a q n i).2) : EntOk Tryd.prog Γ (lp 82 0) ent_cq := LEnt.by_ok fun ⟨(a, (q, _), n, i, _), _, _⟩ _ _ h_ => SemL.br (out := rs_cq a q n i) (Tr.run_ite rfl rfl) (hgo a q n i) h_
theorem cq_go (a : List (Ty.den lockT)) (q : Ty.den lockT) (n i : Int) (h : pre_cq a q n i) : SemL Tryd.prog Γ (lp 82 0) (st_cq a q n i) (rs_cq a q n i).1.to (rs_cq a q n i).2 := by
 obtain ⟨rfl, rfl, ha, hq⟩ := h
 have hla := ha.1
 refine scan_find a lockT.dflt (fun p => beqL p q) (fun i => st_cq a q a.length (i : Nat)) (fun i => St.of 19 (lve_cq .ret) [.si .i64 (i : Nat)] [] [] 0 0) _ 0 (fun i hi hp => ?_) (fun i hi hp => ?_) ?_
 · refine rn_cq_c a q a.length i (e := .normal) ?_
   have hw : IntKind.i64.wrap ((i : Int) + 1) = ((i + 1 : Nat) : Int) := by rw [wrap_in (by omega) (by omega)]; rfl
   have hp : (cmpL (a.getD i lockT.dflt) q == (0 : Int)) = false := hp
   rw [rn_cq_eq, hw, decide_eq_true (by omega : (i : Int) < a.length), decide_eq_true (by omega : (0 : Int) ≤ (i : Int) ∧ (i : Int) < a.length), Int.toNat_natCast, decide_eq_true (And.intro (ha.2 _ (getD_mem hi lockT.dflt)) hq), hp]
   rfl
 · refine rn_cq_c a q a.length i (e := .ret) ?_
   have hp : (cmpL (a.getD i lockT.dflt) q == (0 : Int)) = true := hp
   rw [rn_cq_eq, decide_eq_true (by omega : (i : Int) < a.length), decide_eq_true (by omega : (0 : Int) ≤ (i : Int) ∧ (i : Int) < a.length), Int.toNat_natCast, decide_eq_true (And.intro (ha.2 _ (getD_mem hi lockT.dflt)) hq), hp]
   rfl
 · refine rn_cq_c a q a.length a.length (e := .exit 0) ?_
   rw [rn_cq_eq, decide_eq_false (by omega)]
   rfl
def lo34a : LOrc := (LOrc.add (LOrc.add (LOrc.add (LOrc.add (LOrc.add lo32 67 0 ent_ef) 69 0 ent_e1) 70 0 ent_e2) 18 0 ent_s0) 18 1 ent_s1)
theorem lo34a_ok : LOrcOk Tryd.prog Γ lo34a := (LOrcOk.add (LOrcOk.add (LOrcOk.add (LOrcOk.add (LOrcOk.add lo32_ok 67 0 Tryd.func67 bd_ef le_ef (ent_ef_ok ef_go)) 69 0 Tryd.func69 bd_e1 le_e1 (ent_e1_ok e1_go)) 70 0 Tryd.func70 bd_e2 le_e2 (ent_e2_ok e2_go)) 18 0 Tryd.func18 bd_s0 le_s0 (ent_s0_ok s0_go)) 18 1 Tryd.func18 bd_s1 le_s1 (ent_s1_ok s1_go))
def lo34 : LOrc := LOrc.add lo34a 82 0 (LEnt.or ent_lq ent_cq)
theorem lo34_ok : LOrcOk Tryd.prog Γ lo34 := LOrcOk.add lo34a_ok 82 0 Tryd.func82 bd_lq le_lq (LEnt.or_ok (ent_lq_ok lq_go) (ent_cq_ok cq_go) rfl rfl)
noncomputable def cfg34 : Cfg := cfgT T31 isT31 orc33 lo34
theorem cfg34_ok : CfgOk Tryd.prog Γ cfg34 := cfgT_ok T31_ok orc33_ok lo34_ok
theorem c21_run (u : Int) (ev : List Int) (co : List (Ty.den conf)) (t c : Int) (l : List (Ty.den lockT)) (uw : Int) (ew : List Int) (cw : List (Ty.den conf)) (tw kw : Int) (lw : List (Ty.den lockT)) : runL cfg34 21 [.agg [.si .i64 u, .slst .ro ity ev, .slst .ro conf co, .si .i64 t, .si .i64 c, .slst .ro lockT l], .agg [.si .i64 uw, .slst .ro ity ew, .slst .ro conf cw, .si .i64 tw, .si .i64 kw, .slst .ro lockT lw]] = .ok (some (((l.length : Int) != (lw.length : Int) || decide (pre_ef lw l (l.length : Int) (0 : Int))) && (some ((!bif (l.length : Int) != (lw.length : Int) then false else bif decide (eqI beqL lockT.dflt l lw = true) then true else false) || (!u == uw || (!t == tw || (!c == kw || ((ev.length : Int) != (ew.length : Int) || decide (pre_e1 ev ew (ev.length : Int) (0 : Int))) && ((!bif (ev.length : Int) != (ew.length : Int) then false else bif decide (eqI (fun x y => x == y) (0 : Int) ev ew = true) then true else false) || ((co.length : Int) != (cw.length : Int) || decide (pre_e2 co cw (co.length : Int) (0 : Int))))))))).getD true)) (V.sb (bif bif (l.length : Int) != (lw.length : Int) then false else bif decide (eqI beqL lockT.dflt l lw = true) then true else false then bif u == uw then bif t == tw then bif c == kw then bif bif (ev.length : Int) != (ew.length : Int) then false else bif decide (eqI (fun x y => x == y) (0 : Int) ev ew = true) then true else false then bif (co.length : Int) != (cw.length : Int) then false else bif decide (eqI beqC conf.dflt co cw = true) then true else false else false else false else false else false else false)) := by kernel_rfl
theorem c18_run (u : Int) (ev : List Int) (co : List (Ty.den conf)) (t c : Int) (l : List (Ty.den lockT)) (uw : Int) (ew : List Int) (cw : List (Ty.den conf)) (tw kw : Int) (lw : List (Ty.den lockT)) : runL cfg34 18 [.agg [.si .i64 u, .slst .ro ity ev, .slst .ro conf co, .si .i64 t, .si .i64 c, .slst .ro lockT l], .agg [.si .i64 uw, .slst .ro ity ew, .slst .ro conf cw, .si .i64 tw, .si .i64 kw, .slst .ro lockT lw]] = .ok (some ((some (u != uw || (t != tw || (c != kw || decide (ev.length ≤ 1000000 ∧ ew.length ≤ 1000000))))).getD true && ((bif u != uw then true else bif t != tw then true else bif c != kw then true else bif rcmp ev ew != (0 : Int) then true else bif (co.length : Int) != (cw.length : Int) then true else (l.length : Int) != (lw.length : Int)) || decide (pre_s0 (0 : Int) u ev co t c l uw ew cw tw kw lw) && (!decide (eqI beqC conf.dflt co cw = true) || decide (pre_s1 (0 : Int) u ev co t c l uw ew cw tw kw lw))))) (V.sb (bif bif u != uw then true else bif t != tw then true else bif c != kw then true else bif rcmp ev ew != (0 : Int) then true else bif (co.length : Int) != (cw.length : Int) then true else (l.length : Int) != (lw.length : Int) then false else bif decide (eqI beqC conf.dflt co cw = true) then bif decide (eqI beqR lockT.dflt l lw = true) then true else false else false)) := by kernel_rfl
def hp_cx : HP := { n := 19, lv := [0, 1, 7, 8], sp := [.ty (.slice lockT), .fn 64 [.pel labT], .ty ity, .ty ity], op := [], bp := [] }
def lve_cx : Ex → List Nat
 | .normal => [0, 1, 7, 8]
 | .ret => [4]
 | .exit 0 => []
 | _ => []
theorem bd_cx : Tryd.f82.body = some (root 82) := by kernel_rfl
theorem li_cx : Lies (root 82) 1 (lp 82 0) := Lies.of_take (n := 0) (by kernel_rfl)
def st_cx (a : List (Ty.den lockT)) (x : Ty.den labT) (n i : Int) : St := hp_cx.st ⟨(a, (x, ()), n, i, ()), (), ()⟩
noncomputable def rn_cx (a : List (Ty.den lockT)) (x : Ty.den labT) (n i : Int) := outa lve_cx (evCK Tryd.prog Γ (cfM Tryd.prog Γ cfg34 30) (cfg34.lo 82) [] 60 1 (lp 82 0) (st_cx a x n i))
theorem rn_cx_eq (a : List (Ty.den lockT)) (x : Ty.den labT) (n i : Int) : (rn_cx a x n i).run = (bif decide (i < n) then (bif decide ((0 : Int) ≤ i ∧ i < (a.length : Int)) then (bif decide (pre_cq (aL x) (a.getD i.toNat lockT.dflt) (Nat.cast ((List.length (aL x))) : Int) (0 : Int)) then (bif decide ((bif decide (List.findIdx (fun p => beqL p (a.getD i.toNat lockT.dflt)) (aL x) < List.length (aL x)) then (Nat.cast ((List.findIdx (fun p => beqL p (a.getD i.toNat lockT.dflt)) (aL x))) : Int) else (-1 : Int)) ≥ (0 : Int)) then (some ((Ex.ret, [V.si .i64 i], [], [], 19, 0, 0))) else (some ((Ex.normal, [V.slst .ro lockT a, V.fn (Fn.func (64 : FuncId)) [] [V.pel [V.agg [V.si .i64 x.fst, V.slst .ro ity x.snd.fst, V.slst .ro conf x.snd.snd.fst, V.si .i64 x.snd.snd.snd.fst, V.si .i64 x.snd.snd.snd.snd.fst, V.slst .ro lockT (aL x)]] (0 : Nat) (0 : Nat)], V.si .i64 n, V.si .i64 (IntKind.i64.wrap (i + (1 : Int)))], [], [], 19, 0, 0)))) else none) else none) else (some ((Ex.exit 0, [], [], [], 19, 0, 0)))) := by kernel_rfl
theorem rn_cx_c (a : List (Ty.den lockT)) (x : Ty.den labT) (n i : Int) {e : Ex} {vs : List V} {ob : Ob} {nm : Nm} {n' kh kt : Nat} (h : (rn_cx a x n i).run = some (e, vs, ob, nm, n', kh, kt)) : SemC Tryd.prog Γ (lp 82 0) (st_cx a x n i) e.to (St.of n' (lve_cx e) vs ob nm kh kt) := SemC.of_evM cfg34_ok Tryd.func82 bd_cx li_cx h
def hp_dl : HP := { n := 42, lv := [0, 1, 5, 6], sp := [.bz 0, .fn 64 [.ptr 0 0], .ty ity, .ty ity], op := [.cells [.ty ity, .ty (.slice ity), .ty (.slice conf), .ty ity, .ty ity, .ty (.slice lockT)]], bp := [.arr lockT], kh := 1, kt := 1 }
def lve_dl : Ex → List Nat
 | .normal => [0, 1, 5, 6]
 | .exit 0 => [0, 5]
 | _ => []
theorem bd_dl : Tryd.f62.body = some (root 62) := by kernel_rfl
theorem le_dl : (loops (root 62))[0]? = some (lp 62 0) := by kernel_rfl
theorem li_dl : Lies (root 62) 1 (lp 62 0) := Lies.of_take (n := 0) (by kernel_rfl)
def st_dl (j : Nat) (k i u : Int) (ev : List Int) (co : List (Ty.den conf)) (t c : Int) (lx l : List (Ty.den lockT)) : St := hp_dl.st ⟨(j, ((), ()), k, i, ()), ((u, ev, co, t, c, lx, ()), ()), (l, ())⟩
noncomputable def rn_dl (j : Nat) (k i u : Int) (ev : List Int) (co : List (Ty.den conf)) (t c : Int) (lx l : List (Ty.den lockT)) := outa lve_dl (evCK Tryd.prog Γ (cfM Tryd.prog Γ cfg34 30) (cfg34.lo 62) [] 60 1 (lp 62 0) (st_dl j k i u ev co t c lx l))
theorem rn_dl_eq (j : Nat) (k i u : Int) (ev : List Int) (co : List (Ty.den conf)) (t c : Int) (lx l : List (Ty.den lockT)) : (rn_dl j k i u ev co t c lx l).run = (bif decide (i < (Nat.cast (j) : Int)) then (bif decide ((0 : Int) ≤ i ∧ i < (Nat.cast (j) : Int)) then (bif decide (0 + i.toNat < l.length) then (bif decide (pre_cq lx (l.getD (0 + i.toNat) lockT.dflt) (lx.length : Int) (0 : Int)) then (bif !decide ((bif decide (List.findIdx (fun p => beqL p (l.getD (0 + i.toNat) lockT.dflt)) lx < lx.length) then (Nat.cast ((List.findIdx (fun p => beqL p (l.getD (0 + i.toNat) lockT.dflt)) lx)) : Int) else (-1 : Int)) ≥ (0 : Int)) then (bif decide ((0 : Int) ≤ k ∧ k < (Nat.cast (j) : Int)) then (bif decide (0 + k.toNat < l.length) then (some ((Ex.normal, [V.bs true 0 0 j, V.fn (Fn.func (64 : FuncId)) [] [V.ptr 0 0], V.si .i64 (IntKind.i64.wrap (k + (1 : Int))), V.si .i64 (IntKind.i64.wrap (i + (1 : Int)))], [some [V.si .i64 u, V.slst .ro ity ev, V.slst .ro conf co, V.si .i64 t, V.si .i64 c, V.slst .ro lockT lx]], [some (Bf.live (.arr lockT (l.set (0 + k.toNat) (l.getD (0 + i.toNat) lockT.dflt))))], (42 : Nat), (1 : Nat), (1 : Nat)))) else none) else none) else (some ((Ex.normal, [V.bs true 0 0 j, V.fn (Fn.func (64 : FuncId)) [] [V.ptr 0 0], V.si .i64 k, V.si .i64 (IntKind.i64.wrap (i + (1 : Int)))], [some [V.si .i64 u, V.slst .ro ity ev, V.slst .ro conf co, V.si .i64 t, V.si .i64 c, V.slst .ro lockT lx]], [some (Bf.live (.arr lockT l))], (42 : Nat), (1 : Nat), (1 : Nat))))) else none) else none) else none) else (some ((Ex.exit 0, [V.bs true 0 0 j, V.si .i64 k], [some [V.si .i64 u, V.slst .ro ity ev, V.slst .ro conf co, V.si .i64 t, V.si .i64 c, V.slst .ro lockT lx]], [some (Bf.live (.arr lockT l))], (42 : Nat), (1 : Nat), (1 : Nat))))) := by kernel_rfl
theorem rn_dl_c (j : Nat) (k i u : Int) (ev : List Int) (co : List (Ty.den conf)) (t c : Int) (lx l : List (Ty.den lockT)) {e : Ex} {vs : List V} {ob : Ob} {nm : Nm} {n' kh kt : Nat} (h : (rn_dl j k i u ev co t c lx l).run = some (e, vs, ob, nm, n', kh, kt)) : SemC Tryd.prog Γ (lp 62 0) (st_dl j k i u ev co t c lx l) e.to (St.of n' (lve_dl e) vs ob nm kh kt) := SemC.of_evM cfg34_ok Tryd.func62 bd_dl li_dl h
end L
end Go.Proofs.YthjiodeaepigmaaDoor

/- Package label: Same as contracts; DeleteFunc's loops; Below, printed. -/
set_option linter.unusedVariables false
set_option linter.unusedSimpArgs false
set_option maxRecDepth 100000
set_option maxHeartbeats 4000000
namespace Go.Proofs.YthjiodeaepigmaaDoor
open Go
namespace L
theorem getD_ext {α : Type} {a b : List α} (d : α) (hl : a.length = b.length) (h : ∀ i, i < a.length → a.getD i d = b.getD i d) : a = b := by
 apply List.ext_getElem hl
 intro i h1 h2
 have := h i h1
 rw [getD_eq h1, getD_eq h2] at this
 exact this
theorem eqI_iff {α : Type} {c : α → α → Bool} {d : α} {a b : List α} (hl : a.length = b.length) (hc : ∀ x ∈ a, ∀ y ∈ b, (c x y = true ↔ x = y)) : eqI c d a b = true ↔ a = b := by
 unfold eqI
 rw [allI_true]
 constructor
 · intro h
   exact getD_ext d hl fun i hi => (hc _ (getD_mem hi d) _ (getD_mem (hl ▸ hi) d)).1 (h i hi)
 · intro h i hi
   subst h
   exact (hc _ (getD_mem hi d) _ (getD_mem hi d)).2 rfl
theorem sgn_zero {a b : Int} : sgn a b = 0 ↔ a = b := by unfold sgn; split <;> (try split) <;> omega
theorem lexC_zero : ∀ {a b : List Int}, lexC a b = 0 ↔ a = b
 | [], [] => by simp [lexC]
 | [], y :: b => by simp [lexC]
 | x :: a, [] => by simp [lexC]
 | x :: a, y :: b => by
  unfold lexC
  by_cases h : x = y
  · subst h
    rw [if_neg (by rw [sgn_zero.2 rfl]; decide), lexC_zero]
    simp
  · have h' : sgn x y ≠ 0 := fun e => h (sgn_zero.1 e)
    rw [if_pos h']
    constructor
    · intro e; exact absurd e h'
    · intro e; cases e; exact absurd rfl h
theorem lock_ext (x y : Ty.den lockT) : x = y ↔ kN x = kN y ∧ kK x = kK y := by
 obtain ⟨a1, a2, _⟩ := x
 obtain ⟨b1, b2, _⟩ := y
 constructor
 · intro h; cases h; exact ⟨rfl, rfl⟩
 · rintro ⟨rfl, rfl⟩; rfl
theorem conf_ext (x y : Ty.den conf) : x = y ↔ cF x = cF y ∧ cC x = cC y := by
 obtain ⟨a1, a2, _⟩ := x
 obtain ⟨b1, b2, _⟩ := y
 constructor
 · intro h; cases h; exact ⟨rfl, rfl⟩
 · rintro ⟨rfl, rfl⟩; rfl
theorem cmpL_zero {x y : Ty.den lockT} : cmpL x y = 0 ↔ x = y := by
 have key : ∀ (n m : Int) (k l : List Int), (if sgn n m ≠ 0 then sgn n m else lexC k l) = 0 ↔ n = m ∧ k = l := fun n m k l => by
  by_cases h : n = m
  · subst h
    rw [if_neg (by rw [sgn_zero.2 rfl]; decide), lexC_zero]
    simp
  · have h' : sgn n m ≠ 0 := fun e => h (sgn_zero.1 e)
    rw [if_pos h']
    constructor
    · intro e; exact absurd e h'
    · intro e; exact absurd e.1 h
 rw [lock_ext]
 exact key _ _ _ _
theorem beqL_iff {x y : Ty.den lockT} : beqL x y = true ↔ x = y := by unfold beqL; rw [beq_iff_eq, cmpL_zero]
theorem beqC_iff {x y : Ty.den conf} : beqC x y = true ↔ x = y := by
 rw [conf_ext]
 unfold beqC
 simp only [Bool.and_true, Bool.and_eq_true, beq_iff_eq]
instance : DecidableEq (Ty.den lockT) := fun x y => decidable_of_iff _ (lock_ext x y).symm
instance : DecidableEq (Ty.den conf) := fun x y => decidable_of_iff _ (conf_ext x y).symm
theorem lab_ext (x y : Ty.den labT) : x = y ↔ aU x = aU y ∧ aE x = aE y ∧ aC x = aC y ∧ aT x = aT y ∧ aK x = aK y ∧ aL x = aL y := by
 obtain ⟨a1, a2, a3, a4, a5, a6, _⟩ := x
 obtain ⟨b1, b2, b3, b4, b5, b6, _⟩ := y
 constructor
 · intro h; cases h; exact ⟨rfl, rfl, rfl, rfl, rfl, rfl⟩
 · rintro ⟨rfl, rfl, rfl, rfl, rfl, rfl⟩; rfl
theorem lenb {α β : Type} {a : List α} {b : List β} : ((Nat.cast a.length : Int) != (Nat.cast b.length : Int)) = !decide (a.length = b.length) := by
 by_cases h : a.length = b.length
 · rw [h]; simp
 · rw [decide_eq_false h]
   simp only [Bool.not_false, bne_iff_ne, ne_eq]
   omega
theorem eqI_dec {α : Type} [DecidableEq α] {c : α → α → Bool} {d : α} {a b : List α} (hc : ∀ x y, (c x y = true ↔ x = y)) : (bif (Nat.cast a.length : Int) != (Nat.cast b.length : Int) then false else bif decide (eqI c d a b = true) then true else false) = decide (a = b) := by
 rw [lenb]
 by_cases h : a.length = b.length
 · rw [decide_eq_true h]
   simp only [Bool.not_true, cond_false]
   have e := eqI_iff (c := c) (d := d) h (fun x _ y _ => hc x y)
   by_cases he : a = b
   · rw [decide_eq_true (e.2 he), decide_eq_true he]; rfl
   · rw [decide_eq_false (fun h => he (e.1 h)), decide_eq_false he]; rfl
 · rw [decide_eq_false h, decide_eq_false (fun e => h (congrArg List.length e))]; rfl
instance : DecidableEq (Ty.den labT) := fun x y => decidable_of_iff _ (lab_ext x y).symm
def sameB (x y : Ty.den labT) : Bool := decide (x = y)
theorem bool_of {b : Bool} (h : b = false → False) : b = true := by cases b; exact (h rfl).elim; rfl
theorem c21_ok (x y : Ty.den labT) (hx : szX x) (hy : szX y) : SemF Tryd.prog Γ 21 [labT.val x, labT.val y] [] [] (.sb (sameB x y)) [] [] := by
 have hx1 : szE (aE x) (aC x) (aL x) := hx
 have hy1 : szE (aE y) (aC y) (aL y) := hy
 refine of_runL cfg34_ok (c21_run (aU x) (aE x) (aC x) (aT x) (aK x) (aL x) (aU y) (aE y) (aC y) (aT y) (aK y) (aL y)) ?_ ?_
 · simp only [lenb]
   have p1 : (!decide ((aL x).length = (aL y).length) || decide (pre_ef (aL y) (aL x) (Nat.cast (aL x).length : Int) 0)) = false → False := fun h => by
    rw [Bool.or_eq_false_iff] at h
    have h1 : (aL x).length = (aL y).length := by simpa using h.1
    have h2 := of_decide_eq_false h.2
    exact h2 ⟨rfl, rfl, h1, hx1.2.2, hy1.2.2⟩
   have p2 : (!decide ((aE x).length = (aE y).length) || decide (pre_e1 (aE x) (aE y) (Nat.cast (aE x).length : Int) 0)) = false → False := fun h => by
    rw [Bool.or_eq_false_iff] at h
    have h1 : (aE x).length = (aE y).length := by simpa using h.1
    have h2 := of_decide_eq_false h.2
    exact h2 ⟨rfl, rfl, h1, hx1.1⟩
   have p3 : (!decide ((aC x).length = (aC y).length) || decide (pre_e2 (aC x) (aC y) (Nat.cast (aC x).length : Int) 0)) = false → False := fun h => by
    rw [Bool.or_eq_false_iff] at h
    have h1 : (aC x).length = (aC y).length := by simpa using h.1
    have h2 := of_decide_eq_false h.2
    exact h2 ⟨rfl, rfl, h1, hx1.2.1⟩
   rw [bool_of p1, bool_of p2, bool_of p3]
   simp only [Bool.or_true, Bool.and_true, Bool.true_and, Option.getD_some]
 · rw [eqI_dec (c := beqL) (d := lockT.dflt) (fun x y => beqL_iff), eqI_dec (c := fun x y => x == y) (d := (0 : Int)) (a := aE x) (b := aE y) (fun x y => beq_iff_eq), eqI_dec (c := beqC) (d := conf.dflt) (fun x y => beqC_iff)]
   congr 1
   rw [Bool.eq_iff_iff]
   unfold sameB
   rw [decide_eq_true_eq, lab_ext]
   by_cases h1 : aL x = aL y <;> by_cases h2 : aU x = aU y <;> by_cases h3 : aT x = aT y <;> by_cases h4 : aK x = aK y <;> by_cases h5 : aE x = aE y <;> by_cases h6 : aC x = aC y <;> simp [h1, h2, h3, h4, h5, h6]
section
variable {α : Type} (p : α → Bool)
def kpG (c : List α) (i : Nat) : List α := (c.take i).filter fun q => !p q
def kpGL (c : List α) (i : Nat) : List α := kpG p c i ++ c.drop (kpG p c i).length
theorem appG_get {D c : List α} {k : Nat} (d : α) (h : D.length ≤ k) : (D ++ c.drop D.length).getD k d = c.getD k d := by
 simp only [List.getD]
 rw [List.getElem?_append_right h, List.getElem?_drop, Nat.add_sub_cancel' h]
theorem setG_app {D c : List α} {x : α} (h : D.length < c.length) : (D ++ c.drop D.length).set D.length x = (D ++ [x]) ++ c.drop (D.length + 1) := by
 rw [List.set_append_right _ _ (Nat.le_refl _), Nat.sub_self, List.drop_eq_getElem_cons h, List.set_cons_zero, List.append_assoc]
 rfl
theorem kpG_le (c : List α) (i : Nat) : (kpG p c i).length ≤ i := Nat.le_trans (List.length_filter_le _ _) (by rw [List.length_take]; omega)
theorem kpG_succ {c : List α} {i : Nat} (d : α) (h : i < c.length) : kpG p c (i + 1) = kpG p c i ++ (bif !p (c.getD i d) then [c.getD i d] else []) := by
 unfold kpG
 rw [List.take_add_one, List.getElem?_eq_getElem h, List.filter_append, getD_eq h]
 cases ho : p c[i] <;> simp [ho]
theorem kpGL_len {c : List α} {i : Nat} (h : i ≤ c.length) : (kpGL p c i).length = c.length := by
 have := kpG_le p c i
 unfold kpGL
 rw [List.length_append, List.length_drop]; omega
theorem kpGL_get {c : List α} {i k : Nat} (d : α) (h : i ≤ k) : (kpGL p c i).getD k d = c.getD k d := appG_get d (Nat.le_trans (kpG_le p c i) h)
theorem kpG_at {c : List α} (d : α) (h : c.findIdx p < c.length) : kpG p c (c.findIdx p + 1) = c.take (c.findIdx p) := by
 have h1 : kpG p c (c.findIdx p) = c.take (c.findIdx p) := by
  unfold kpG
  rw [List.filter_eq_self]
  intro x hx
  obtain ⟨i, hi, rfl⟩ := List.getElem_of_mem hx
  rw [List.length_take] at hi
  have := findIdx_before (l := c) (p := p) d (j := i) (by omega)
  simp only [List.getD, List.getElem?_eq_getElem (show i < c.length by omega), Option.getD_some] at this
  simpa using this
 have h2 := findIdx_here (l := c) (p := p) d h
 rw [kpG_succ p d h, h1, h2]
 simp
end
def hasQ (l : List (Ty.den lockT)) (q : Ty.den lockT) : Bool := decide (l.findIdx (fun p => beqL p q) < l.length)
def hasL (x : Ty.den labT) (q : Ty.den lockT) : Bool := hasQ (aL x) q
abbrev pre_cx (a : List (Ty.den lockT)) (x : Ty.den labT) (n i : Int) : Prop := n = (a.length : Int) ∧ i = 0 ∧ szL a ∧ szL (aL x)
def rs_cx (a : List (Ty.den lockT)) (x : Ty.den labT) (n i : Int) : Ex × St := if a.findIdx (hasL x) < a.length then (.ret, St.of 19 (lve_cx (.ret)) [.si .i64 (a.findIdx (hasL x) : Nat)] [] [] hp_cx.kh hp_cx.kt) else (.exit 0, St.of 19 (lve_cx (.exit 0)) [] [] [] hp_cx.kh hp_cx.kt)
def res_cx (a : List (Ty.den lockT)) (x : Ty.den labT) (n i : Int) : Tr (Ex × St) := .br (decide (pre_cx a x n i)) (.br (decide (a.findIdx (hasL x) < a.length)) (.leaf (some (.ret, St.of 19 (lve_cx (.ret)) [.si .i64 (a.findIdx (hasL x) : Nat)] [] [] hp_cx.kh hp_cx.kt))) (.leaf (some (.exit 0, St.of 19 (lve_cx (.exit 0)) [] [] [] hp_cx.kh hp_cx.kt)))) (.leaf none)
def ent_cx : LEnt := LEnt.by hp_cx fun ⟨(a, (x, _), n, i, _), _, _⟩ => res_cx a x n i
theorem ent_cx_ok (hgo : ∀ (a : List (Ty.den lockT)) (x : Ty.den labT) (n i : Int), pre_cx a x n i → SemL Tryd.prog Γ (lp 82 0) (st_cx a x n i) (rs_cx a x n i).1.to (rs_cx a x n i).2) : EntOk Tryd.prog Γ (lp 82 0) ent_cx := LEnt.by_ok fun ⟨(a, (x, _), n, i, _), _, _⟩ _ _ h_ => SemL.br (out := rs_cx a x n i) (Tr.run_ite rfl rfl) (hgo a x n i) h_
theorem cx_go (a : List (Ty.den lockT)) (x : Ty.den labT) (n i : Int) (h : pre_cx a x n i) : SemL Tryd.prog Γ (lp 82 0) (st_cx a x n i) (rs_cx a x n i).1.to (rs_cx a x n i).2 := by
 obtain ⟨rfl, rfl, ha, hx⟩ := h
 have hla := ha.1
 refine scan_find a lockT.dflt (hasL x) (fun i => st_cx a x a.length (i : Nat)) (fun i => St.of 19 (lve_cx .ret) [.si .i64 (i : Nat)] [] [] 0 0) _ 0 (fun i hi hp => ?_) (fun i hi hp => ?_) ?_
 · refine rn_cx_c a x a.length i (e := .normal) ?_
   have hw : IntKind.i64.wrap ((i : Int) + 1) = ((i + 1 : Nat) : Int) := by rw [wrap_in (by omega) (by omega)]; rfl
   have hpr : pre_cq (aL x) (a.getD i lockT.dflt) (Nat.cast (aL x).length : Int) 0 := ⟨rfl, rfl, hx, ha.2 _ (getD_mem hi lockT.dflt)⟩
   rw [rn_cx_eq, hw, decide_eq_true (by omega : (i : Int) < a.length), decide_eq_true (by omega : (0 : Int) ≤ (i : Int) ∧ (i : Int) < a.length), Int.toNat_natCast, decide_eq_true hpr, idx_ge]
   unfold hasL hasQ at hp
   rw [hp]
   rfl
 · refine rn_cx_c a x a.length i (e := .ret) ?_
   have hpr : pre_cq (aL x) (a.getD i lockT.dflt) (Nat.cast (aL x).length : Int) 0 := ⟨rfl, rfl, hx, ha.2 _ (getD_mem hi lockT.dflt)⟩
   rw [rn_cx_eq, decide_eq_true (by omega : (i : Int) < a.length), decide_eq_true (by omega : (0 : Int) ≤ (i : Int) ∧ (i : Int) < a.length), Int.toNat_natCast, decide_eq_true hpr, idx_ge]
   unfold hasL hasQ at hp
   rw [hp]
   rfl
 · refine rn_cx_c a x a.length a.length (e := .exit 0) ?_
   rw [rn_cx_eq, decide_eq_false (by omega)]
   rfl
abbrev pre_dl (j : Nat) (k i u : Int) (ev : List Int) (co : List (Ty.den conf)) (t c : Int) (lx l : List (Ty.den lockT)) : Prop := j = l.length ∧ szL l ∧ szL lx ∧ 0 ≤ k ∧ k < (j : Int) ∧ i = k + 1 ∧ (l.findIdx (hasQ lx) : Int) = k
def rs_dl (j : Nat) (k i u : Int) (ev : List Int) (co : List (Ty.den conf)) (t c : Int) (lx l : List (Ty.den lockT)) : Ex × St := (.exit 0, St.of 42 (lve_dl (.exit 0)) [.bs true 0 0 j, .si .i64 ((kpG (hasQ lx) l j).length : Nat)] [some [.si .i64 u, .slst .ro ity ev, .slst .ro conf co, .si .i64 t, .si .i64 c, .slst .ro lockT lx]] [ll' (kpGL (hasQ lx) l j)] hp_dl.kh hp_dl.kt)
def res_dl (j : Nat) (k i u : Int) (ev : List Int) (co : List (Ty.den conf)) (t c : Int) (lx l : List (Ty.den lockT)) : Tr (Ex × St) := .br (decide (pre_dl j k i u ev co t c lx l)) (.leaf (some (.exit 0, St.of 42 (lve_dl (.exit 0)) [.bs true 0 0 j, .si .i64 ((kpG (hasQ lx) l j).length : Nat)] [some [.si .i64 u, .slst .ro ity ev, .slst .ro conf co, .si .i64 t, .si .i64 c, .slst .ro lockT lx]] [ll' (kpGL (hasQ lx) l j)] hp_dl.kh hp_dl.kt))) (.leaf none)
def ent_dl : LEnt := LEnt.by hp_dl fun ⟨(j, (_, _), k, i, _), ((u, ev, co, t, c, lx, _), _), (l, _)⟩ => res_dl j k i u ev co t c lx l
theorem ent_dl_ok (hgo : ∀ (j : Nat) (k i u : Int) (ev : List Int) (co : List (Ty.den conf)) (t c : Int) (lx l : List (Ty.den lockT)), pre_dl j k i u ev co t c lx l → SemL Tryd.prog Γ (lp 62 0) (st_dl j k i u ev co t c lx l) (rs_dl j k i u ev co t c lx l).1.to (rs_dl j k i u ev co t c lx l).2) : EntOk Tryd.prog Γ (lp 62 0) ent_dl := LEnt.by_ok fun ⟨(j, (_, _), k, i, _), ((u, ev, co, t, c, lx, _), _), (l, _)⟩ _ _ h_ => SemL.br (out := rs_dl j k i u ev co t c lx l) rfl (hgo j k i u ev co t c lx l) h_
theorem dl_go (j : Nat) (k i u : Int) (ev : List Int) (co : List (Ty.den conf)) (t tk : Int) (lx c : List (Ty.den lockT)) (h : pre_dl j k i u ev co t tk lx c) : SemL Tryd.prog Γ (lp 62 0) (st_dl j k i u ev co t tk lx c) (rs_dl j k i u ev co t tk lx c).1.to (rs_dl j k i u ev co t tk lx c).2 := by
 obtain ⟨hj, hc, hx, h0, hk, rfl, hk2⟩ := h
 have hj2 := hc.1
 obtain ⟨k0, rfl⟩ := Int.eq_ofNat_of_zero_le h0
 have hk : k0 < j := by omega
 have hk2 : c.findIdx (hasQ lx) = k0 := by omega
 have e0 : kpG (hasQ lx) c (k0 + 1) = c.take k0 := by rw [← hk2]; exact kpG_at _ lockT.dflt (by omega)
 have e1 : (kpG (hasQ lx) c (k0 + 1)).length = k0 := by rw [e0, List.length_take]; omega
 have e2 : kpGL (hasQ lx) c (k0 + 1) = c := by unfold kpGL; rw [e1, e0, List.take_append_drop]
 have key := SemL.scan (P := Tryd.prog) (Γ := Γ) (b := lp 62 0) j (k0 + 1) (by omega) (fun i => st_dl j ((kpG (hasQ lx) c i).length : Nat) (i : Nat) u ev co t tk lx (kpGL (hasQ lx) c i)) (fun _ => true) (rs_dl j (k0 : Nat) ((k0 : Int) + 1) u ev co t tk lx c) ?_ ?_ ?_
 · simp only [e1, e2] at key
   exact key
 · intro i h1 h2 _ _
   have hw : IntKind.i64.wrap ((i : Int) + 1) = ((i + 1 : Nat) : Int) := by rw [wrap_in (by omega) (by omega)]; rfl
   have hle := kpG_le (hasQ lx) c i
   have hw2 : IntKind.i64.wrap (((kpG (hasQ lx) c i).length : Int) + 1) = (((kpG (hasQ lx) c i).length + 1 : Nat) : Int) := by rw [wrap_in (by omega) (by omega)]; rfl
   have hL := kpGL_len (hasQ lx) (c := c) (i := i) (by omega)
   have hs := kpG_succ (hasQ lx) (c := c) (i := i) lockT.dflt (by omega)
   have hpr : pre_cq lx (c.getD i lockT.dflt) (Nat.cast lx.length : Int) 0 := ⟨rfl, rfl, hx, hc.2 _ (getD_mem (by omega) lockT.dflt)⟩
   have eq := rn_dl_eq j (kpG (hasQ lx) c i).length i u ev co t tk lx (kpGL (hasQ lx) c i)
   rw [hw, hw2, hL, Int.toNat_natCast, Int.toNat_natCast, Nat.zero_add, Nat.zero_add, kpGL_get (hasQ lx) lockT.dflt (Nat.le_refl _), decide_eq_true (by omega : (i : Int) < j), decide_eq_true (by omega : (0 : Int) ≤ (i : Int) ∧ (i : Int) < j), decide_eq_true (by omega : i < c.length), decide_eq_true hpr, idx_ge] at eq
   have hb0 : decide (lx.findIdx (fun p => beqL p (c.getD i lockT.dflt)) < lx.length) = hasQ lx (c.getD i lockT.dflt) := rfl
   rw [hb0] at eq
   cases hbb : hasQ lx (c.getD i lockT.dflt) with
   | true =>
    rw [hbb] at eq hs
    simp only [Bool.not_true, cond_false, List.append_nil] at hs
    have := rn_dl_c j (kpG (hasQ lx) c i).length i u ev co t tk lx (kpGL (hasQ lx) c i) (eq.trans rfl)
    have hkl : kpGL (hasQ lx) c (i + 1) = kpGL (hasQ lx) c i := by unfold kpGL; rw [hs]
    rw [hs, hkl]
    exact this
   | false =>
    rw [hbb] at eq hs
    simp only [Bool.not_false, cond_true] at hs
    rw [decide_eq_true (by omega : (0 : Int) ≤ ((kpG (hasQ lx) c i).length : Nat) ∧ (((kpG (hasQ lx) c i).length : Nat) : Int) < j), decide_eq_true (by omega : (kpG (hasQ lx) c i).length < c.length)] at eq
    have hkl : (kpGL (hasQ lx) c i).set (kpG (hasQ lx) c i).length (c.getD i lockT.dflt) = kpGL (hasQ lx) c (i + 1) := by
     unfold kpGL
     rw [setG_app (by omega), hs, List.length_append]
     rfl
    rw [hkl] at eq
    have := rn_dl_c j (kpG (hasQ lx) c i).length i u ev co t tk lx (kpGL (hasQ lx) c i) (eq.trans rfl)
    rw [show (kpG (hasQ lx) c (i + 1)).length = (kpG (hasQ lx) c i).length + 1 by rw [hs]; simp]
    exact this
 · intro i _ _ _ h; cases h
 · intro _
   refine ⟨by simp [rs_dl, Ex.to], ?_⟩
   have eq := rn_dl_eq j (kpG (hasQ lx) c j).length j u ev co t tk lx (kpGL (hasQ lx) c j)
   rw [decide_eq_false (by omega : ¬ (j : Int) < j)] at eq
   exact rn_dl_c j (kpG (hasQ lx) c j).length j u ev co t tk lx (kpGL (hasQ lx) c j) (eq.trans rfl)
def e21 (x y : Ty.den labT) : Option Bool × V := (some (decide (szX x ∧ szX y)), .sb (sameB x y))
theorem e21_of (x y : Ty.den labT) (h : (e21 x y).1.getD true = true) : SemF Tryd.prog Γ 21 [labT.val x, labT.val y] [] [] (e21 x y).2 [] [] := c21_ok x y (of_decide_eq_true h).1 (of_decide_eq_true h).2
noncomputable def orc35 : Orc := fun f args => if f = 21 then (Ty.ofVs [labT, labT] args).map (fun x => e21 x.1 x.2.1) else orc33 f args
theorem orc35_ok : OrcOk Tryd.prog Γ orc35 := orc33_ok.plain 21 [labT, labT] (fun x => e21 x.1 x.2.1) Tryd.f21 Tryd.func21 rfl (by kernel_rfl) (fun x h => e21_of _ _ h)
def lo35a : LOrc := (LOrc.add lo34a 62 0 ent_dl)
theorem lo35a_ok : LOrcOk Tryd.prog Γ lo35a := (LOrcOk.add lo34a_ok 62 0 Tryd.func62 bd_dl le_dl (ent_dl_ok dl_go))
def lo35 : LOrc := LOrc.add lo35a 82 0 (LEnt.or (LEnt.or ent_lq ent_cq) ent_cx)
theorem lo35_ok : LOrcOk Tryd.prog Γ lo35 := LOrcOk.add lo35a_ok 82 0 Tryd.func82 bd_lq le_lq (LEnt.or_ok (LEnt.or_ok (ent_lq_ok lq_go) (ent_cq_ok cq_go) rfl rfl) (ent_cx_ok cx_go) rfl rfl)
noncomputable def cfg35 : Cfg := cfgT T31 isT31 orc35 lo35
theorem cfg35_ok : CfgOk Tryd.prog Γ cfg35 := cfgT_ok T31_ok orc35_ok lo35_ok
def mkL (u : Int) (ev : List Int) (co : List (Ty.den conf)) (t c : Int) (l : List (Ty.den lockT)) : Ty.den labT := (u, ev, co, t, c, l, ())
theorem c19e_run (u : Int) (ev : List Int) (co : List (Ty.den conf)) (t c : Int) (uw : Int) (ew : List Int) (cw : List (Ty.den conf)) (tw kw : Int) (lw : List (Ty.den lockT)) : runL cfg35 19 [.agg [.si .i64 u, .slst .ro ity ev, .slst .ro conf co, .si .i64 t, .si .i64 c, .lst .ro []], .agg [.si .i64 uw, .slst .ro ity ew, .slst .ro conf cw, .si .i64 tw, .si .i64 kw, .slst .ro lockT lw]] = .ok (some ((some (decide (szE ev co []) && (!validE u ev co t c [] || decide (szE ew cw lw)))).getD true && ((bif !validE u ev co t c [] then true else !validE uw ew cw tw kw lw) || decide (pre_cx [] (mkL uw ew cw tw kw lw) (0 : Int) (0 : Int)) && (some ((bif decide ((0 : Nat) < (0 : Nat)) then (Nat.cast ((0 : Nat)) : Int) else (-1 : Int)) == (-1 : Int) && true)).getD true && (decide (szX (mkL u ev co t c []) ∧ szX (mkL uw ew cw tw kw lw)) && decide (szX (joinV (mkL u ev co t c []) (mkL uw ew cw tw kw lw)) ∧ szX (mkL uw ew cw tw kw lw)))))) (V.sb (bif bif !validE u ev co t c [] then true else !validE uw ew cw tw kw lw then false else sameB (joinV (mkL u ev co t c []) (mkL uw ew cw tw kw lw)) (mkL uw ew cw tw kw lw))) := by kernel_rfl
end L
end Go.Proofs.YthjiodeaepigmaaDoor

/- Package label: DeleteFunc of locks as a contract; Below, printed. -/
set_option linter.unusedVariables false
set_option linter.unusedSimpArgs false
set_option maxRecDepth 100000
set_option maxHeartbeats 4000000
namespace Go.Proofs.YthjiodeaepigmaaDoor
open Go
namespace L
def delQ (p : Ty.den lockT → Bool) (l : List (Ty.den lockT)) (j : Nat) : List (Ty.den lockT) := kpG p l j ++ List.replicate (j - (kpG p l j).length) lockT.dflt ++ l.drop j
def fp_g62 : FP := ⟨[.bz 0, .fn 64 [.ptr 0 0]], [.cells [.ty ity, .ty (.slice ity), .ty (.slice conf), .ty ity, .ty ity, .ty (.slice lockT)]], [.arr lockT]⟩
abbrev cn_g62 (j : Nat) (u : Int) (ev : List Int) (co : List (Ty.den conf)) (t c : Int) (lx l : List (Ty.den lockT)) : Prop := j = l.length ∧ szL l ∧ szL lx
noncomputable def cr_g62 (j : Nat) (u : Int) (ev : List Int) (co : List (Ty.den conf)) (t c : Int) (lx l : List (Ty.den lockT)) : Option Bool × V × Ob × Nm := (some (decide (cn_g62 j u ev co t c lx l)), .bs true 0 0 (kpG (hasQ lx) l j).length, [some [.si .i64 u, .slst .ro ity ev, .slst .ro conf co, .si .i64 t, .si .i64 c, .slst .ro lockT lx]], [ll' (delQ (hasQ lx) l j)])
noncomputable def ct_g62 := Ct.by fp_g62 fun ⟨(j, (_, _), _), ((u, ev, co, t, c, lx, _), _), (l, _)⟩ => cr_g62 j u ev co t c lx l
abbrev sf_g62 (j : Nat) (u : Int) (ev : List Int) (co : List (Ty.den conf)) (t c : Int) (lx l : List (Ty.den lockT)) : Prop := SemF Tryd.prog Γ 62 (SP.vals fp_g62.sp (j, ((), ()), ())) (OP.vals fp_g62.op ((u, ev, co, t, c, lx, ()), ())) (BP.vals fp_g62.bp (l, ())) (.bs true 0 0 (kpG (hasQ lx) l j).length) ([some [.si .i64 u, .slst .ro ity ev, .slst .ro conf co, .si .i64 t, .si .i64 c, .slst .ro lockT lx]]) ([ll' (delQ (hasQ lx) l j)])
noncomputable def ev_g62 (C : Cfg) (lv : List Nat) (j : Nat) (u : Int) (ev : List Int) (co : List (Ty.den conf)) (t c : Int) (lx l : List (Ty.den lockT)) := evV Tryd.prog Γ C lv 62 (SP.vals fp_g62.sp (j, ((), ()), ())) (OP.vals fp_g62.op ((u, ev, co, t, c, lx, ()), ())) (BP.vals fp_g62.bp (l, ()))
theorem cr_g62_ok (j : Nat) (u : Int) (ev : List Int) (co : List (Ty.den conf)) (t c : Int) (lx l : List (Ty.den lockT)) (h : (cr_g62 j u ev co t c lx l).1.getD true = true) : cn_g62 j u ev co t c lx l := of_decide_eq_true h
theorem ct_g62_ok (H : ∀ (j : Nat) (u : Int) (ev : List Int) (co : List (Ty.den conf)) (t c : Int) (lx l : List (Ty.den lockT)), cn_g62 j u ev co t c lx l → sf_g62 j u ev co t c lx l) : ∀ args ob nm c v ob1 nm1, ct_g62 args ob nm = some (c, v, ob1, nm1) → c.getD true = true → SemF Tryd.prog Γ 62 args ob nm v ob1 nm1 := Ct.by_ok fun ⟨(j, (_, _), _), ((u, ev, co, t, c, lx, _), _), (l, _)⟩ h => H j u ev co t c lx l (cr_g62_ok j u ev co t c lx l h)
theorem t62_eq (j : Nat) (u : Int) (ev : List Int) (co : List (Ty.den conf)) (t c : Int) (lx l : List (Ty.den lockT)) : (ev_g62 cfg35 [] j u ev co t c lx l).run = (bif decide (pre_cx (List.take j (List.drop (0) l)) (mkL u ev co t c lx) (Nat.cast ((List.take j (List.drop (0) l)).length) : Int) (0 : Int)) then (bif (bif decide (List.findIdx (hasL (mkL u ev co t c lx)) (List.take j (List.drop (0) l)) < (List.take j (List.drop (0) l)).length) then (Nat.cast ((List.findIdx (hasL (mkL u ev co t c lx)) (List.take j (List.drop (0) l)))) : Int) else (-1 : Int)) == (-1 : Int) then (some ((V.bs true 0 0 j, [some [V.si .i64 u, V.slst .ro ity ev, V.slst .ro conf co, V.si .i64 t, V.si .i64 c, V.slst .ro lockT lx]], [some (Bf.live (.arr lockT l))]))) else (bif decide (pre_dl j (bif decide (List.findIdx (hasL (mkL u ev co t c lx)) (List.take j (List.drop (0) l)) < (List.take j (List.drop (0) l)).length) then (Nat.cast ((List.findIdx (hasL (mkL u ev co t c lx)) (List.take j (List.drop (0) l)))) : Int) else (-1 : Int)) (IntKind.i64.wrap ((bif decide (List.findIdx (hasL (mkL u ev co t c lx)) (List.take j (List.drop (0) l)) < (List.take j (List.drop (0) l)).length) then (Nat.cast ((List.findIdx (hasL (mkL u ev co t c lx)) (List.take j (List.drop (0) l)))) : Int) else (-1 : Int)) + (1 : Int))) u ev co t c lx l) then (bif decide ((0 : Int) ≤ (Nat.cast ((kpG (hasQ lx) l j).length) : Int) ∧ (Nat.cast ((kpG (hasQ lx) l j).length) : Int) ≤ (Nat.cast (j) : Int) ∧ (Nat.cast (j) : Int) ≤ (Nat.cast (j) : Int)) then (bif decide ((0 : Int) ≤ (0 : Int) ∧ (0 : Int) ≤ (Nat.cast ((kpG (hasQ lx) l j).length) : Int) ∧ (Nat.cast ((kpG (hasQ lx) l j).length) : Int) ≤ (Nat.cast (j) : Int)) then (some ((V.bs true 0 0 (((Nat.cast ((kpG (hasQ lx) l j).length) : Int)).toNat - (0 : Nat)), [some [V.si .i64 u, V.slst .ro ity ev, V.slst .ro conf co, V.si .i64 t, V.si .i64 c, V.slst .ro lockT lx]], [some (Bf.live (.arr lockT (List.take (0 + ((Nat.cast ((kpG (hasQ lx) l j).length) : Int)).toNat) (List.drop (0) (kpGL (hasQ lx) l j)) ++ List.take (((Nat.cast (j) : Int)).toNat - ((Nat.cast ((kpG (hasQ lx) l j).length) : Int)).toNat) (List.drop (0) (List.replicate (((Nat.cast (j) : Int)).toNat - ((Nat.cast ((kpG (hasQ lx) l j).length) : Int)).toNat) lockT.dflt)) ++ List.take ((kpGL (hasQ lx) l j).length - (0 + ((Nat.cast ((kpG (hasQ lx) l j).length) : Int)).toNat + (((Nat.cast (j) : Int)).toNat - ((Nat.cast ((kpG (hasQ lx) l j).length) : Int)).toNat))) (List.drop (0 + ((Nat.cast ((kpG (hasQ lx) l j).length) : Int)).toNat + (((Nat.cast (j) : Int)).toNat - ((Nat.cast ((kpG (hasQ lx) l j).length) : Int)).toNat)) (kpGL (hasQ lx) l j)))))]))) else none) else none) else none)) else none) := by kernel_rfl
theorem g62_go (j : Nat) (u : Int) (ev : List Int) (co : List (Ty.den conf)) (t c : Int) (lx l : List (Ty.den lockT)) (h : cn_g62 j u ev co t c lx l) : sf_g62 j u ev co t c lx l := by
 obtain ⟨rfl, hl, hx⟩ := h
 have hj2 := hl.1
 refine SemF.of_tree cfg35_ok (lv := []) (Eq.trans (t62_eq l.length u ev co t c lx l) ?_)
 have ht : List.take l.length l = l := List.take_length
 have hh : hasL (mkL u ev co t c lx) = hasQ lx := rfl
 simp only [List.drop_zero, ht, hh]
 have p1 : pre_cx l (mkL u ev co t c lx) (l.length : Int) 0 := ⟨rfl, rfl, hl, hx⟩
 rw [decide_eq_true p1]
 have hle := kpG_le (hasQ lx) l l.length
 by_cases hlt : l.findIdx (hasQ lx) < l.length
 · have hw : IntKind.i64.wrap (((l.findIdx (hasQ lx) : Nat) : Int) + 1) = ((l.findIdx (hasQ lx) : Nat) : Int) + 1 := wrap_in (by omega) (by omega)
   have p2 : pre_dl l.length ((l.findIdx (hasQ lx) : Nat) : Int) (((l.findIdx (hasQ lx) : Nat) : Int) + 1) u ev co t c lx l := ⟨rfl, hl, hx, by omega, by omega, rfl, rfl⟩
   have hne : (((l.findIdx (hasQ lx) : Nat) : Int) == (-1 : Int)) = false := by rw [beq_eq_false_iff_ne]; omega
   rw [decide_eq_true hlt]
   simp only [cond_true, hw, hne, cond_false, Int.toNat_natCast, Nat.zero_add, Nat.sub_zero]
   rw [decide_eq_true p2, decide_eq_true (by omega), decide_eq_true (by omega)]
   simp only [cond_true]
   have hL := kpGL_len (hasQ lx) (c := l) (i := l.length) (Nat.le_refl _)
   have hd : List.take (kpG (hasQ lx) l l.length).length (kpGL (hasQ lx) l l.length) = kpG (hasQ lx) l l.length := by unfold kpGL; rw [List.take_left']; rfl
   have hd2 : List.drop ((kpG (hasQ lx) l l.length).length + (l.length - (kpG (hasQ lx) l l.length).length)) (kpGL (hasQ lx) l l.length) = l.drop l.length := by
    unfold kpGL
    rw [Nat.add_sub_cancel' hle, List.drop_append, List.drop_eq_nil_of_le hle, List.nil_append, List.drop_drop, Nat.add_sub_cancel' hle]
   rw [hd, hd2, List.take_of_length_le (l := List.replicate _ _) (by simp), List.take_of_length_le (l := l.drop l.length) (by rw [List.length_drop, hL]; omega)]
   rfl
 · rw [decide_eq_false hlt]
   simp only [cond_true, cond_false]
   have hkp : kpG (hasQ lx) l l.length = l := by
    unfold kpG
    rw [ht, List.filter_eq_self]
    intro x hx
    obtain ⟨i, hi, rfl⟩ := List.getElem_of_mem hx
    have := findIdx_before (l := l) (p := hasQ lx) lockT.dflt (j := i) (by omega)
    rw [getD_eq hi] at this
    rw [this]; rfl
   have hdl : delQ (hasQ lx) l l.length = l := by unfold delQ; rw [hkp]; simp
   rw [hdl, hkp]
   rfl
noncomputable def T36 : CallT := fun f args ob nm => match Nat.beq f 62 with | true => ct_g62 args ob nm | false => T31 f args ob nm
theorem T36_ok : CtOk Tryd.prog Γ T36 := CtOk.cons T31_ok 62 ct_g62 (by decide) Tryd.f62 Tryd.func62 (by kernel_rfl) (by kernel_rfl) (ct_g62_ok g62_go)
def isT36 (f : FuncId) : Bool := isT31 f || Nat.beq f 62
noncomputable def cfg36 : Cfg := cfgT T36 isT36 orc35 lo35
theorem cfg36_ok : CfgOk Tryd.prog Γ cfg36 := cfgT_ok T36_ok orc35_ok lo35_ok
def fp_h62 : FP := ⟨[.bz 0, .fn 64 [.ptr 0 0]], [.cells [.ty ity, .ty (.slice ity), .ty (.slice conf), .ty ity, .ty ity, .ty (.slice lockT)]], [.arr lockT]⟩
abbrev cn_h62 (j : Nat) (u : Int) (ev : List Int) (co : List (Ty.den conf)) (t c : Int) (lx l : List (Ty.den lockT)) : Prop := (j = l.length ∧ szL l ∧ szL lx) ∧ kpG (hasQ lx) l j = []
noncomputable def cr_h62 (j : Nat) (u : Int) (ev : List Int) (co : List (Ty.den conf)) (t c : Int) (lx l : List (Ty.den lockT)) : Option Bool × V × Ob × Nm := (some (decide (cn_h62 j u ev co t c lx l)), .lst .ro [], [some [.si .i64 u, .slst .ro ity ev, .slst .ro conf co, .si .i64 t, .si .i64 c, .slst .ro lockT lx]], [ll' (delQ (hasQ lx) l j)])
noncomputable def ct_h62 := Ct.by fp_h62 fun ⟨(j, (_, _), _), ((u, ev, co, t, c, lx, _), _), (l, _)⟩ => cr_h62 j u ev co t c lx l
abbrev sf_h62 (j : Nat) (u : Int) (ev : List Int) (co : List (Ty.den conf)) (t c : Int) (lx l : List (Ty.den lockT)) : Prop := SemF Tryd.prog Γ 62 (SP.vals fp_h62.sp (j, ((), ()), ())) (OP.vals fp_h62.op ((u, ev, co, t, c, lx, ()), ())) (BP.vals fp_h62.bp (l, ())) (.lst .ro []) ([some [.si .i64 u, .slst .ro ity ev, .slst .ro conf co, .si .i64 t, .si .i64 c, .slst .ro lockT lx]]) ([ll' (delQ (hasQ lx) l j)])
theorem cr_h62_ok (j : Nat) (u : Int) (ev : List Int) (co : List (Ty.den conf)) (t c : Int) (lx l : List (Ty.den lockT)) (h : (cr_h62 j u ev co t c lx l).1.getD true = true) : cn_h62 j u ev co t c lx l := of_decide_eq_true h
theorem ct_h62_ok (H : ∀ (j : Nat) (u : Int) (ev : List Int) (co : List (Ty.den conf)) (t c : Int) (lx l : List (Ty.den lockT)), cn_h62 j u ev co t c lx l → sf_h62 j u ev co t c lx l) : ∀ args ob nm c v ob1 nm1, ct_h62 args ob nm = some (c, v, ob1, nm1) → c.getD true = true → SemF Tryd.prog Γ 62 args ob nm v ob1 nm1 := Ct.by_ok fun ⟨(j, (_, _), _), ((u, ev, co, t, c, lx, _), _), (l, _)⟩ h => H j u ev co t c lx l (cr_h62_ok j u ev co t c lx l h)
theorem bs_ro {n off : Nat} (G : Gh) (cv : Value) (h : VRel G (.bs true n off 0) cv) : VRel G (.lst .ro []) cv := by
 cases h with
 | bs0 => exact .lst0 _ _
 | bs1 => exact .lst0 _ _
 | bs h hl => exact .lst1 _ _
theorem h62_go (j : Nat) (u : Int) (ev : List Int) (co : List (Ty.den conf)) (t c : Int) (lx l : List (Ty.den lockT)) (h : cn_h62 j u ev co t c lx l) : sf_h62 j u ev co t c lx l := by
 have := g62_go j u ev co t c lx l h.1
 have e0 : (kpG (hasQ lx) l j).length = 0 := by rw [h.2]; rfl
 refine SemF.weaken (v := .bs true 0 0 (kpG (hasQ lx) l j).length) this fun G cv hr => ?_
 rw [e0] at hr
 exact bs_ro G cv hr
noncomputable def T36b : CallT := fun f args ob nm => match Nat.beq f 62 with | true => ct_h62 args ob nm | false => T31 f args ob nm
theorem T36b_ok : CtOk Tryd.prog Γ T36b := CtOk.cons T31_ok 62 ct_h62 (by decide) Tryd.f62 Tryd.func62 (by kernel_rfl) (by kernel_rfl) (ct_h62_ok h62_go)
noncomputable def cfg36b : Cfg := cfgT T36b isT36 orc35 lo35
theorem cfg36b_ok : CfgOk Tryd.prog Γ cfg36b := cfgT_ok T36b_ok orc35_ok lo35_ok
noncomputable def ev19b (u : Int) (ev : List Int) (co : List (Ty.den conf)) (t c : Int) (l : List (Ty.den lockT)) (uw : Int) (ew : List Int) (cw : List (Ty.den conf)) (tw kw : Int) (lw : List (Ty.den lockT)) : Tr V := (evFK Tryd.prog Γ (cfM Tryd.prog Γ cfg36b 30) cfg36b.lo (cfg36b.lv 19) 80 19 [.agg [.si .i64 u, .slst .ro ity ev, .slst .ro conf co, .si .i64 t, .si .i64 c, .slst .ro lockT l], .agg [.si .i64 uw, .slst .ro ity ew, .slst .ro conf cw, .si .i64 tw, .si .i64 kw, .slst .ro lockT lw]] [] []).bind fun p => .leaf (valO (some p))
noncomputable def ev19 (u : Int) (ev : List Int) (co : List (Ty.den conf)) (t c : Int) (l : List (Ty.den lockT)) (uw : Int) (ew : List Int) (cw : List (Ty.den conf)) (tw kw : Int) (lw : List (Ty.den lockT)) : Tr V := (evFK Tryd.prog Γ (cfM Tryd.prog Γ cfg36 30) cfg36.lo (cfg36.lv 19) 80 19 [.agg [.si .i64 u, .slst .ro ity ev, .slst .ro conf co, .si .i64 t, .si .i64 c, .slst .ro lockT l], .agg [.si .i64 uw, .slst .ro ity ew, .slst .ro conf cw, .si .i64 tw, .si .i64 kw, .slst .ro lockT lw]] [] []).bind fun p => .leaf (valO (some p))
theorem t19_eq (u : Int) (ev : List Int) (co : List (Ty.den conf)) (t c : Int) (l : List (Ty.den lockT)) (uw : Int) (ew : List Int) (cw : List (Ty.den conf)) (tw kw : Int) (lw : List (Ty.den lockT)) : (ev19 u ev co t c l uw ew cw tw kw lw).run = (bif (some (decide (szE ev co l) && (!validE u ev co t c l || decide (szE ew cw lw)))).getD true then (bif bif !validE u ev co t c l then true else !validE uw ew cw tw kw lw then (some (V.b false)) else (bif decide (0 < l.length) && (some (decide (l.length * 2 * 32 ≤ 281474976710656) && true)).getD true then (bif decide (cn_g62 l.length uw ew cw tw kw lw l) then (bif decide ((Nat.cast ((kpG (hasQ lw) l l.length).length) : Int) > (0 : Int)) then (some (V.b false)) else none) else none) else none)) else none) := by kernel_rfl
theorem t19b_eq (u : Int) (ev : List Int) (co : List (Ty.den conf)) (t c : Int) (l : List (Ty.den lockT)) (uw : Int) (ew : List Int) (cw : List (Ty.den conf)) (tw kw : Int) (lw : List (Ty.den lockT)) : (ev19b u ev co t c l uw ew cw tw kw lw).run = (bif (some (decide (szE ev co l) && (!validE u ev co t c l || decide (szE ew cw lw)))).getD true then (bif bif !validE u ev co t c l then true else !validE uw ew cw tw kw lw then (some (V.b false)) else (bif decide (0 < l.length) && (some (decide (l.length * 2 * 32 ≤ 281474976710656) && true)).getD true then (bif decide (cn_h62 l.length uw ew cw tw kw lw l) then (bif decide (szX (mkL u ev co t c []) ∧ szX (mkL uw ew cw tw kw lw)) then (bif decide (szX (joinV (mkL u ev co t c []) (mkL uw ew cw tw kw lw)) ∧ szX (mkL uw ew cw tw kw lw)) then (some (V.sb (sameB (joinV (mkL u ev co t c []) (mkL uw ew cw tw kw lw)) (mkL uw ew cw tw kw lw)))) else none) else none) else none) else none)) else none) := by kernel_rfl
end L
end Go.Proofs.YthjiodeaepigmaaDoor

/- Package label: Below, and the reference's Same, as contracts. -/
set_option linter.unusedVariables false
set_option linter.unusedSimpArgs false
set_option maxRecDepth 100000
set_option maxHeartbeats 4000000
namespace Go.Proofs.YthjiodeaepigmaaDoor
open Go
namespace L
theorem pw_len {m : Int} : ∀ (l : List Int) (a : Int), (∀ x ∈ l, a ≤ x ∧ x ≤ m) → l.Pairwise (· < ·) → l.length ≤ (m + 1 - a).toNat
 | [], a, _, _ => Nat.zero_le _
 | x :: l, a, h, hp => by
  obtain ⟨h1, h2⟩ := h x (List.mem_cons_self ..)
  have hp := List.pairwise_cons.1 hp
  have := pw_len l (x + 1) (fun y hy => ⟨by have := hp.1 y hy; omega, (h y (List.mem_cons_of_mem _ hy)).2⟩) hp.2
  simp only [List.length_cons]
  omega
theorem rising_len {l : List Int} {m : Int} (h : risingD l m = true) : l.length ≤ (m + 1).toNat := by
 obtain ⟨h1, h2⟩ := rising_iff.1 h
 have := pw_len l 0 h1 h2
 simpa using this
theorem counts_len {l : List (Ty.den conf)} {m : Int} (h : countsD l m = true) : l.length ≤ 16 := by
 obtain ⟨h1, h2⟩ := counts_out h
 have := pw_len (m := 15) (l.map cF) 0 (fun x hx => by
  obtain ⟨y, hy, rfl⟩ := List.mem_map.1 hx
  exact ⟨(h1 y hy).1, (h1 y hy).2.1⟩) (by rw [List.pairwise_map]; exact h2)
 rw [List.length_map] at this
 exact this
theorem valid_all {x : Ty.den labT} (h : vX x = true) : (0 ≤ aU x ∧ aU x ≤ 50000000) ∧ (0 ≤ aT x ∧ aT x ≤ 255) ∧ (0 ≤ aK x ∧ aK x ≤ 255) ∧ (aL x).length ≤ 4 ∧ locksD (aL x) = true ∧ risingD (aE x) 19 = true ∧ countsD (aC x) 1 = true := by
 unfold vX validE inR at h
 simp only [Bool.and_eq_true, Bool.not_eq_true', decide_eq_false_iff_not, decide_eq_true_eq, ge_iff_le] at h
 obtain ⟨⟨⟨⟨⟨⟨h1, h2⟩, h3⟩, h4⟩, h5⟩, h6⟩, h7⟩ := h
 exact ⟨h1, h2, h3, by omega, h5, h6, h7⟩
theorem locks_out {l : List (Ty.den lockT)} (h : locksD l = true) : ∀ q ∈ l, risingD (kK q) 19 = true ∧ 1 ≤ kN q ∧ kN q ≤ (kK q).length := by
 intro q hq
 obtain ⟨i, hi, rfl⟩ := List.getElem_of_mem hq
 have := allI_true.1 h i hi
 unfold lkB at this
 have e1 : l.getD i lockT.dflt = l[i] := getD_eq hi _
 rw [e1] at this
 simp only [Bool.and_eq_true, decide_eq_true_eq, ge_iff_le] at this
 exact ⟨this.1.1, this.1.2.1, this.1.2.2⟩
theorem valid_sz {x : Ty.den labT} (h : vX x = true) : (aE x).length ≤ 20 ∧ (aC x).length ≤ 16 ∧ (aL x).length ≤ 4 ∧ ∀ q ∈ aL x, (kK q).length ≤ 20 := by
 obtain ⟨_, _, _, h4, h5, h6, h7⟩ := valid_all h
 exact ⟨rising_len h6, counts_len h7, h4, fun q hq => rising_len (locks_out h5 q hq).1⟩
theorem zero_sz : szX zeroL := ⟨Nat.zero_le _, Nat.zero_le _, Nat.zero_le _, fun q hq => by cases hq⟩
theorem join_sz {x y : Ty.den labT} (hx : vX x = true) (hy : vX y = true) : szX (joinT x y) := by
 obtain ⟨h1, h2, h3, h4⟩ := valid_sz hx
 obtain ⟨k1, k2, k3, k4⟩ := valid_sz hy
 refine ⟨?_, ?_, ?_, ?_⟩
 · have := unD_len sgn cbI (aE x) (aE y); show (unD sgn cbI (aE x) (aE y)).length ≤ _; omega
 · have := unD_len cmpC cbC (aC x) (aC y); show (unD cmpC cbC (aC x) (aC y)).length ≤ _; omega
 · have := unD_len cmpL cbL (aL x) (aL y); show (unD cmpL cbL (aL x) (aL y)).length ≤ _; omega
 · exact unD_mem (fun a b ha hb => ha) (fun q hq => by have := h4 q hq; omega) (fun q hq => by have := k4 q hq; omega)
theorem joinV_sz (x y : Ty.den labT) : szX (joinV x y) := by
 unfold joinV
 cases h : joinB x y with
 | false => exact zero_sz
 | true =>
  unfold joinB at h
  simp only [Bool.and_eq_true] at h
  exact join_sz h.1.1 h.1.2
def noL (x : Ty.den labT) : Ty.den labT := mkL (aU x) (aE x) (aC x) (aT x) (aK x) []
def belowB (x y : Ty.den labT) : Bool := vX x && vX y && (aL x).all (hasQ (aL y)) && sameB (joinV (noL x) y) y
theorem kp_nil {p : Ty.den lockT → Bool} {l : List (Ty.den lockT)} : kpG p l l.length = [] ↔ l.all p = true := by
 unfold kpG
 rw [List.take_length, List.filter_eq_nil_iff, List.all_eq_true]
 exact ⟨fun h x hx => by have := h x hx; simpa using this, fun h x hx => by simp [h x hx]⟩
theorem c19_ok (x y : Ty.den labT) (hx : szX x) (hy : szX y) : SemF Tryd.prog Γ 19 [labT.val x, labT.val y] [] [] (.sb (belowB x y)) [] [] := by
 have hx1 : szE (aE x) (aC x) (aL x) := hx
 have hy1 : szE (aE y) (aC y) (aL y) := hy
 have e2 : validE (aU y) (aE y) (aC y) (aT y) (aK y) (aL y) = vX y := rfl
 have e1 : validE (aU x) (aE x) (aC x) (aT x) (aK x) (aL x) = vX x := rfl
 have ey : mkL (aU y) (aE y) (aC y) (aT y) (aK y) (aL y) = y := (lab_ext _ _).2 ⟨rfl, rfl, rfl, rfl, rfl, rfl⟩
 by_cases h0 : aL x = []
 · have hxe : validE (aU x) (aE x) (aC x) (aT x) (aK x) [] = vX x := by rw [← h0]; rfl
   have hb : belowB x y = (vX x && vX y && sameB (joinV (noL x) y) y) := by unfold belowB; rw [h0]; simp
   have hsx : szE (aE x) (aC x) [] := ⟨hx1.1, hx1.2.1, Nat.zero_le _, fun q hq => by cases hq⟩
   have hrun := c19e_run (aU x) (aE x) (aC x) (aT x) (aK x) (aU y) (aE y) (aC y) (aT y) (aK y) (aL y)
   rw [ey, e2, hxe, decide_eq_true hsx, decide_eq_true hy1] at hrun
   have hp : pre_cx [] y 0 0 := ⟨rfl, rfl, ⟨Nat.zero_le _, fun q hq => by cases hq⟩, hy1.2.2⟩
   have hz : szX (mkL (aU x) (aE x) (aC x) (aT x) (aK x) []) := hsx
   rw [decide_eq_true hp, decide_eq_true (And.intro hz hy), decide_eq_true (And.intro (joinV_sz (mkL (aU x) (aE x) (aC x) (aT x) (aK x) []) y) hy)] at hrun
   refine SemF.args (of_runL cfg35_ok hrun ?_ ?_) ?_
   · cases vX x <;> cases vX y <;> rfl
   · rw [hb]
     unfold noL
     cases vX x <;> cases vX y <;> rfl
   · intro G c hc
     refine ⟨hc.1, fun j v cv h1 h2 => ?_⟩
     match j, h1 with
     | 0, h1 =>
      have := hc.2 0 _ cv rfl h2
      cases h1
      cases this with
      | agg hl hh =>
       refine .agg hl fun j v c h1 h2 => ?_
       match j, h1 with
       | 0, h1 => cases h1; exact hh 0 _ c rfl h2
       | 1, h1 => cases h1; exact hh 1 _ c rfl h2
       | 2, h1 => cases h1; exact hh 2 _ c rfl h2
       | 3, h1 => cases h1; exact hh 3 _ c rfl h2
       | 4, h1 => cases h1; exact hh 4 _ c rfl h2
       | 5, h1 =>
        have := hh 5 _ c rfl h2
        cases h1
        have e : (show List (Ty.den lockT) from x.2.2.2.2.2.1) = [] := h0
        cases this with
        | slst h =>
         have h : VRel G (.lst .ro ((aL x).map lockT.val)) c := h
         rw [h0] at h
         exact h
       | j + 6, h1 => cases h1
     | 1, h1 => cases h1; exact hc.2 1 _ cv rfl h2
     | j + 2, h1 => cases h1
 · have hpos : 0 < (aL x).length := List.length_pos_iff.2 h0
   have hc : (decide (0 < (aL x).length) && (some (decide ((aL x).length * 2 * 32 ≤ 281474976710656) && true)).getD true) = true := by
    have := hx1.2.2.1
    rw [decide_eq_true hpos, decide_eq_true (by omega)]; rfl
   by_cases hk : kpG (hasQ (aL y)) (aL x) (aL x).length = []
   · have ha := kp_nil.1 hk
     have eq := t19b_eq (aU x) (aE x) (aC x) (aT x) (aK x) (aL x) (aU y) (aE y) (aC y) (aT y) (aK y) (aL y)
     have hz : szX (mkL (aU x) (aE x) (aC x) (aT x) (aK x) []) := ⟨hx1.1, hx1.2.1, Nat.zero_le _, fun q hq => by cases hq⟩
     rw [ey, e1, e2, decide_eq_true hx1, decide_eq_true hy1, Bool.or_true, hc, decide_eq_true (show cn_h62 (aL x).length (aU y) (aE y) (aC y) (aT y) (aK y) (aL y) (aL x) from ⟨⟨rfl, hx1.2.2, hy1.2.2⟩, hk⟩), decide_eq_true (And.intro hz hy), decide_eq_true (And.intro (joinV_sz (mkL (aU x) (aE x) (aC x) (aT x) (aK x) []) y) hy)] at eq
     have hb : belowB x y = (vX x && vX y && sameB (joinV (noL x) y) y) := by unfold belowB; rw [ha]; simp
     rw [hb]
     cases vx : vX x <;> cases vy : vX y <;> rw [vx, vy] at eq
     · exact (of_val cfg36b_ok (eq.trans rfl)).weaken fun G cv h => by cases h; exact .sb _
     · exact (of_val cfg36b_ok (eq.trans rfl)).weaken fun G cv h => by cases h; exact .sb _
     · exact (of_val cfg36b_ok (eq.trans rfl)).weaken fun G cv h => by cases h; exact .sb _
     · exact of_val cfg36b_ok (eq.trans rfl)
   · have ha : ((aL x).all (hasQ (aL y))) = false := by
      cases hh : (aL x).all (hasQ (aL y)) with
      | false => rfl
      | true => exact absurd (kp_nil.2 hh) hk
     have hp2 : 0 < (kpG (hasQ (aL y)) (aL x) (aL x).length).length := List.length_pos_iff.2 hk
     have eq := t19_eq (aU x) (aE x) (aC x) (aT x) (aK x) (aL x) (aU y) (aE y) (aC y) (aT y) (aK y) (aL y)
     rw [e1, e2, decide_eq_true hx1, decide_eq_true hy1, Bool.or_true, hc, decide_eq_true (show cn_g62 (aL x).length (aU y) (aE y) (aC y) (aT y) (aK y) (aL y) (aL x) from ⟨rfl, hx1.2.2, hy1.2.2⟩), decide_eq_true (by omega : (Nat.cast (kpG (hasQ (aL y)) (aL x) (aL x).length).length : Int) > 0)] at eq
     have hb : belowB x y = false := by unfold belowB; rw [ha]; simp
     rw [hb]
     cases vx : vX x <;> cases vy : vX y <;> rw [vx, vy] at eq <;> exact (of_val cfg36_ok (eq.trans rfl)).weaken fun G cv h => by cases h; exact .sb _
def okR (x : Ty.den labT) : Bool := (aE x).all inr && (aL x).all fun q => (kK q).all inr
theorem wrap_zero {n : Int} (h : IntKind.i64.wrap n = 0) : n % 18446744073709551616 = 0 := by
 have e1 : (2 : Int) ^ 64 = 18446744073709551616 := rfl
 have e2 : (2 : Int) ^ (64 - 1) = 9223372036854775808 := rfl
 simp only [IntKind.wrap, IntKind.signed, IntKind.bits, Bool.true_and, decide_eq_true_eq, e1, e2] at h
 split at h <;> omega
theorem rcmp_zero : ∀ {a b : List Int}, a.all inr = true → b.all inr = true → a.length ≤ 1000000 → b.length ≤ 1000000 → (rcmp a b = 0 ↔ a = b)
 | [], b, _, _, _, h2 => by
  have e0 : ((([] : List Int).length : Nat) : Int) = 0 := rfl
  rw [rcmp_end (.inl rfl), e0, wrap_in (by omega) (by omega)]
  cases b <;> simp
  all_goals try omega
 | x :: a, [], _, _, h1, _ => by
  simp only [List.length_cons] at h1
  have e0 : ((([] : List Int).length : Nat) : Int) = 0 := rfl
  rw [rcmp_end (.inr rfl), e0, wrap_in (by simp only [List.length_cons]; omega) (by simp only [List.length_cons]; omega)]
  simp
  try omega
 | x :: a, y :: b, ha, hb, h1, h2 => by
  rw [List.all_cons, Bool.and_eq_true] at ha hb
  have hx := of_decide_eq_true ha.1
  have hy := of_decide_eq_true hb.1
  simp only [List.length_cons] at h1 h2
  unfold rcmp
  by_cases e : x = y
  · subst e
    rw [if_neg (by simp), rcmp_zero ha.2 hb.2 (by omega) (by omega)]
    simp
  · rw [if_pos e]
    constructor
    · intro h
      have := wrap_zero h
      omega
    · intro h; cases h; exact absurd rfl e
theorem c18_ok (x y : Ty.den labT) (hx : szX x) (hy : szX y) (ox : okR x = true) (oy : okR y = true) : SemF Tryd.prog Γ 18 [labT.val x, labT.val y] [] [] (.sb (sameB x y)) [] [] := by
 have hx1 : szE (aE x) (aC x) (aL x) := hx
 have hy1 : szE (aE y) (aC y) (aL y) := hy
 unfold okR at ox oy
 rw [Bool.and_eq_true] at ox oy
 have hr := rcmp_zero ox.1 oy.1 hx1.1 hy1.1
 refine of_runL cfg34_ok (c18_run (aU x) (aE x) (aC x) (aT x) (aK x) (aL x) (aU y) (aE y) (aC y) (aT y) (aK y) (aL y)) ?_ ?_
 · rw [decide_eq_true (And.intro hx1.1 hy1.1)]
   simp only [lenb, Bool.or_true, Option.getD_some, Bool.true_and]
   by_cases e1 : (aC x).length = (aC y).length
   · by_cases e2 : (aL x).length = (aL y).length
     · rw [decide_eq_true (show pre_s0 0 (aU x) (aE x) (aC x) (aT x) (aK x) (aL x) (aU y) (aE y) (aC y) (aT y) (aK y) (aL y) from ⟨rfl, e1, hx1.2.1⟩), decide_eq_true (show pre_s1 0 (aU x) (aE x) (aC x) (aT x) (aK x) (aL x) (aU y) (aE y) (aC y) (aT y) (aK y) (aL y) from ⟨rfl, e2, hx1.2.2, hy1.2.2⟩)]
       simp
     · rw [decide_eq_false e2]
       cases (aU x != aU y) <;> cases (aT x != aT y) <;> cases (aK x != aK y) <;> cases (rcmp (aE x) (aE y) != 0) <;> simp
   · rw [decide_eq_false e1]
     cases (aU x != aU y) <;> cases (aT x != aT y) <;> cases (aK x != aK y) <;> cases (rcmp (aE x) (aE y) != 0) <;> simp
 · congr 1
   rw [Bool.eq_iff_iff]
   unfold sameB
   rw [decide_eq_true_eq, lab_ext]
   simp only [lenb]
   by_cases h1 : aU x = aU y
   · by_cases h3 : aT x = aT y
     · by_cases h4 : aK x = aK y
       · by_cases h5 : aE x = aE y
         · have hr0 : rcmp (aE x) (aE y) = 0 := hr.2 h5
           have hr1 : rcmp (aE y) (aE y) = 0 := by rw [h5] at hr0; exact hr0
           by_cases l1 : (aC x).length = (aC y).length
           · by_cases l2 : (aL x).length = (aL y).length
             · have q1 := eqI_iff (c := beqC) (d := conf.dflt) l1 (fun x _ y _ => beqC_iff)
               have q2 := eqI_iff (c := beqR) (d := lockT.dflt) l2 (fun p hp q hq => by
                rw [lock_ext]
                unfold beqR
                have k := rcmp_zero (List.all_eq_true.1 ox.2 p hp) (List.all_eq_true.1 oy.2 q hq) (hx1.2.2.2 p hp) (hy1.2.2.2 q hq)
                cases hb : (kN p == kN q) with
                | true => simp only [cond_true, beq_iff_eq, k]; rw [beq_iff_eq] at hb; simp [hb]
                | false => rw [beq_eq_false_iff_ne] at hb; simp [hb])
               by_cases g1 : eqI beqC conf.dflt (aC x) (aC y) = true <;> by_cases g2 : eqI beqR lockT.dflt (aL x) (aL y) = true <;> simp [h1, h3, h4, h5, l1, l2, g1, g2, hr0, hr1, ← q1, ← q2]
             · have : ¬ aL x = aL y := fun e => l2 (congrArg List.length e)
               simp [h1, h3, h4, h5, l1, l2, hr0, hr1, this]
           · have : ¬ aC x = aC y := fun e => l1 (congrArg List.length e)
             simp [h1, h3, h4, h5, l1, hr0, hr1, this]
         · have hr0 : ¬ rcmp (aE x) (aE y) = 0 := fun e => h5 (hr.1 e)
           simp [h1, h3, h4, h5, hr0]
       · simp [h1, h3, h4]
     · simp [h1, h3]
   · simp [h1]
end L
end Go.Proofs.YthjiodeaepigmaaDoor

/- Package label: LabelJoins, LabelLattice reckoned. -/
set_option linter.unusedVariables false
set_option linter.unusedSimpArgs false
set_option maxRecDepth 100000
set_option maxHeartbeats 4000000
namespace Go.Proofs.YthjiodeaepigmaaDoor
open Go
namespace L
def e19 (x y : Ty.den labT) : Option Bool × V := (some (decide (szX x ∧ szX y)), .sb (belowB x y))
theorem e19_of (x y : Ty.den labT) (h : (e19 x y).1.getD true = true) : SemF Tryd.prog Γ 19 [labT.val x, labT.val y] [] [] (e19 x y).2 [] [] := c19_ok x y (of_decide_eq_true h).1 (of_decide_eq_true h).2
def fitB (x y : Ty.den labT) : Prop := (szX x ∧ szX y) ∧ okR x = true ∧ okR y = true
instance (x y : Ty.den labT) : Decidable (fitB x y) := inferInstanceAs (Decidable (_ ∧ _))
def e18 (x y : Ty.den labT) : Option Bool × V := (some (decide (fitB x y)), .sb (sameB x y))
theorem e18_of (x y : Ty.den labT) (h : (e18 x y).1.getD true = true) : SemF Tryd.prog Γ 18 [labT.val x, labT.val y] [] [] (e18 x y).2 [] [] := c18_ok x y (of_decide_eq_true h).1.1 (of_decide_eq_true h).1.2 (of_decide_eq_true h).2.1 (of_decide_eq_true h).2.2
noncomputable def orc38 : Orc := fun f args => if f = 18 then (Ty.ofVs [labT, labT] args).map (fun x => e18 x.1 x.2.1) else (fun f args => if f = 19 then (Ty.ofVs [labT, labT] args).map (fun x => e19 x.1 x.2.1) else orc35 f args) f args
theorem orc38_ok : OrcOk Tryd.prog Γ orc38 := (orc35_ok.plain 19 [labT, labT] (fun x => e19 x.1 x.2.1) Tryd.f19 Tryd.func19 rfl (by kernel_rfl) (fun x h => e19_of _ _ h)).plain 18 [labT, labT] (fun x => e18 x.1 x.2.1) Tryd.f18 Tryd.func18 rfl (by kernel_rfl) (fun x h => e18_of _ _ h)
noncomputable def cfg38 : Cfg := cfgT T36 isT36 orc38 lo35
theorem cfg38_ok : CfgOk Tryd.prog Γ cfg38 := cfgT_ok T36_ok orc38_ok lo35_ok
end L
end Go.Proofs.YthjiodeaepigmaaDoor

/- Package label: the laws of unions and of joins, in plain terms. -/
set_option linter.unusedVariables false
set_option linter.unusedSimpArgs false
set_option maxRecDepth 100000
set_option maxHeartbeats 4000000
namespace Go.Proofs.YthjiodeaepigmaaDoor
open Go
namespace L
section
variable {α : Type} {cmp : α → α → Int} {cb : α → α → α}
theorem un_nil (b : List α) : unD cmp cb [] b = b := by unfold unD; rw [mgA_nil]; rfl
theorem un_end (a : List α) : unD cmp cb a [] = a := by unfold unD; rw [mgA_end]; simp
theorem un_cons (x y : α) (a b : List α) : unD cmp cb (x :: a) (y :: b) = if cmp x y < 0 then x :: unD cmp cb a (y :: b) else if cmp x y > 0 then y :: unD cmp cb (x :: a) b else cb x y :: unD cmp cb a b := by
 unfold unD
 rw [mgA_cons]
 split
 · rfl
 · split <;> rfl
structure Ord (cmp : α → α → Int) (cb : α → α → α) : Prop where
 tr : ∀ {x y z}, cmp x y < 0 → cmp y z < 0 → cmp x z < 0
 sy : ∀ {x y}, cmp x y > 0 ↔ cmp y x < 0
 zl : ∀ {x y} z, cmp x y = 0 → cmp y z = cmp x z
 cb1 : ∀ {x y} z, cmp x y = 0 → cmp (cb x y) z = cmp x z
 cbc : ∀ {x y}, cmp x y = 0 → cb x y = cb y x
 cba : ∀ {x y z}, cmp x y = 0 → cmp y z = 0 → cb (cb x y) z = cb x (cb y z)
 cbi : ∀ x, cb x x = x
namespace Ord
variable (h : Ord cmp cb)
include h
theorem z0 {x y : α} : cmp x y = 0 → cmp y x = 0 := fun e => by
 have h1 := h.sy (x := x) (y := y)
 have h2 := h.sy (x := y) (y := x)
 omega
theorem refl (x : α) : cmp x x = 0 := by
 have h1 := h.sy (x := x) (y := x)
 omega
theorem zr {x y : α} (z : α) (e : cmp x y = 0) : (cmp z y < 0 ↔ cmp z x < 0) ∧ (cmp z y = 0 ↔ cmp z x = 0) ∧ (cmp z y > 0 ↔ cmp z x > 0) := by
 have e1 := h.zl z e
 have a1 := h.sy (x := z) (y := y)
 have a2 := h.sy (x := y) (y := z)
 have a3 := h.sy (x := z) (y := x)
 have a4 := h.sy (x := x) (y := z)
 omega
theorem cb2 {x y : α} (z : α) (e : cmp x y = 0) : (cmp z (cb x y) < 0 ↔ cmp z x < 0) ∧ (cmp z (cb x y) = 0 ↔ cmp z x = 0) ∧ (cmp z (cb x y) > 0 ↔ cmp z x > 0) := by
 have e1 := h.cb1 z e
 have a1 := h.sy (x := z) (y := cb x y)
 have a2 := h.sy (x := cb x y) (y := z)
 have a3 := h.sy (x := z) (y := x)
 have a4 := h.sy (x := x) (y := z)
 omega
theorem all {p : α → Prop} (hp : ∀ x y, cmp x y = 0 → (p (cb x y) ↔ p x ∧ p y)) : ∀ (n : Nat) (a b : List α), a.length + b.length ≤ n → ((∀ w ∈ unD cmp cb a b, p w) ↔ (∀ x ∈ a, p x) ∧ ∀ y ∈ b, p y)
 | _, [], b, _ => by have _ := h.refl; rw [un_nil]; simp
 | _, x :: a, [], _ => by rw [un_end]; simp
 | 0, x :: a, y :: b, hn => by simp at hn
 | n + 1, x :: a, y :: b, hn => by
  simp only [List.length_cons] at hn
  rw [un_cons]
  split
  · rw [List.forall_mem_cons, all hp n a (y :: b) (by simp only [List.length_cons]; omega), List.forall_mem_cons (a := x), and_assoc]
  · split
    · rw [List.forall_mem_cons, all hp n (x :: a) b (by simp only [List.length_cons]; omega), List.forall_mem_cons (a := y)]
      constructor
      · rintro ⟨q1, q2, q3⟩; exact ⟨q2, q1, q3⟩
      · rintro ⟨q1, q2, q3⟩; exact ⟨q2, q1, q3⟩
    · rw [List.forall_mem_cons, all hp n a b (by omega), List.forall_mem_cons (a := x), List.forall_mem_cons (a := y), hp x y (by omega)]
      constructor
      · rintro ⟨⟨q1, q2⟩, q3, q4⟩; exact ⟨⟨q1, q3⟩, q2, q4⟩
      · rintro ⟨⟨q1, q3⟩, q2, q4⟩; exact ⟨⟨q1, q2⟩, q3, q4⟩
theorem sorted : ∀ (n : Nat) (a b : List α), a.length + b.length ≤ n → a.Pairwise (fun x y => cmp x y < 0) → b.Pairwise (fun x y => cmp x y < 0) → (unD cmp cb a b).Pairwise (fun x y => cmp x y < 0)
 | _, [], b, _, _, hb => by rw [un_nil]; exact hb
 | _, x :: a, [], _, ha, _ => by rw [un_end]; exact ha
 | 0, x :: a, y :: b, hn, _, _ => by simp at hn
 | n + 1, x :: a, y :: b, hn, ha, hb => by
  simp only [List.length_cons] at hn
  rw [un_cons]
  obtain ⟨a1, a2⟩ := List.pairwise_cons.1 ha
  obtain ⟨b1, b2⟩ := List.pairwise_cons.1 hb
  have key : ∀ (z : α), ∀ u v, cmp u v = 0 → (cmp z (cb u v) < 0 ↔ cmp z u < 0 ∧ cmp z v < 0) := fun z u v e => by
   rw [(h.cb2 z e).1, (h.zr z e).1, and_self]
  split
  · rename_i c
    refine List.pairwise_cons.2 ⟨(h.all (key x) _ a (y :: b) (Nat.le_refl _)).2 ⟨a1, fun w hw => ?_⟩, sorted n a (y :: b) (by simp only [List.length_cons]; omega) a2 hb⟩
    rcases List.mem_cons.1 hw with rfl | hw
    · exact c
    · exact h.tr c (b1 w hw)
  · split
    · rename_i c
      have c := h.sy.1 c
      refine List.pairwise_cons.2 ⟨(h.all (key y) _ (x :: a) b (Nat.le_refl _)).2 ⟨fun w hw => ?_, b1⟩, sorted n (x :: a) b (by simp only [List.length_cons]; omega) ha b2⟩
      rcases List.mem_cons.1 hw with rfl | hw
      · exact c
      · exact h.tr c (a1 w hw)
    · rename_i c1 c2
      have e : cmp x y = 0 := by omega
      refine List.pairwise_cons.2 ⟨(h.all (key (cb x y)) _ a b (Nat.le_refl _)).2 ⟨fun w hw => ?_, fun w hw => ?_⟩, sorted n a b (by omega) a2 b2⟩
      · rw [h.cb1 w e]; exact a1 w hw
      · rw [h.cb1 w e, ← h.zl w e]; exact b1 w hw
theorem absorb (hz : ∀ x y, cmp x y = 0 → x = y) : ∀ (n : Nat) (a b : List α), a.length + b.length ≤ n → a.Pairwise (fun x y => cmp x y < 0) → b.Pairwise (fun x y => cmp x y < 0) → (∀ x ∈ a, x ∈ b) → unD cmp cb a b = b
 | _, [], b, _, _, _, _ => un_nil _
 | _, x :: a, [], _, _, _, hs => by cases hs x (List.mem_cons_self ..)
 | 0, x :: a, y :: b, hn, _, _, _ => by simp at hn
 | n + 1, x :: a, y :: b, hn, ha, hb, hs => by
  simp only [List.length_cons] at hn
  obtain ⟨a1, a2⟩ := List.pairwise_cons.1 ha
  obtain ⟨b1, b2⟩ := List.pairwise_cons.1 hb
  have r := h.refl x
  rw [un_cons]
  rcases List.mem_cons.1 (hs x (List.mem_cons_self ..)) with e | hx
  · subst e
    rw [if_neg (by omega), if_neg (by omega), h.cbi, absorb hz n a b (by omega) a2 b2 fun z hz' => ?_]
    rcases List.mem_cons.1 (hs z (List.mem_cons_of_mem _ hz')) with e | hm
    · subst e
      have := a1 z hz'
      have := h.refl z
      omega
    · exact hm
  · have c := h.sy.2 (b1 x hx)
    rw [if_neg (by omega), if_pos c, absorb hz n (x :: a) b (by simp only [List.length_cons]; omega) ha b2 fun z hz' => ?_]
    rcases List.mem_cons.1 (hs z hz') with e | hm
    · subst e
      rcases List.mem_cons.1 hz' with e | hm2
      · subst e; exact hx
      · have k1 := a1 z hm2
        have k2 := h.sy.1 c
        have k3 := h.tr k1 k2
        omega
    · exact hm
end Ord
end
theorem sgn_cases (a b : Int) : (sgn a b < 0 ↔ a < b) ∧ (sgn a b > 0 ↔ b < a) ∧ (sgn a b = 0 ↔ a = b) := by
 unfold sgn
 split
 · omega
 · split <;> omega
theorem ordI : Ord sgn cbI where
 tr := fun {x y z} a b => by
  rw [(sgn_cases _ _).1] at *
  omega
 sy := fun {x y} => by rw [(sgn_cases _ _).2.1, (sgn_cases _ _).1]
 zl := fun z e => by rw [sgn_zero.1 e]
 cb1 := fun z e => rfl
 cbc := fun e => sgn_zero.1 e
 cba := fun _ _ => rfl
 cbi := fun _ => rfl
theorem ordC : Ord cmpC cbC where
 tr := fun {x y z} a b => by
  unfold cmpC at *
  rw [(sgn_cases _ _).1] at *
  omega
 sy := fun {x y} => by unfold cmpC; rw [(sgn_cases _ _).2.1, (sgn_cases _ _).1]
 zl := fun z e => by unfold cmpC at *; rw [sgn_zero.1 e]
 cb1 := fun z e => rfl
 cbc := fun {x y} e => by
  rw [conf_ext]
  have e : cF x = cF y := sgn_zero.1 e
  refine ⟨e, ?_⟩
  show (if cC y > cC x then cC y else cC x) = (if cC x > cC y then cC x else cC y)
  split <;> split <;> omega
 cba := fun {x y z} _ _ => by
  rw [conf_ext]
  refine ⟨rfl, ?_⟩
  show (if cC z > (if cC y > cC x then cC y else cC x) then cC z else (if cC y > cC x then cC y else cC x)) = (if (if cC z > cC y then cC z else cC y) > cC x then (if cC z > cC y then cC z else cC y) else cC x)
  repeat' split
  all_goals omega
 cbi := fun x => by
  rw [conf_ext]
  refine ⟨rfl, ?_⟩
  show (if cC x > cC x then cC x else cC x) = cC x
  split <;> rfl
theorem lexC_sy : ∀ {a b : List Int}, lexC a b > 0 ↔ lexC b a < 0
 | [], [] => by simp [lexC]
 | [], y :: b => by simp [lexC]
 | x :: a, [] => by simp [lexC]
 | x :: a, y :: b => by
  have h1 := sgn_cases x y
  have h2 := sgn_cases y x
  unfold lexC
  by_cases e : sgn x y = 0
  · rw [if_neg (by simpa using e), if_neg (by have := h1.2.2.1 e; have := h2.2.2.2 this.symm; simpa using this)]
    exact lexC_sy
  · rw [if_pos e, if_pos (by intro k; exact e (h1.2.2.2 (h2.2.2.1 k).symm))]
    omega
theorem lexC_tr : ∀ {a b c : List Int}, lexC a b < 0 → lexC b c < 0 → lexC a c < 0
 | [], [], c, h, _ => by simp [lexC] at h
 | [], y :: b, [], _, h => by simp [lexC] at h
 | [], y :: b, z :: c, _, _ => by simp [lexC]
 | x :: a, [], c, h, _ => by simp [lexC] at h
 | x :: a, y :: b, [], _, h => by simp [lexC] at h
 | x :: a, y :: b, z :: c, h1, h2 => by
  unfold lexC at h1 h2 ⊢
  have k1 := sgn_cases x y
  have k2 := sgn_cases y z
  have k3 := sgn_cases x z
  by_cases e1 : sgn x y = 0
  · rw [if_neg (by simpa using e1)] at h1
    have := k1.2.2.1 e1
    subst this
    by_cases e2 : sgn x z = 0
    · rw [if_neg (by simpa using e2)] at h2 ⊢
      exact lexC_tr h1 h2
    · rw [if_pos e2] at h2 ⊢
      exact h2
  · rw [if_pos e1] at h1
    by_cases e2 : sgn y z = 0
    · have := k2.2.2.1 e2
      subst this
      rw [if_pos e1]
      exact h1
    · rw [if_pos e2] at h2
      rw [if_pos (by omega)]
      omega
theorem cmpL_lex (x y : Ty.den lockT) : cmpL x y = if sgn (kN x) (kN y) ≠ 0 then sgn (kN x) (kN y) else lexC (kK x) (kK y) := rfl
theorem ordL : Ord cmpL cbL where
 tr := fun {x y z} a b => by
  rw [cmpL_lex] at *
  generalize kN x = n at *
  generalize kN y = m at *
  generalize kN z = k at *
  have k1 := sgn_cases n m
  have k2 := sgn_cases m k
  have k3 := sgn_cases n k
  by_cases e1 : sgn n m = 0
  · rw [if_neg (by simpa using e1)] at a
    have := k1.2.2.1 e1
    subst this
    by_cases e2 : sgn n k = 0
    · rw [if_neg (by simpa using e2)] at b ⊢
      exact lexC_tr a b
    · rw [if_pos e2] at b ⊢
      exact b
  · rw [if_pos e1] at a
    by_cases e2 : sgn m k = 0
    · have := k2.2.2.1 e2
      subst this
      rw [if_pos e1]
      exact a
    · rw [if_pos e2] at b
      rw [if_pos (by omega)]
      omega
 sy := fun {x y} => by
  rw [cmpL_lex, cmpL_lex]
  generalize kN x = n
  generalize kN y = m
  have h1 := sgn_cases n m
  have h2 := sgn_cases m n
  by_cases e : sgn n m = 0
  · rw [if_neg (by simpa using e), if_neg (by have := h1.2.2.1 e; have := h2.2.2.2 this.symm; simpa using this)]
    exact lexC_sy
  · rw [if_pos e, if_pos (by intro k; exact e (h1.2.2.2 (h2.2.2.1 k).symm))]
    omega
 zl := fun z e => by rw [cmpL_zero.1 e]
 cb1 := fun z e => rfl
 cbc := fun e => cmpL_zero.1 e
 cba := fun _ _ => rfl
 cbi := fun _ => rfl
end L
end Go.Proofs.YthjiodeaepigmaaDoor

/- Package label: labels as a lattice, in plain terms. -/
set_option linter.unusedVariables false
set_option linter.unusedSimpArgs false
set_option maxRecDepth 100000
set_option maxHeartbeats 4000000
namespace Go.Proofs.YthjiodeaepigmaaDoor
open Go
namespace L
theorem valid_of {x : Ty.den labT} (h1 : 0 ≤ aU x ∧ aU x ≤ 50000000) (h2 : 0 ≤ aT x ∧ aT x ≤ 255) (h3 : 0 ≤ aK x ∧ aK x ≤ 255) (h4 : (aL x).length ≤ 4) (h5 : locksD (aL x) = true) (h6 : risingD (aE x) 19 = true) (h7 : countsD (aC x) 1 = true) : vX x = true := by
 unfold vX validE
 rw [inR_of h1.1 h1.2, inR_of h2.1 h2.2, inR_of h3.1 h3.2, h5, h6, h7, decide_eq_false (by omega)]; rfl
theorem locks_iff {l : List (Ty.den lockT)} : locksD l = true ↔ (∀ q ∈ l, risingD (kK q) 19 = true ∧ 1 ≤ kN q ∧ kN q ≤ (kK q).length) ∧ l.Pairwise fun x y => cmpL x y < 0 := by
 constructor
 · intro h
   refine ⟨locks_out h, ?_⟩
   have hb : ∀ j (hj : j + 1 < l.length), cmpL l[j] l[j + 1] < 0 := fun j hj => by
    have := allI_true.1 h (j + 1) hj
    unfold lkB at this
    have e0 : l.getD (j + 1 - 1) lockT.dflt = l[j] := getD_eq (show j < l.length by omega) _
    have e1 : l.getD (j + 1) lockT.dflt = l[j + 1] := getD_eq hj _
    rw [e0, e1] at this
    simp only [Bool.and_eq_true, Bool.or_eq_true, Bool.not_eq_true', decide_eq_true_eq, decide_eq_false_iff_not] at this
    rcases this.2 with k | k
    · omega
    · exact k
   rw [List.pairwise_iff_getElem]
   intro i j hi hj hij
   induction j with
   | zero => omega
   | succ j ih =>
    by_cases e : i = j
    · subst e; exact hb i hj
    · exact ordL.tr (ih (by omega) (by omega)) (hb j hj)
 · rintro ⟨h1, h2⟩
   refine allI_true.2 fun i hi => ?_
   unfold lkB
   have e1 : l.getD i lockT.dflt = l[i] := getD_eq hi _
   obtain ⟨a, b, c⟩ := h1 l[i] (List.getElem_mem hi)
   rw [e1, a, decide_eq_true (show kN l[i] ≥ 1 from b), decide_eq_true c]
   rw [List.pairwise_iff_getElem] at h2
   match i, hi, e1 with
   | 0, _, _ => rfl
   | i + 1, hi, _ =>
    have e0 : l.getD (i + 1 - 1) lockT.dflt = l[i] := getD_eq (show i < l.length by omega) _
    rw [e0, decide_eq_true (h2 i (i + 1) (by omega) hi (by omega)), Bool.or_true]
    rfl
theorem andI_nat {a b : Nat} (ha : a ≤ 255) : andI (a : Int) (b : Int) = ((a &&& b : Nat) : Int) ∧ a &&& b ≤ a := by
 have h0 : a &&& b ≤ a := Nat.and_le_left
 refine ⟨?_, h0⟩
 unfold andI
 have h : (BitVec.ofInt 64 (a : Int) &&& BitVec.ofInt 64 (b : Int)).toNat = a &&& b := by
  rw [BitVec.ofInt_natCast, BitVec.ofInt_natCast, BitVec.toNat_and, BitVec.toNat_ofNat, BitVec.toNat_ofNat, Nat.mod_eq_of_lt (by omega)]
  apply Nat.eq_of_testBit_eq
  intro i
  rw [Nat.testBit_and, Nat.testBit_and, Nat.testBit_mod_two_pow]
  by_cases hi : i < 64
  · simp [hi]
  · have : a.testBit i = false := Nat.testBit_lt_two_pow (by have : 2 ^ 64 ≤ 2 ^ i := Nat.pow_le_pow_right (by decide) (by omega); omega)
    simp [this]
 rw [h]
 exact wrap_in (by omega) (by omega)
theorem noBit_nat {a k : Nat} (ha : a ≤ 255) (hk : k ≤ 7) : noBit (a : Int) (k : Int) = !a.testBit k := by
 have e1 : (a : Int).fdiv (2 ^ min (k : Int).toNat 64) = ((a / 2 ^ k : Nat) : Int) := by
  rw [Int.toNat_natCast, Nat.min_eq_left (by omega), Int.fdiv_eq_ediv_of_nonneg _ (by exact Int.le_of_lt (Int.pow_pos (by decide)))]
  rw [Int.natCast_ediv, Int.natCast_pow]; rfl
 have e2 : a / 2 ^ k ≤ 255 := Nat.le_trans (Nat.div_le_self _ _) ha
 have e3 := (andI_nat (b := 1) e2).1
 unfold noBit
 rw [e1]
 have e4 : IntKind.i64.wrap (((BitVec.ofInt 64 ((a / 2 ^ k : Nat) : Int) &&& BitVec.ofInt 64 (1 : Int)).toNat : Nat) : Int) = andI ((a / 2 ^ k : Nat) : Int) ((1 : Nat) : Int) := rfl
 rw [e4, e3, Nat.and_one_is_mod, Nat.testBit_eq_decide_div_mod_eq]
 have : a / 2 ^ k % 2 < 2 := Nat.mod_lt _ (by decide)
 rcases (show a / 2 ^ k % 2 = 0 ∨ a / 2 ^ k % 2 = 1 by omega) with h | h <;> rw [h] <;> rfl
theorem andI_in {a b : Int} (ha : 0 ≤ a ∧ a ≤ 255) (hb : 0 ≤ b ∧ b ≤ 255) : 0 ≤ andI a b ∧ andI a b ≤ 255 := by
 obtain ⟨a, rfl⟩ := Int.eq_ofNat_of_zero_le ha.1
 obtain ⟨b, rfl⟩ := Int.eq_ofNat_of_zero_le hb.1
 obtain ⟨e1, e2⟩ := andI_nat (a := a) (b := b) (by omega)
 rw [e1]
 omega
theorem maxI_le {a b c : Int} : maxI a b ≤ c ↔ a ≤ c ∧ b ≤ c := by unfold maxI; split <;> omega
theorem maxI_ge {a b : Int} : a ≤ maxI a b ∧ b ≤ maxI a b := by unfold maxI; split <;> omega
theorem un_locks {a b : List (Ty.den lockT)} (ha : locksD a = true) (hb : locksD b = true) : locksD (unD cmpL cbL a b) = true := by
 obtain ⟨a1, a2⟩ := locks_iff.1 ha
 obtain ⟨b1, b2⟩ := locks_iff.1 hb
 exact locks_iff.2 ⟨(ordL.all (fun x y e => by rw [cmpL_zero.1 e]; simp [cbL]) _ a b (Nat.le_refl _)).2 ⟨a1, b1⟩, ordL.sorted _ a b (Nat.le_refl _) a2 b2⟩
theorem pw_sgn {l : List Int} : l.Pairwise (fun x y => sgn x y < 0) ↔ l.Pairwise (· < ·) := by
 have : (fun x y => sgn x y < 0) = fun x y : Int => x < y := by funext x y; exact propext (sgn_cases x y).1
 rw [this]
theorem pw_cmpC {l : List (Ty.den conf)} : l.Pairwise (fun x y => cmpC x y < 0) ↔ l.Pairwise fun x y => cF x < cF y := by
 have : (fun x y => cmpC x y < 0) = fun x y : Ty.den conf => cF x < cF y := by funext x y; exact propext (sgn_cases (cF x) (cF y)).1
 rw [this]
theorem cbC_c {x y : Ty.den conf} : cC x ≤ cC (cbC x y) ∧ cC y ≤ cC (cbC x y) ∧ (cC (cbC x y) = cC x ∨ cC (cbC x y) = cC y) := by
 show cC x ≤ (if cC y > cC x then cC y else cC x) ∧ cC y ≤ (if cC y > cC x then cC y else cC x) ∧ ((if cC y > cC x then cC y else cC x) = cC x ∨ (if cC y > cC x then cC y else cC x) = cC y)
 split <;> omega
theorem un_rising {a b : List Int} (ha : risingD a 19 = true) (hb : risingD b 19 = true) : risingD (unD sgn cbI a b) 19 = true := by
 obtain ⟨a1, a2⟩ := rising_iff.1 ha
 obtain ⟨b1, b2⟩ := rising_iff.1 hb
 exact rising_iff.2 ⟨(ordI.all (fun x y e => by rw [sgn_zero.1 e]; simp [cbI]) _ a b (Nat.le_refl _)).2 ⟨a1, b1⟩, pw_sgn.1 (ordI.sorted _ a b (Nat.le_refl _) (pw_sgn.2 a2) (pw_sgn.2 b2))⟩
theorem un_all {α : Type} {cmp : α → α → Int} {cb : α → α → α} {p : α → Prop} (hc : ∀ x y, p x → p y → p (cb x y)) {a b : List α} (ha : ∀ x ∈ a, p x) (hb : ∀ x ∈ b, p x) : ∀ x ∈ unD cmp cb a b, p x := by
 obtain ⟨q1, q2, q3⟩ := mgA_all (cmp := cmp) hc _ a b (Nat.le_refl _) ha hb
 intro x hx
 unfold unD at hx
 rw [List.mem_append, List.mem_append] at hx
 rcases hx with (h | h) | h
 · exact q1 x h
 · exact q2 x h
 · exact q3 x h
theorem un_counts {a b : List (Ty.den conf)} (ha : countsD a 1 = true) (hb : countsD b 1 = true) : countsD (unD cmpC cbC a b) 1 = true := by
 obtain ⟨a1, a2⟩ := counts_out ha
 obtain ⟨b1, b2⟩ := counts_out hb
 refine counts_iff (un_all (fun x y hx hy => ?_) a1 b1) (pw_cmpC.1 (ordC.sorted _ a b (Nat.le_refl _) (pw_cmpC.2 a2) (pw_cmpC.2 b2)))
 have e : cF (cbC x y) = cF x := rfl
 have := cbC_c (x := x) (y := y)
 omega
theorem join_valid {x y : Ty.den labT} (hx : vX x = true) (hy : vX y = true) (h : (unL x y).length ≤ 4) : vX (joinT x y) = true := by
 obtain ⟨x1, x2, x3, x4, x5, x6, x7⟩ := valid_all hx
 obtain ⟨y1, y2, y3, y4, y5, y6, y7⟩ := valid_all hy
 have := maxI_ge (a := aU x) (b := aU y)
 exact valid_of (x := joinT x y) ⟨Int.le_trans x1.1 this.1, maxI_le.2 ⟨x1.2, y1.2⟩⟩ (andI_in x2 y2) (andI_in x3 y3) h (un_locks x5 y5) (un_rising x6 y6) (un_counts x7 y7)
theorem join_b {x y : Ty.den labT} (hx : vX x = true) (hy : vX y = true) (h : (unL x y).length ≤ 4) : joinV x y = joinT x y ∧ joinN x y = 0 := by
 have : joinB x y = true := by unfold joinB; rw [hx, hy, decide_eq_true h]; rfl
 unfold joinV joinN
 rw [this]
 exact ⟨rfl, rfl⟩
theorem hasQ_iff {l : List (Ty.den lockT)} {q : Ty.den lockT} : hasQ l q = true ↔ q ∈ l := by
 unfold hasQ
 rw [decide_eq_true_eq, List.findIdx_lt_length]
 constructor
 · rintro ⟨p, hp, e⟩; rw [← beqL_iff.1 e]; exact hp
 · intro h; exact ⟨q, h, beqL_iff.2 rfl⟩
theorem noL_valid {x : Ty.den labT} (hx : vX x = true) : vX (noL x) = true := by
 obtain ⟨x1, x2, x3, x4, x5, x6, x7⟩ := valid_all hx
 exact valid_of (x := noL x) x1 x2 x3 (Nat.zero_le _) (locks_iff.2 ⟨(fun q hq => nomatch hq), List.Pairwise.nil⟩) x6 x7
theorem noL_un (x y : Ty.den labT) : unL (noL x) y = aL y := un_nil _
theorem below_iff {x y : Ty.den labT} (hx : vX x = true) (hy : vX y = true) : belowB x y = true ↔ joinT x y = y := by
 obtain ⟨x1, x2, x3, x4, x5, x6, x7⟩ := valid_all hx
 obtain ⟨y1, y2, y3, y4, y5, y6, y7⟩ := valid_all hy
 have hl : (unL (noL x) y).length ≤ 4 := by rw [noL_un]; exact y4
 have hL : unL x y = aL y ↔ (aL x).all (hasQ (aL y)) = true := by
  rw [List.all_eq_true]
  constructor
  · intro e q hq
    have := (ordL.all (p := fun q => q ∈ unL x y) (fun u v e => by rw [cmpL_zero.1 e]; simp [cbL]) _ (aL x) (aL y) (Nat.le_refl _)).1 (fun w hw => hw)
    rw [hasQ_iff, ← e]
    exact this.1 q hq
  · intro h
    exact ordL.absorb (fun u v e => cmpL_zero.1 e) _ (aL x) (aL y) (Nat.le_refl _) (locks_iff.1 x5).2 (locks_iff.1 y5).2 fun q hq => hasQ_iff.1 (h q hq)
 unfold belowB
 rw [hx, hy, (join_b (noL_valid hx) hy hl).1, Bool.true_and, Bool.true_and, Bool.and_eq_true]
 unfold sameB
 rw [decide_eq_true_eq, ← hL, lab_ext, lab_ext]
 have e : aL (joinT (noL x) y) = aL y := noL_un x y
 constructor
 · rintro ⟨a, b1, b2, b3, b4, b5, _⟩
   exact ⟨b1, b2, b3, b4, b5, a⟩
 · rintro ⟨b1, b2, b3, b4, b5, a⟩
   exact ⟨a, b1, b2, b3, b4, b5, e⟩
end L
end Go.Proofs.YthjiodeaepigmaaDoor



/- Package label: LabelLattice's loop, in plain terms. -/
set_option linter.unusedVariables false
set_option linter.unusedSimpArgs false
set_option maxRecDepth 100000
set_option maxHeartbeats 4000000
namespace Go.Proofs.YthjiodeaepigmaaDoor
open Go
namespace L
def anyI (n : Nat) (f : Nat → Bool) : Bool := (List.range n).any f
theorem anyI_succ (n : Nat) (f : Nat → Bool) : anyI (n + 1) f = (anyI n f || f n) := by unfold anyI; rw [List.range_succ, List.any_append]; simp
def good (x : Ty.den labT) : Prop := szX x ∧ okR x = true
theorem rising_inr {l : List Int} (h : risingD l 19 = true) : l.all inr = true := by
 rw [List.all_eq_true]
 intro x hx
 obtain ⟨h1, h2⟩ := (rising_iff.1 h).1 x hx
 exact decide_eq_true ⟨by omega, by omega⟩
theorem good_valid {x : Ty.den labT} (h : vX x = true) : good x := by
 obtain ⟨s1, s2, s3, s4⟩ := valid_sz h
 obtain ⟨_, _, _, _, h5, h6, _⟩ := valid_all h
 refine ⟨⟨by omega, by omega, by omega, fun q hq => by have := s4 q hq; omega⟩, ?_⟩
 unfold okR
 rw [rising_inr h6, Bool.true_and, List.all_eq_true]
 exact fun q hq => rising_inr (locks_out h5 q hq).1
theorem good_zero : good zeroL := ⟨zero_sz, rfl⟩
theorem sz_dec {x y : Ty.den labT} (hx : good x) (hy : good y) : decide (szX x ∧ szX y) = true := decide_eq_true ⟨hx.1, hy.1⟩
theorem fit_dec {x y : Ty.den labT} (hx : good x) (hy : good y) : decide (fitB x y) = true := decide_eq_true ⟨⟨hx.1, hy.1⟩, hx.2, hy.2⟩
theorem same_self (x : Ty.den labT) : sameB x x = true := decide_eq_true rfl
theorem Ord.absorbD {α : Type} {cmp : α → α → Int} {cb : α → α → α} (h : Ord cmp cb) : ∀ (n : Nat) (a b : List α), a.length + b.length ≤ n → a.Pairwise (fun x y => cmp x y < 0) → b.Pairwise (fun x y => cmp x y < 0) → (∀ x ∈ a, ∃ z ∈ b, cmp x z = 0 ∧ cb x z = z) → unD cmp cb a b = b
 | _, [], b, _, _, _, _ => un_nil _
 | _, x :: a, [], _, _, _, hs => by obtain ⟨z, hz, _⟩ := hs x (List.mem_cons_self ..); cases hz
 | 0, x :: a, y :: b, hn, _, _, _ => by simp at hn
 | n + 1, x :: a, y :: b, hn, ha, hb, hs => by
  simp only [List.length_cons] at hn
  obtain ⟨a1, a2⟩ := List.pairwise_cons.1 ha
  obtain ⟨b1, b2⟩ := List.pairwise_cons.1 hb
  rw [un_cons]
  obtain ⟨z, hz, e1, e2⟩ := hs x (List.mem_cons_self ..)
  rcases List.mem_cons.1 hz with e | hx
  · subst e
    rw [if_neg (by omega), if_neg (by omega), e2, absorbD h n a b (by omega) a2 b2 fun w hw => ?_]
    obtain ⟨u, hu, u1, u2⟩ := hs w (List.mem_cons_of_mem _ hw)
    rcases List.mem_cons.1 hu with e | hm
    · subst e
      have k1 := a1 w hw
      have k2 := h.zl w e1
      have k3 := h.z0 u1
      omega
    · exact ⟨u, hm, u1, u2⟩
  · have k := (h.zr y e1).1.1 (b1 z hx)
    have c := h.sy.2 k
    rw [if_neg (by omega), if_pos c, absorbD h n (x :: a) b (by simp only [List.length_cons]; omega) ha b2 fun w hw => ?_]
    obtain ⟨u, hu, u1, u2⟩ := hs w hw
    rcases List.mem_cons.1 hu with e | hm
    · subst e
      have k3 := h.z0 u1
      rcases List.mem_cons.1 hw with e | hm2
      · subst e; omega
      · have := h.tr k (a1 w hm2)
        omega
    · exact ⟨u, hm, u1, u2⟩
theorem any_iff {n : Nat} {f : Nat → Bool} : anyI n f = true ↔ ∃ i, i < n ∧ f i = true := by
 unfold anyI
 rw [List.any_eq_true]
 simp only [List.mem_range]
end L
end Go.Proofs.YthjiodeaepigmaaDoor

/- Slots that say less: a known truth value, or number, as any one. -/
set_option linter.unusedVariables false
namespace Go.Proofs.YthjiodeaepigmaaDoor
open Go
inductive VLe : V → V → Prop
 | rfl (v : V) : VLe v v
 | b (x : Bool) : VLe (.b x) (.sb x)
 | i (k : IntKind) (n : Int) : VLe (.i k n) (.si k n)
inductive VLes : List V → List V → Prop
 | nil : VLes [] []
 | cons {v v' : V} {l l' : List V} (h : VLe v v') (t : VLes l l') : VLes (v :: l) (v' :: l')
theorem VLe.rel {G : Gh} {v v' : V} {cv : Value} (h : VLe v v') (r : VRel G v cv) : VRel G v' cv := by
 cases h with
 | rfl => exact r
 | b x => cases r; exact .sb _
 | i k n => cases r; exact .si _ _
theorem VLes.len {l l' : List V} (h : VLes l l') : l.length = l'.length := by
 induction h with
 | nil => rfl
 | cons _ _ ih => simp only [List.length_cons, ih]
theorem VLes.get {l l' : List V} (h : VLes l l') : ∀ {j : Nat} {v v' : V}, l[j]? = some v → l'[j]? = some v' → VLe v v' := by
 induction h with
 | nil => intro j v v' h1; simp at h1
 | cons h t ih =>
  intro j v v' h1 h2
  match j with
  | 0 =>
   simp only [List.getElem?_cons_zero, Option.some.injEq] at h1 h2
   subst h1; subst h2
   exact h
  | j + 1 => exact ih (by simpa using h1) (by simpa using h2)
theorem VLes.imp {Γ : Nat → Option V} {n : Nat} {lv : List Nat} {vs vs' : List V} {ob : Ob} {nm : Nm} {kh kt : Nat} (h : VLes vs vs') : St.imp Γ (St.of n lv vs ob nm kh kt) (St.of n lv vs' ob nm kh kt) :=
 St.of_imps h.len fun _ _ _ _ h1 h2 _ hr => (h.get h1 h2).rel hr
theorem SemC.les {P : Program} {Γ : Nat → Option V} {c : Code} {x : St} {e : Exit} {n : Nat} {lv : List Nat} {vs vs' : List V} {ob : Ob} {nm : Nm} {kh kt : Nat} (h : SemC P Γ c x e (St.of n lv vs ob nm kh kt)) (l : VLes vs vs') : SemC P Γ c x e (St.of n lv vs' ob nm kh kt) := h.post l.imp
end Go.Proofs.YthjiodeaepigmaaDoor

