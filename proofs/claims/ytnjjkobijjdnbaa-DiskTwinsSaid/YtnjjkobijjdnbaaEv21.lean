/- The evaluator, the ways through a region joined where it ends: what the rest does not ask for is forgotten. -/
import Derived.Test.YtnjjkobijjdnbaaEv17
set_option linter.unusedVariables false
set_option linter.unusedSimpArgs false
namespace Go.Proofs.Ytnjjkobijjdnbaa
open Go

section
variable {P : Program} {Γ : Nat → Option V} {cf : CallF} {ops : Array Oper} {base : Nat}
/-- An effect that leaves the memory alone. -/
def Eff.quiet : Option Eff → Bool
  | none => true
  | some e => e.wo.isEmpty && e.wn.isEmpty && e.xo.isEmpty && e.xn.isEmpty && e.blk.isNone
theorem Eff.quiet_ob {e : Eff} (h : Eff.quiet (some e) = true) (ob : Ob) (nm : Nm) : e.ob ob = ob ∧ e.nm nm = nm := by
  simp [Eff.quiet] at h
  obtain ⟨⟨⟨⟨h1, h2⟩, h3⟩, h4⟩, h5⟩ := h
  simp [Eff.ob, Eff.nm, h1, h2, h3, h4, h5, setsO, setsN]
def dsts (ops : Array Oper) : List Nat := ops.toList.filterMap (·.dst)
theorem mem_dsts {i : Nat} {o : Oper} {d : Nat} (h : ops[i]? = some o) (hd : o.dst = some d) : d ∈ dsts ops :=
  List.mem_filterMap.2 ⟨o, List.mem_of_getElem? (i := i) (by simpa using h), hd⟩
theorem put_frame {x : St} {dd : Option Nat} {v : V} : (x.put dd v).tm.length = x.tm.length ∧ (∀ d, dd ≠ some d → (x.put dd v).tm[d]? = x.tm[d]?) ∧ (x.put dd v).ob = x.ob ∧ (x.put dd v).nm = x.nm := by
  cases dd with
  | none => exact ⟨rfl, fun _ _ => rfl, rfl, rfl⟩
  | some t => exact ⟨by simp [St.put], fun d hd => by simp only [St.put]; exact List.getElem?_set_ne (fun e => hd (by rw [e])), rfl, rfl⟩
theorem stp_frame {i : Nat} {x x' : St} {ef : Option Eff} (h : stp P Γ cf ops base i x = some (x', ef)) :
    x'.tm.length = x.tm.length ∧ (∀ d, d ∉ dsts ops → x'.tm[d]? = x.tm[d]?) ∧ (Eff.quiet ef = true → x'.ob = x.ob ∧ x'.nm = x.nm) := by
  unfold stp at h
  split at h
  · cases h; exact ⟨rfl, fun _ _ => rfl, fun _ => ⟨rfl, rfl⟩⟩
  · rename_i o ho
    have hd : ∀ d, d ∉ dsts ops → o.dst ≠ some d := fun d hd e => hd (mem_dsts ho e)
    split at h
    · cases h
    · cases h
      have f := put_frame (x := x) (dd := o.dst) (v := .tup [])
      exact ⟨f.1, fun d k => f.2.1 d (hd d k), fun _ => f.2.2⟩
    · split at h
      · cases h
      · rename_i out he
        split at h
        · cases h
          have f := put_frame (x := { x with ob := out.eff.ob x.ob, nm := out.eff.nm x.nm }) (dd := o.dst) (v := litG (isGd ops i) out.v)
          refine ⟨f.1, fun d k => f.2.1 d (hd d k), fun hq => ?_⟩
          have e1 : (x.after out o.dst (litG (isGd ops i) out.v)).ob = out.eff.ob x.ob := f.2.2.1
          have e2 : (x.after out o.dst (litG (isGd ops i) out.v)).nm = out.eff.nm x.nm := f.2.2.2
          rw [e1, e2]
          exact Eff.quiet_ob hq _ _
        · cases h
theorem put_k (x : St) (d : Option Nat) (v : V) : (x.put d v).kh = x.kh ∧ (x.put d v).kt = x.kt := by cases d <;> exact ⟨rfl, rfl⟩
theorem stp_k {i : Nat} {x x' : St} {ef : Option Eff} (h : stp P Γ cf ops base i x = some (x', ef)) : x'.kh = x.kh ∧ x'.kt = x.kt := by
  unfold stp at h
  split at h
  · cases h; exact ⟨rfl, rfl⟩
  · split at h
    · cases h
    · cases h; exact put_k _ _ _
    · split at h
      · cases h
      · split at h
        · cases h; exact put_k _ _ _
        · cases h
theorem chain_k : ∀ (n i : Nat) {x x' : St} {es : List (Option Eff)}, chain P Γ cf ops base n i x = some (x', es) → x'.kh = x.kh ∧ x'.kt = x.kt
  | 0, i, x, x', es, h => by cases h; exact ⟨rfl, rfl⟩
  | n + 1, i, x, x', es, h => by
    simp only [chain] at h
    split at h
    · cases h
    · rename_i x1 ef h1
      split at h
      · cases h
      · rename_i x2 es' h2
        cases h
        have a := stp_k h1
        have b := chain_k n (i + 1) h2
        exact ⟨b.1.trans a.1, b.2.trans a.2⟩
theorem chain_frame : ∀ (n i : Nat) {x x' : St} {es : List (Option Eff)}, chain P Γ cf ops base n i x = some (x', es) →
    x'.tm.length = x.tm.length ∧ (∀ d, d ∉ dsts ops → x'.tm[d]? = x.tm[d]?) ∧ (es.all Eff.quiet = true → x'.ob = x.ob ∧ x'.nm = x.nm)
  | 0, i, x, x', es, h => by cases h; exact ⟨rfl, fun _ _ => rfl, fun _ => ⟨rfl, rfl⟩⟩
  | n + 1, i, x, x', es, h => by
    simp only [chain] at h
    split at h
    · cases h
    · rename_i x1 ef h1
      split at h
      · cases h
      · rename_i x2 es' h2
        cases h
        have f := stp_frame h1
        have g := chain_frame n (i + 1) h2
        refine ⟨g.1.trans f.1, fun d hd => (g.2.1 d hd).trans (f.2.1 d hd), fun hq => ?_⟩
        simp only [List.all_cons, Bool.and_eq_true] at hq
        exact ⟨(g.2.2 hq.2).1.trans (f.2.2 hq.1).1, (g.2.2 hq.2).2.trans (f.2.2 hq.1).2⟩

/-- The kept slots' values at a way's end. -/
def keptV (lv : List Nat) (s : St) : V := .tup (lv.map fun d => (s.tm[d]?).getD .any)
def endOk (draw : Bool) (ops : Array Oper) (es : List (Option Eff)) : Bool := es.all Eff.quiet && (match draw with | true => commAll ops es | false => true)
/-- The ways in one. -/
def jm (draw : Bool) (ops : Array Oper) (lv : List Nat) : Tr (St × List (Option Eff)) → MRes
  | .leaf none => .dead
  | .leaf (some p) => match endOk draw ops p.2 with | true => .ok none (keptV lv p.1) | false => .bad
  | .br b x y => (jm draw ops lv x).mg b (jm draw ops lv y)
theorem jm_run {draw : Bool} {lv : List Nat} : ∀ (t : Tr (St × List (Option Eff))) (c : Option Bool) (v : V), jm draw ops lv t = .ok c v → c.getD true = true → ∃ s es, t.run = some (s, es) ∧ endOk draw ops es = true ∧ ∀ (G : Gh) (cv : Value), VRel G (keptV lv s) cv → VRel G v cv
  | .leaf none, c, v, h, _ => by cases h
  | .leaf (some p), c, v, h, _ => by
    simp only [jm] at h
    split at h
    · rename_i hq; cases h; exact ⟨p.1, p.2, rfl, hq, fun _ _ h => h⟩
    · cases h
  | .br b x y, c, v, h, hc => by
    simp only [jm] at h
    cases hx : jm draw ops lv x with
    | bad => rw [hx] at h; cases h
    | dead =>
      cases hy : jm draw ops lv y with
      | bad => rw [hx, hy] at h; cases h
      | dead => rw [hx, hy] at h; cases h
      | ok d u =>
        rw [hx, hy] at h
        cases h
        have hc' : b = false ∧ d.getD true = true := by cases d <;> simpa using hc
        obtain ⟨rfl, hd⟩ := hc'
        exact jm_run y d _ hy hd
    | ok d u =>
      cases hy : jm draw ops lv y with
      | bad => rw [hx, hy] at h; cases h
      | dead =>
        rw [hx, hy] at h
        cases h
        have hc' : b = true ∧ d.getD true = true := by cases d <;> simpa using hc
        obtain ⟨rfl, hd⟩ := hc'
        exact jm_run x d _ hx hd
      | ok d2 u2 =>
        rw [hx, hy] at h
        simp only [MRes.mg] at h
        split at h
        · rename_i z hz
          cases h
          have hm := mergeV_ok b u u2 v hz
          have hcc : (bif b then d.getD true else d2.getD true) = true := by
            cases b <;> cases d <;> cases d2 <;> first | rfl | simpa using hc
          cases b with
          | true =>
            obtain ⟨s, es, h1, h2, h3⟩ := jm_run x d u hx hcc
            exact ⟨s, es, h1, h2, fun G cv hr => hm G cv (h3 G cv hr)⟩
          | false =>
            obtain ⟨s, es, h1, h2, h3⟩ := jm_run y d2 u2 hy hcc
            exact ⟨s, es, h1, h2, fun G cv hr => hm G cv (h3 G cv hr)⟩
        · cases h

/-- The slots behind a joined region. -/
def setAny (ds : List Nat) (l : List V) : List V := ds.foldl (fun l d => l.set d .any) l
def setVs : List Nat → List V → List V → List V
  | d :: ds, v :: vs, l => setVs ds vs (l.set d v)
  | _, _, l => l
def RelX (G : Gh) (l : List V) (cv : List Value) (D : List Nat) : Prop := cv.length = l.length ∧ ∀ (j : Nat) (v : V) (c : Value), j ∉ D → l[j]? = some v → cv[j]? = some c → VRel G v c
theorem RelX.any {G : Gh} : ∀ (ds : List Nat) {l : List V} {cv : List Value} {D : List Nat}, RelX G l cv (ds ++ D) → RelX G (setAny ds l) cv D
  | [], l, cv, D, h => h
  | d :: ds, l, cv, D, h => by
    refine RelX.any ds (l := l.set d .any) ⟨by simpa using h.1, fun j v c hj hv hc => ?_⟩
    by_cases e : d = j
    · subst e
      rw [List.getElem?_set_self'] at hv
      cases hl : l[d]? with
      | none => rw [hl] at hv; cases hv
      | some u => rw [hl] at hv; cases hv; exact .any _
    · rw [List.getElem?_set_ne e] at hv
      exact h.2 j v c (by simpa [Ne.symm e] using hj) hv hc
theorem RelX.vs {G : Gh} : ∀ (ds : List Nat) (vs : List V) {l : List V} {cv : List Value}, RelX G l cv [] → (∀ (k : Nat) (d : Nat) (v : V) (c : Value), ds[k]? = some d → vs[k]? = some v → cv[d]? = some c → VRel G v c) → RelX G (setVs ds vs l) cv []
  | [], vs, l, cv, h, _ => by cases vs <;> exact h
  | d :: ds, [], l, cv, h, _ => h
  | d :: ds, v :: vs, l, cv, h, hv => by
    refine RelX.vs ds vs (l := l.set d v) ⟨by simpa using h.1, fun j u c hj hu hc => ?_⟩ (fun k d' v' c h1 h2 h3 => hv (k + 1) d' v' c (by simpa using h1) (by simpa using h2) h3)
    by_cases e : d = j
    · subst e
      rw [List.getElem?_set_self'] at hu
      cases hl : l[d]? with
      | none => rw [hl] at hu; cases hu
      | some w => rw [hl] at hu; cases hu; exact hv 0 d v c rfl rfl hc
    · rw [List.getElem?_set_ne e] at hu
      exact h.2 j u c hj hu hc
theorem RelX.of_rels {G : Gh} {l l' : List V} {cv : List Value} {D : List Nat} (h : Rels G l' cv) (hl : l'.length = l.length) (hf : ∀ d, d ∉ D → l'[d]? = l[d]?) : RelX G l cv D :=
  ⟨h.1.trans hl, fun j v c hj hv hc => h.2 j v c (by rw [hf j hj]; exact hv) hc⟩
theorem RelX.rels {G : Gh} {l : List V} {cv : List Value} (h : RelX G l cv []) : Rels G l cv := ⟨h.1, fun j v c hv hc => h.2 j v c (by simp) hv hc⟩
def St.jset (x : St) (ops : Array Oper) (lv : List Nat) (vs : List V) : St := { x with tm := setVs lv vs (setAny (dsts ops) x.tm) }
theorem Rel.jset {G : Gh} {x s : St} {lv : List Nat} {vs : List V} {a : Act} {w : World} (h : Rel Γ G s a w) (hl : s.tm.length = x.tm.length) (hf : ∀ d, d ∉ dsts ops → s.tm[d]? = x.tm[d]?) (hob : s.ob = x.ob) (hnm : s.nm = x.nm) (hkh : s.kh = x.kh ∧ s.kt = x.kt)
    (hv : ∀ (G : Gh) (cv : Value), VRel G (keptV lv s) cv → VRel G (.tup vs) cv) : Rel Γ G (x.jset ops lv vs) a w := by
  refine ⟨?_, by have := h.wr; rw [hob, hnm] at this; exact this, h.df, h.kh.trans hkh.1, h.kt.trans hkh.2⟩
  have h0 : RelX G x.tm a.tmps.toList (dsts ops ++ []) := by
    rw [List.append_nil]
    exact RelX.of_rels h.tm hl hf
  refine RelX.rels (RelX.vs lv vs (RelX.any (dsts ops) h0) ?_)
  intro k d v c h1 h2 h3
  have ht : VRel G (keptV lv s) (.tuple (lv.map fun d => (a.tmps.toList[d]?).getD Go.undef).toArray) := by
    refine .tup (by simp) (fun j v cv hj hc => ?_)
    rw [List.getElem?_map] at hj
    rw [List.getElem?_toArray, List.getElem?_map] at hc
    cases hd : lv[j]? with
    | none => rw [hd] at hj; cases hj
    | some d =>
      rw [hd] at hj hc
      simp only [Option.map_some, Option.some.injEq] at hj hc
      subst hj hc
      cases hs : s.tm[d]? with
      | none => exact .any _
      | some u =>
        obtain ⟨c', hc', hr'⟩ := h.tm.of_get hs
        rw [hc']
        exact hr'
  have ht2 := hv G _ ht
  cases ht2 with
  | tup hl2 hh =>
    refine hh k v c h2 ?_
    rw [List.getElem?_toArray, List.getElem?_map, h1, Option.map_some, h3]
    rfl

/-- A region, its ways joined; lv: the slots that the rest asks for (none told: not joined). -/
def evRegionJ (P : Program) (Γ : Nat → Option V) (cf : CallF) (lv : List Nat) (ops : Array Oper) (draw : Bool) (x : St) : Tr (Ex × St) :=
  match !lv.isEmpty && ops.any fun o => o.guard.isSome with
  | false => evRegion P Γ cf ops draw x
  | true =>
    match (match draw with | true => Region.lexB .any ops | false => true) with
    | false => .leaf none
    | true =>
      match jm draw ops lv (evReg P Γ cf ops x.basis ops.size 0 (x.pad (padK ops))) with
      | .ok c (.tup vs) => Tr.chk (c.getD true) c.isSome (.leaf (some (.normal, (x.pad (padK ops)).jset ops lv vs)))
      | _ => evRegion P Γ cf ops draw x
theorem evRegionJ_sound (hcf : CallsOk P Γ cf) (hfit : CallsFit cf) (hm : P.follows .mixedOrders = true) {lv : List Nat} {id : Nat} {draw : Bool} {x : St} {e : Ex} {x' : St} (h : (evRegionJ P Γ cf lv ops draw x).run = some (e, x')) : SemC P Γ (.region id ops draw) x e.to x' := by
  unfold evRegionJ at h
  split at h
  · exact evRegion_sound hcf hfit hm h
  · split at h
    · cases h
    · rename_i hB
      split at h
      · rename_i c vs hj
        rw [Tr.run_chk] at h
        split at h
        · rename_i hc
          cases h
          obtain ⟨s, es, h1, h2, h3⟩ := jm_run _ c _ hj hc
          rw [evReg_run] at h1
          have fr := chain_frame _ _ h1
          simp only [endOk, Bool.and_eq_true] at h2
          have q := fr.2.2 h2.1
          have sem : SemC P Γ (.region id ops draw) x .normal s := by
            cases draw with
            | false => exact SemC.of_pad (SemC.region_chain hcf hfit (pad_free x) h1)
            | true => exact SemC.of_pad (SemC.region_draw hcf hfit hm hB (pad_free x) h1 h2.2)
          intro ro G a w hr ho
          refine wpIn_mono (sem ro G a w hr ho) ?_
          rintro e a' w' ⟨rfl, G', hle, hr'⟩
          exact ⟨rfl, G', hle, hr'.jset fr.1 fr.2.1 q.1 q.2 (chain_k _ _ h1) h3⟩
        · cases h
      · exact evRegion_sound hcf hfit hm h

def evCJ (P : Program) (Γ : Nat → Option V) (cf : CallF) (lv : List Nat) : Nat → Code → St → Tr (Ex × St)
  | 0, _, _ => .leaf none
  | n + 1, c, x =>
    match c with
    | .skip => .leaf (some (.normal, x))
    | .ret => .leaf (some (.ret, x))
    | .exit id => .leaf (some (.exit id, x))
    | .region _ ops draw => evRegionJ P Γ cf lv ops draw x
    | .seq a b => (evCJ P Γ cf lv n a x).bind fun p => match p.1 with | .normal => evCJ P Γ cf lv n b p.2 | e => .leaf (some (e, p.2))
    | .cond c t f =>
      match (x.eval Γ c).bool? with
      | some (b, true) => .br b (evCJ P Γ cf lv n t x) (evCJ P Γ cf lv n f x)
      | some (true, false) => evCJ P Γ cf lv n t x
      | some (false, false) => evCJ P Γ cf lv n f x
      | none => .leaf none
    | .block id b => (evCJ P Γ cf lv n b x).bind fun p => match p.1 with | .exit i => if i = id then .leaf (some (.normal, p.2)) else .leaf (some (.exit i, p.2)) | e => .leaf (some (e, p.2))
    | .loop b => (evCJ P Γ cf lv n b x).bind fun p => match p.1 with | .normal => evCJ P Γ cf lv n (.loop b) p.2 | e => .leaf (some (e, p.2))
    | _ => .leaf none
theorem evCJ_sound' (hcf : CallsOk P Γ cf) (hfit : CallsFit cf) (hm : P.follows .mixedOrders = true) {lv : List Nat} : ∀ (n : Nat) (c : Code) (x : St) (e : Ex) (x' : St), (evCJ P Γ cf lv n c x).run = some (e, x') → SemC P Γ c x e.to x' ∧ ∀ b, c = .loop b → SemL P Γ b x e.to x'
  | 0, c, x, e, x', h => by cases h
  | n + 1, c, x, e, x', h => by
    have ihl := evCJ_sound' hcf hfit hm (lv := lv) n
    have ih := fun c x e x' h => (ihl c x e x' h).1
    have hbind : ∀ {c : Code} {y : St} {f : Ex × St → Tr (Ex × St)} {r : Ex × St}, ((evCJ P Γ cf lv n c y).bind f).run = some r → ∃ p, (evCJ P Γ cf lv n c y).run = some p ∧ (f p).run = some r := fun {c y f r} hh => by
      rw [Tr.run_bind] at hh
      cases hp : (evCJ P Γ cf lv n c y).run with
      | none => rw [hp] at hh; cases hh
      | some p => rw [hp] at hh; exact ⟨p, rfl, hh⟩
    cases c with
    | skip => cases h; exact ⟨SemC.skip, fun b hb => by cases hb⟩
    | ret => cases h; exact ⟨SemC.ret, fun b hb => by cases hb⟩
    | exit id => cases h; exact ⟨SemC.exit, fun b hb => by cases hb⟩
    | region id ops draw => exact ⟨evRegionJ_sound hcf hfit hm h, fun b hb => by cases hb⟩
    | seq a b =>
      refine ⟨?_, fun b hb => by cases hb⟩
      obtain ⟨⟨e1, x1⟩, h1, h2⟩ := hbind h
      cases e1 with
      | normal => exact SemC.seq (ih a x .normal x1 h1) (ih b x1 e x' h2)
      | exit i => cases h2; exact SemC.seq_out (by simp [Ex.to]) (ih a x _ _ h1)
      | ret => cases h2; exact SemC.seq_out (by simp [Ex.to]) (ih a x _ _ h1)
    | cond q t f =>
      refine ⟨?_, fun b hb => by cases hb⟩
      simp only [evCJ] at h
      cases hq : (x.eval Γ q).bool? with
      | none => rw [hq] at h; cases h
      | some p =>
        obtain ⟨b, s⟩ := p
        rw [hq] at h
        intro ro G a w hr ho
        have hb := bool?_eq hq (hr.eval q)
        cases b
        · have h' : (evCJ P Γ cf lv n f x).run = some (e, x') := by cases s <;> exact h
          exact wpIn_cond_false hb (ih f x e x' h' ro G a w hr ho)
        · have h' : (evCJ P Γ cf lv n t x).run = some (e, x') := by cases s <;> exact h
          exact wpIn_cond_true hb (ih t x e x' h' ro G a w hr ho)
    | block id b =>
      refine ⟨?_, fun b hb => by cases hb⟩
      obtain ⟨⟨e1, x1⟩, h1, h2⟩ := hbind h
      cases e1 with
      | normal => cases h2; exact SemC.block (by simp [Ex.to]) (ih b x _ _ h1)
      | ret => cases h2; exact SemC.block (by simp [Ex.to]) (ih b x _ _ h1)
      | exit i =>
        simp only [] at h2
        split at h2
        · rename_i hi; subst hi; cases h2; exact SemC.block_exit (ih b x _ _ h1)
        · rename_i hi; cases h2; exact SemC.block (by simpa [Ex.to] using hi) (ih b x _ _ h1)
    | loop b =>
      have key : SemL P Γ b x e.to x' := by
        obtain ⟨⟨e1, x1⟩, h1, h2⟩ := hbind h
        cases e1 with
        | normal => exact SemL.next (ih b x .normal x1 h1) ((ihl (.loop b) x1 e x' h2).2 b rfl)
        | exit i => cases h2; exact SemL.out (by simp [Ex.to]) (ih b x _ _ h1)
        | ret => cases h2; exact SemL.out (by simp [Ex.to]) (ih b x _ _ h1)
      exact ⟨SemC.loop key, fun b' hb => by cases hb; exact key⟩
    | _ => cases h
def evFJ (P : Program) (Γ : Nat → Option V) (cf : CallF) (lv : List Nat) (n : Nat) (f : FuncId) (args : List V) (ob : Ob) (nm : Nm) : Tr (V × St) :=
  match P.funcs[f]? with
  | none => .leaf none
  | some fn =>
    match fn.body with
    | none => .leaf none
    | some c =>
      if fn.name == "runtime.NumGoroutine" then .leaf none else
      (evCJ P Γ cf lv n c (St.start fn.ntmps args ob nm)).bind fun p =>
        match p.1 with
        | .exit _ => .leaf none
        | _ => match resV P p.2 fn.results.toList with | some v => .leaf (some (v, p.2)) | none => .leaf none
theorem evFJ_sound (hcf : CallsOk P Γ cf) (hfit : CallsFit cf) (hm : P.follows .mixedOrders = true) {lv : List Nat} {n : Nat} {f : FuncId} {args : List V} {ob : Ob} {nm : Nm} {v : V} {x : St} (h : (evFJ P Γ cf lv n f args ob nm).run = some (v, x)) :
    SemF P Γ f args ob nm v x.ob x.nm := by
  unfold evFJ at h
  cases hf : P.funcs[f]? with
  | none => rw [hf] at h; cases h
  | some fn =>
    rw [hf] at h
    simp only [] at h
    cases hb : fn.body with
    | none => rw [hb] at h; cases h
    | some c =>
      rw [hb] at h
      simp only [] at h
      split at h
      · cases h
      · rw [Tr.run_bind] at h
        cases hc : (evCJ P Γ cf lv n c (St.start fn.ntmps args ob nm)).run with
        | none => rw [hc] at h; cases h
        | some p =>
          obtain ⟨e, y⟩ := p
          rw [hc] at h
          simp only [Option.bind_some] at h
          have hs := (evCJ_sound' hcf hfit hm n c _ e y hc).1
          have key : ∀ v', resV P y fn.results.toList = some v' → (e = .ret ∨ e = .normal) → SemF P Γ f args ob nm v' y.ob y.nm := fun v' hv he =>
            SemF.of_body hf hb (by rcases he with rfl | rfl <;> simp [Ex.to]) hs hv
          cases e with
          | exit i => cases h
          | ret =>
            simp only [] at h
            cases hv : resV P y fn.results.toList with
            | none => rw [hv] at h; cases h
            | some v' => rw [hv] at h; cases h; exact key _ hv (.inl rfl)
          | normal =>
            simp only [] at h
            cases hv : resV P y fn.results.toList with
            | none => rw [hv] at h; cases h
            | some v' => rw [hv] at h; cases h; exact key _ hv (.inr rfl)
end
end Go.Proofs.Ytnjjkobijjdnbaa
