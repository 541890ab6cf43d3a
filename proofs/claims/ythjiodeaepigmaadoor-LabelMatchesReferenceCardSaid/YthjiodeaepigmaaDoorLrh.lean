/- Parts of the library of texts, one after the other: Ev30, Ev31, Ev32, Ev33. -/
import Derived.Test.YthjiodeaepigmaaDoorLrg
import Derived.RecoverIn
/- Panics: what code and functions leave that panic. -/
set_option linter.unusedVariables false
set_option linter.unusedSimpArgs false
namespace Go.Proofs.YthjiodeaepigmaaDoor
open Go
def panV (T : TypeId) : Value := .iface T (.agg #[])
def panCh (T : TypeId) : List PanicEntry := [{ v := panV T, recovered := false }]
def anyOb (k : Nat) (ob : Ob) : Ob := (ob.take k).map fun o => o.map fun cs => cs.map fun _ => V.any
def deadNm (k : Nat) : Nm := List.replicate k (some .dead)
def Gh.cut (G : Gh) (k kt : Nat) : Gh := { G with H := fun o => if o < k then G.H o else none, T := fun n => if n < kt then G.T n else none }
section
variable {P : Program} {Γ : Nat → Option V} {σ σ1 σ2 : St} {cf : CallF} {T : TypeId}
theorem anyOb_get {k : Nat} {ob : Ob} {o : Nat} {c : Option (List V)} (h : (anyOb k ob)[o]? = some c) : o < k ∧ ∃ c0, ob[o]? = some c0 ∧ c = c0.map fun cs => cs.map fun _ => V.any := by
 unfold anyOb at h
 rw [List.getElem?_map, List.getElem?_take] at h
 split at h
 · rename_i hk
   cases hc : ob[o]? with
   | none => rw [hc] at h; cases h
   | some c0 => rw [hc] at h; simp at h; exact ⟨hk, c0, rfl, h.symm⟩
 · cases h
theorem anyRels (G : Gh) {cs : List V} {cvs : List Value} (h : cvs.length = cs.length) : Rels G (cs.map fun _ => V.any) cvs := by
 refine ⟨by simpa using h, fun j v cv h1 h2 => ?_⟩
 rw [List.getElem?_map] at h1
 cases hc : cs[j]? with
 | none => rw [hc] at h1; cases h1
 | some c => rw [hc] at h1; cases h1; exact .any cv
theorem deadNm_get {k n : Nat} {b : Option Bf} (h : (deadNm k)[n]? = some b) : b = some .dead := by
 unfold deadNm at h
 rw [List.getElem?_replicate] at h
 split at h
 · cases h; rfl
 · cases h
theorem WRel.cut {G : Gh} {ob : Ob} {nm : Nm} {w : World} (h : WRel Γ G ob nm w) {k kt : Nat} (hk : k ≤ ob.length) (ht : kt ≤ nm.length) : WRel Γ (G.cut k kt) (anyOb k ob) (deadNm kt) w where
 m := h.m
 hob := fun o cs b h1 h2 => by
  obtain ⟨hlt, c0, e1, e2⟩ := anyOb_get h1
  cases c0 with
  | none => cases e2
  | some cs0 =>
   have e2 : cs = cs0.map fun _ => V.any := by simpa using e2
   subst e2
   have h2 : (if o < k then G.H o else none) = some b := h2
   rw [if_pos hlt] at h2
   obtain ⟨q1, ⟨q2, q3, q4, q5, q6, q7, q8⟩, q9⟩ := h.hob o cs0 b e1 h2
   refine ⟨q1, ⟨q2, q3, q4, q5, q6, by simpa using q7, ?_⟩, q9⟩
   rw [List.length_map]
   exact anyRels _ q8.1
 hlt := fun o b h1 => by
  have h1 : (if o < k then G.H o else none) = some b := h1
  split at h1
  · rename_i ho
    have := h.hlt o b h1
    exact ⟨by simp [anyOb]; omega, this.2⟩
  · cases h1
 habs := fun o h1 => by
  obtain ⟨hlt, c0, e1, e2⟩ := anyOb_get h1
  cases c0 with
  | some cs => cases e2
  | none =>
   show (if o < k then G.H o else none) = none
   rw [if_pos hlt]
   exact h.habs o e1
 inj := fun o o' b h1 h2 => by
  have h1 : (if o < k then G.H o else none) = some b := h1
  have h2 : (if o' < k then G.H o' else none) = some b := h2
  split at h1
  · split at h2
    · exact h.inj o o' b h1 h2
    · cases h2
  · cases h1
 hnm := fun n c x h1 _ => by cases deadNm_get h1
 hno := fun n c h1 _ => by cases deadNm_get h1
 nmd := fun n n' c c' x x' _ h1 => by cases deadNm_get h1
 tabs := fun n h1 => by cases deadNm_get h1
 tlt := fun n x h1 => by
  have h1 : (if n < kt then G.T n else none) = some x := h1
  split at h1
  · simpa [deadNm]
  · cases h1
 dd := h.dd
 kdle := h.kdle
 gl := h.gl
 mold := h.mold
 os := h.os
 tape := h.tape
 output := h.output
 size := h.size
 block := h.block
theorem Gh.leW_cut {G G1 : Gh} (h : G.leW G1) : G.leW (G1.cut G.kh G.kt) :=
 ⟨h.m, fun o b hl hh => by show (if o < G.kh then G1.H o else none) = _; rw [if_pos hl]; exact h.h o b hl hh, fun n x hl hh => by show (if n < G.kt then G1.T n else none) = _; rw [if_pos hl]; exact h.t n x hl hh, h.d, h.kh, h.kt, h.w0, h.m0, h.kd⟩
def keepP (ks : List Nat) (k : Nat) : Nat → List V → List V
 | _, [] => []
 | i, v :: l => (match ks.contains i, v with | true, .ptr o off => (match Nat.blt o k with | true => V.ptr o off | false => V.any) | _, _ => V.any) :: keepP ks k (i + 1) l
theorem blt_lt {o k : Nat} (h : Nat.blt o k = true) : o < k := Nat.le_of_ble_eq_true h
theorem keepP_rel {G G' : Gh} {ks : List Nat} {k : Nat} (hg : ∀ o b, o < k → G.H o = some b → G'.H o = some b) : ∀ (i : Nat) (l : List V) (cs : List Value), Rels G l cs → Rels G' (keepP ks k i l) cs
 | _, [], cs, h => ⟨h.1, fun j v cv hv _ => by simp [keepP] at hv⟩
 | i, v :: l, [], h => by have := h.1; simp at this
 | i, v :: l, c :: cs, h => by
  have h0 : VRel G v c := h.2 0 _ _ rfl rfl
  have hl : Rels G l cs := ⟨by have := h.1; simpa using this, fun j x y a b => h.2 (j + 1) x y (by simpa using a) (by simpa using b)⟩
  refine Rels.cons ?_ (keepP_rel hg (i + 1) l cs hl)
  split
  · split
    · rename_i hlt
      cases h0 with
      | ptr hh => exact .ptr (hg _ _ (blt_lt hlt) hh)
    · exact .any _
  · exact .any _
structure PO where
 T : TypeId
 tm : List V
 ob : Ob
def PanR (Γ : Nat → Option V) (G : Gh) (kt : Nat) (r : PO) (a : Act) (w : World) : Prop :=
 ∃ G', G.leW G' ∧ Rels G' r.tm a.tmps.toList ∧ WRel Γ G' r.ob (deadNm kt) w ∧ Marks G' a.defers
def SemCP (P : Program) (Γ : Nat → Option V) (c : Code) (σ : St) (r : PO) : Prop :=
 ∀ (ro : Option Nat) G a w, Rel Γ G σ a w → RoOk G ro → c.wpIn (wideR ro) 0 P (fun e a' w' => e = .panic (panCh r.T) ∧ PanR Γ G σ.kt r a' w') a w
def SemRP (P : Program) (Γ : Nat → Option V) (ops : Array Oper) (l : List Nat) (σ : St) (r : PO) : Prop :=
 ∀ (ro : Option Nat) G a w, Rel Γ G σ a w → wpOpsIn (wideR ro) 0 P ops (fun e a' w' => e = .panic (panCh r.T) ∧ PanR Γ G σ.kt r a' w') l a w
def SemFP (P : Program) (Γ : Nat → Option V) (f : FuncId) (args : List V) (ob : Ob) (nm : Nm) (T : TypeId) (obR : Ob) : Prop :=
 ∀ (G : Gh) (w : World) (cargs : List Value), WRel Γ G ob nm w → Rels G args cargs →
  Calls P f cargs.toArray w fun e w' => ∃ G', e = .panicked (panCh T) ∧ G.le G' ∧ WRel Γ G' obR (deadNm nm.length) w'
theorem PanR.leW {G G1 : Gh} {kt : Nat} {r : PO} {a : Act} {w : World} (h : G.leW G1) (k : PanR Γ G1 kt r a w) : PanR Γ G kt r a w := let ⟨G2, h1, h2⟩ := k; ⟨G2, h.trans h1, h2⟩
theorem SemCP.seq_l {c d : Code} {r : PO} (h : SemCP P Γ c σ r) : SemCP P Γ (.seq c d) σ r := by
 intro ro G a w hr ho
 refine wpIn_seq (wpIn_mono (h ro G a w hr ho) ?_)
 rintro e a' w' ⟨rfl, h⟩
 exact ⟨rfl, h⟩
theorem SemCP.seq_r {c d : Code} {r : PO} (h : SemC P Γ c σ .normal σ1) (hk : σ1.kt = σ.kt) (k : SemCP P Γ d σ1 r) : SemCP P Γ (.seq c d) σ r := by
 intro ro G a w hr ho
 refine wpIn_seq (wpIn_mono (h ro G a w hr ho) ?_)
 rintro e a' w' ⟨rfl, G1, h1, r1⟩
 refine wpIn_mono (k ro G1 a' w' r1 (ho.leW h1)) ?_
 rintro e a'' w'' ⟨rfl, h2⟩
 rw [hk] at h2
 exact ⟨rfl, h2.leW h1⟩
theorem SemCP.block {id : Nat} {c : Code} {r : PO} (h : SemCP P Γ c σ r) : SemCP P Γ (.block id c) σ r := by
 intro ro G a w hr ho
 refine wpIn_block (wpIn_mono (h ro G a w hr ho) ?_)
 rintro e a' w' ⟨rfl, h⟩
 exact ⟨rfl, h⟩
theorem SemCP.cond {c : Operand} {t f : Code} {r : PO} {b s : Bool} (hq : (σ.eval Γ c).bool? = some (b, s)) (h : SemCP P Γ (match b with | true => t | false => f) σ r) : SemCP P Γ (.cond c t f) σ r := by
 intro ro G a w hr ho
 have hb := bool?_eq hq (hr.eval c)
 cases b
 · exact wpIn_cond_false hb (h ro G a w hr ho)
 · exact wpIn_cond_true hb (h ro G a w hr ho)
def SemLP (P : Program) (Γ : Nat → Option V) (c : Code) (σ : St) (r : PO) : Prop :=
 ∃ n, ∀ (ro : Option Nat) G a w, Rel Γ G σ a w → RoOk G ro → Code.roundsIn (wideR ro) 0 P c (fun e a' w' => e = .panic (panCh r.T) ∧ PanR Γ G σ.kt r a' w') n a w
theorem SemLP.here {c : Code} {r : PO} (h : SemCP P Γ c σ r) : SemLP P Γ c σ r := by
 refine ⟨1, fun ro G a w hr ho => ?_⟩
 rw [roundsIn_succ]
 refine wpIn_mono (h ro G a w hr ho) ?_
 rintro e a' w' ⟨rfl, h⟩
 exact ⟨rfl, h⟩
theorem SemLP.next {c : Code} {r : PO} (h : SemC P Γ c σ .normal σ1) (hk : σ1.kt = σ.kt) (k : SemLP P Γ c σ1 r) : SemLP P Γ c σ r := by
 obtain ⟨n, k⟩ := k
 refine ⟨n + 1, fun ro G a w hr ho => ?_⟩
 rw [roundsIn_succ]
 refine wpIn_mono (h ro G a w hr ho) ?_
 rintro e a' w' ⟨rfl, G1, h1, r1⟩
 refine rounds_mono ?_ n _ _ (k ro G1 a' w' r1 (ho.leW h1))
 rintro e a'' w'' ⟨rfl, h2⟩
 rw [hk] at h2
 exact ⟨rfl, h2.leW h1⟩
theorem SemCP.loop {c : Code} {r : PO} (h : SemLP P Γ c σ r) : SemCP P Γ (.loop c) σ r := by
 obtain ⟨n, h⟩ := h
 exact fun ro G a w hr ho => wpIn_loop_rounds n (h ro G a w hr ho)
theorem SemCP.region {id : Nat} {ops : Array Oper} {r : PO} (h : SemRP P Γ ops (List.range ops.size) σ r) : SemCP P Γ (.region id ops false) σ r :=
 fun ro G a w hr ho => wpIn_region (h ro G a w hr)
theorem St.pad_kt (x : St) (k : Nat) : (x.pad k).kt = x.kt := by cases k <;> rfl
theorem SemCP.of_pad {c : Code} {x : St} {k : Nat} {r : PO} (h : SemCP P Γ c (x.pad k) r) : SemCP P Γ c x r := fun ro G a w hr ho => by
 have := h ro G a w (hr.pad k) ho
 rw [St.pad_kt] at this
 exact this
theorem panR_of {G : Gh} {a : Act} {w : World} {nm : Nm} {obF : Ob} {T : TypeId} {ks : List Nat} {G1 : Gh} (hle : G.le G1) (hr : Rel Γ G σ a w) {w1 : World} (hw : WRel Γ G1 obF nm w1) (hk : σ.kh ≤ obF.length) (ht : σ.kt ≤ nm.length) :
 PanR Γ G σ.kt ⟨T, keepP ks σ.kh 0 σ.tm, anyOb σ.kh obF⟩ a w1 := by
 refine ⟨G1.cut G.kh G.kt, Gh.leW_cut hle.weak, keepP_rel (G := G) (fun o b ho hh => ?_) 0 _ _ hr.tm, ?_, Marks.mono (G := G) (G' := G1.cut G.kh G.kt) (fun l o h => hle.d l o h) hle.kd hle.w0 hr.df⟩
 · show (if o < G.kh then G1.H o else none) = _
   rw [hr.kh, if_pos ho]
   exact hle.h o b hh
 · rw [← hr.kh, ← hr.kt]
   exact hw.cut (by rw [hr.kh]; exact hk) (by rw [hr.kt]; exact ht)
theorem SemRP.panic {ops : Array Oper} {i : Nat} {l : List Nat} {o : Oper} {x : Operand} (ks : List Nat) (ho : ops[i]? = some o) (hw : wantedV ops σ.tm o = some true) (hop : o.op = .panic x) (hx : σ.eval Γ x = .ifc T (.agg [])) (hk : σ.kh ≤ σ.ob.length) (ht : σ.kt ≤ σ.nm.length) : SemRP P Γ ops (i :: l) σ ⟨T, keepP ks σ.kh 0 σ.tm, anyOb σ.kh σ.ob⟩ := by
 intro ro G a w hr
 simp only [wpOpsIn, ho, wanted_of hr.tm hw, if_true]
 have hxx := hr.eval x
 rw [hx] at hxx
 generalize he : a.eval x = cx at hxx
 cases hxx with
 | @ifc _ _ v hv =>
  cases hv with
  | @agg _ c hl hc =>
   have hc0 : c = #[] := Array.eq_empty_of_size_eq_zero hl
   subst hc0
   have hrun : (execOp a.eval o).run P w = .halt (.panic (panV T)) w := by
    simp [execOp, hop, he, Instr.panic, panV, goPanic]
   refine ⟨fun _ _ => trivial, ?_⟩
   rw [Oper.semAt_eq _ _ _ (fun c h => by rw [hop] at h; cases h), hrun]
   exact ⟨rfl, panR_of (.refl G) hr hr.wr hk ht⟩
theorem SemRP.call {ops : Array Oper} {i : Nat} {l : List Nat} {o : Oper} {c : Call} {x : Operand} {f : FuncId} {fn : Func} {first cap : List V} {obF : Ob} (ks : List Nat) (hoi : ops[i]? = some o) (hw : wantedV ops σ.tm o = some true) (ho : o.op = .call c) (hc : c.callee = .value x) (hx : σ.eval Γ x = .fn (.func f) first cap)
 (hf : P.funcs[f]? = some fn) (hb : fn.body.isSome = true) (hn : (fn.name == "runtime.NumGoroutine") = false) (h : SemFP P Γ f (first ++ c.args.toList.map (σ.eval Γ) ++ cap) σ.ob σ.nm T obF) (hk : σ.kh ≤ obF.length) (ht : σ.kt ≤ σ.nm.length) :
 SemRP P Γ ops (i :: l) σ ⟨T, keepP ks σ.kh 0 σ.tm, anyOb σ.kh obF⟩ := by
 intro ro G a w hr
 simp only [wpOpsIn, hoi, wanted_of hr.tm hw, if_true]
 have hfx := hr.eval x
 rw [hx] at hfx
 generalize he : a.eval x = cx at hfx
 cases hfx with
 | @fn _ _ _ ca cc ha hcc h1 h2 =>
  have r1 : Rels G first ca.toList := ⟨by simpa using ha, fun j v cv g1 g2 => h1 j v cv g1 (by simpa using g2)⟩
  have r2 : Rels G cap cc.toList := ⟨by simpa using hcc, fun j v cv g1 g2 => h2 j v cv g1 (by simpa using g2)⟩
  have r3 : Rels G (c.args.toList.map (σ.eval Γ)) (c.args.toList.map a.eval) := by
   refine ⟨by simp, fun j v cv g1 g2 => ?_⟩
   simp only [List.getElem?_map, Option.map_eq_some_iff] at g1 g2
   obtain ⟨p, hp, rfl⟩ := g1
   obtain ⟨q, hq, rfl⟩ := g2
   rw [hp] at hq
   cases hq
   exact hr.eval p
  have hcall := h G w _ hr.wr ((r1.append r3).append r2)
  have hargs : (ca.toList ++ c.args.toList.map a.eval ++ cc.toList).toArray = ca ++ c.args.map a.eval ++ cc := by
   apply Array.ext'
   simp
  rw [hargs] at hcall
  refine ⟨fun _ _ => trivial, ?_⟩
  have hrun : (execOp a.eval o).run P w = .ok (.enter f (ca ++ c.args.map a.eval ++ cc)) w := by
   have hn' : ¬ fn.name = "runtime.NumGoroutine" := by simpa using hn
   have hbn' : ¬ fn.body = none := by intro hh; simp [hh] at hb
   simp [execOp, ho, resolve, hc, he, Deferred.ofValue, invoke, callFunc, hf, hbn', hn']
  rw [semAt_of hrun (fun _ h => by cases h)]
  refine ⟨depthR, callsR.2 (hcall.mono ?_)⟩
  rintro e w' ⟨G1, rfl, hle, hw1⟩
  exact ⟨rfl, panR_of hle hr hw1 hk (by simpa [deadNm] using ht)⟩
theorem SemFP.of_body {f : FuncId} {fn : Func} {c : Code} {args : List V} {ob : Ob} {nm : Nm} {r : PO} (hf : P.funcs[f]? = some fn) (hb : fn.body = some c) (hc : SemCP P Γ c (St.start fn.ntmps args ob nm) r) : SemFP P Γ f args ob nm r.T r.ob := by
 intro G w cargs hw hr
 refine callsIn_wide (n := 0).1 (callsIn_of_wp_marks hf hb trivial (wpIn_mono (hc none (((G.reK ob.length nm.length).reD w.heap.size).reB []) _ w ⟨?_, ((hw.reK _ _).reD (Nat.le_refl _)).reB, .nil _ rfl, rfl, rfl⟩ (RoOk.none _)) ?_))
 · have h1 := (((hr.mono' (G.reK_sub ob.length nm.length)).mono' (Gh.reD_sub _ w.heap.size)).mono' (Gh.reB_sub _ [])).append (Rels.replicate _ (VRel.undef _) (fn.ntmps - args.length))
   have : (cargs.toArray ++ Array.replicate (fn.ntmps - cargs.toArray.size) undef).toList = cargs ++ List.replicate (fn.ntmps - args.length) undef := by simp [hr.1]
   rw [this]
   exact h1
 · rintro e a' w' ⟨rfl, G1, hle, hrt, hw1, ms, hms, hmm⟩
   have hkd : G1.kd = w.heap.size := hle.kd
   have hbd : G1.w0.bd = [] := by rw [hle.w0]; rfl
   show LeavesInM _ _ P fn a'.tmps _ a'.defers (.panicking (panCh r.T)) w'
   rw [hms, hbd]
   refine leaves_marksB (σ := ⟨r.tm, r.ob, deadNm nm.length, 0, 0⟩) (Γ := Γ) (.panicking (panCh r.T)) (by simp) [] ms G1 w' hrt hw1 hmm (by rw [hkd, hle.w0]; exact hw.size) (fun G2 w2 hn hr2 hw2 => ?_)
   exact ⟨((G2.reK G.kh G.kt).reD G.kd).reB G.w0.bd, rfl,
    ⟨⟨fun b off cv h => by show G2.M b off = _; rw [hn.m]; exact hle.m _ _ _ h, fun o b hh => by show G2.H o = _; rw [hn.h]; exact hle.h o b (hw.hlt o b hh).1 hh, fun n x hh => by show G2.T n = _; rw [hn.t]; exact hle.t n x (hw.tlt n x hh) hh,
     fun l o hh => by show G2.D l = _; rw [hn.d l (by rw [hkd]; exact hw.dlt hh)]; exact hle.d _ _ hh⟩, rfl, rfl, by show { G2.w0 with bd := G.w0.bd } = G.w0; rw [hn.w0, hle.w0]; rfl, hn.m0.trans hle.m0, rfl⟩,
    WRel.reB ((hw2.reK _ _).reD (Nat.le_trans hw.kdle (by have := hw2.kdle; rw [hn.kd, hkd] at this; exact this)))⟩
abbrev PanF := FuncId → List V → Ob → Nm → Option (TypeId × Ob)
def PanOk (P : Program) (Γ : Nat → Option V) (pf : PanF) : Prop :=
 ∀ f args ob nm T obR, pf f args ob nm = some (T, obR) → SemFP P Γ f args ob nm T obR ∧ ∃ fn, P.funcs[f]? = some fn ∧ fn.body.isSome = true ∧ (fn.name == "runtime.NumGoroutine") = false
def panO (Γ : Nat → Option V) (pf : PanF) (ks : List Nat) (o : Oper) (x : St) : Option PO :=
 match Nat.ble x.kt x.nm.length with
 | true =>
  match o.op with
  | .panic y => match x.eval Γ y with | .ifc T (.agg []) => (match Nat.ble x.kh x.ob.length with | true => some ⟨T, keepP ks x.kh 0 x.tm, anyOb x.kh x.ob⟩ | false => none) | _ => none
  | .call c =>
   match c.callee with
   | .value y =>
    match x.eval Γ y with
    | .fn (.func f) first cap =>
     match pf f (first ++ c.args.toList.map (x.eval Γ) ++ cap) x.ob x.nm with
     | some (T, obF) => (match Nat.ble x.kh obF.length with | true => some ⟨T, keepP ks x.kh 0 x.tm, anyOb x.kh obF⟩ | false => none)
     | none => none
    | _ => none
   | _ => none
  | _ => none
 | false => none
theorem panO_sound {pf : PanF} (hpf : PanOk P Γ pf) {ks : List Nat} {o : Oper} {ops : Array Oper} {i : Nat} {l : List Nat} {r : PO} (h : panO Γ pf ks o σ = some r) (hoi : ops[i]? = some o) (hw : wantedV ops σ.tm o = some true) : SemRP P Γ ops (i :: l) σ r := by
 unfold panO at h
 split at h
 · rename_i ht
   have ht := Nat.le_of_ble_eq_true ht
   split at h
   · rename_i y hop
     split at h
     · rename_i T hx
       split at h
       · rename_i hk
         cases h
         exact SemRP.panic ks hoi hw hop hx (Nat.le_of_ble_eq_true hk) ht
       · cases h
     · cases h
   · rename_i c ho
     split at h
     · rename_i y hc
       split at h
       · rename_i f first cap hx
         split at h
         · rename_i T obF hp
           split at h
           · rename_i hk
             cases h
             obtain ⟨h1, fn, h2, h3, h4⟩ := hpf _ _ _ _ _ _ hp
             exact SemRP.call ks hoi hw ho hc hx h2 h3 h4 h1 (Nat.le_of_ble_eq_true hk) ht
           · cases h
         · cases h
       · cases h
     · cases h
   · cases h
 · cases h
def evPR (P : Program) (Γ : Nat → Option V) (cf : CallF) (pf : PanF) (ks : List Nat) (ops : Array Oper) (base : Nat) : Nat → Nat → St → Option PO
 | 0, _, _ => none
 | n + 1, i, x =>
  match (match ops[i]? with | some o => (match wantedL ops x.tm o with | some true => panO Γ pf ks o x | _ => none) | none => none) with
  | some r => some r
  | none =>
   match stp P Γ cf ops base i x with
   | some (x', _) => (match Nat.beq x'.kt x.kt with | true => evPR P Γ cf pf ks ops base n (i + 1) x' | false => none)
   | none => none
theorem evPR_sound (hcf : CallsOk P Γ cf) (hfit : CallsFit cf) {pf : PanF} (hpf : PanOk P Γ pf) {ks : List Nat} {ops : Array Oper} {base : Nat} : ∀ (n i : Nat) (x : St) (r : PO), Free ops base i x → evPR P Γ cf pf ks ops base n i x = some r → SemRP P Γ ops (List.range' i n) x r
 | 0, i, x, r, _, h => by cases h
 | n + 1, i, x, r, hf, h => by
  simp only [evPR] at h
  split at h
  · rename_i r0 hp
    cases h
    split at hp
    · rename_i o ho
      split at hp
      · rename_i hw
        rw [List.range'_succ]
        exact panO_sound hpf hp ho (wantedL_V hw)
      · cases hp
    · cases hp
  · split at h
    · rename_i x1 ef h1
      split at h
      · rename_i hk
        have hk := Nat.eq_of_beq_eq_true hk
        have ih := evPR_sound hcf hfit hpf n (i + 1) x1 r (hf.next hfit h1) h
        intro ro G a w hr
        rw [List.range'_succ, wpOpsIn_cons]
        refine stp_wp hcf hfit h1 (fun o ho hal => hf i o (Nat.le_refl _) ho hal) hr _ _ ?_
        intro G1 a1 w1 hle1 r1
        refine wpOps_mono ?_ _ _ _ (ih ro G1 a1 w1 r1)
        rintro e a' w' ⟨rfl, h2⟩
        rw [hk] at h2
        exact ⟨rfl, h2.leW hle1.weak⟩
      · cases h
    · cases h
def evP (P : Program) (Γ : Nat → Option V) (cf : CallF) (pf : PanF) (ks : List Nat) : Nat → Code → St → Option PO
 | 0, _, _ => none
 | n + 1, c, x =>
  match c with
  | .region _ ops false => evPR P Γ cf pf ks ops x.basis ops.size 0 (x.pad (padK ops))
  | .seq a b =>
   match evP P Γ cf pf ks n a x with
   | some r => some r
   | none => match (evC P Γ cf n a x).run with | some (.normal, x1) => (match Nat.beq x1.kt x.kt with | true => evP P Γ cf pf ks n b x1 | false => none) | _ => none
  | .cond q t f =>
   match (x.eval Γ q).bool? with
   | some (true, _) => evP P Γ cf pf ks n t x
   | some (false, _) => evP P Γ cf pf ks n f x
   | none => none
  | .block _ b => evP P Γ cf pf ks n b x
  | .loop b =>
   match evP P Γ cf pf ks n b x with
   | some r => some r
   | none => match (evC P Γ cf n b x).run with | some (.normal, x1) => (match Nat.beq x1.kt x.kt with | true => evP P Γ cf pf ks n (.loop b) x1 | false => none) | _ => none
  | _ => none
theorem evP_sound (hcf : CallsOk P Γ cf) (hfit : CallsFit cf) (hm : P.follows .mixedOrders = true) {pf : PanF} (hpf : PanOk P Γ pf) {ks : List Nat} : ∀ (n : Nat) (c : Code) (x : St) (r : PO), evP P Γ cf pf ks n c x = some r → SemCP P Γ c x r ∧ ∀ b, c = .loop b → SemLP P Γ b x r
 | 0, c, x, r, h => by cases h
 | n + 1, c, x, r, h => by
  have ih := evP_sound hcf hfit hm hpf (ks := ks) n
  unfold evP at h
  split at h
  · rename_i id ops
    refine ⟨SemCP.of_pad (k := padK ops) (SemCP.region ?_), fun b hb => by cases hb⟩
    rw [List.range_eq_range']
    exact evPR_sound hcf hfit hpf _ _ _ _ (pad_free x) h
  · rename_i a b
    refine ⟨?_, fun b hb => by cases hb⟩
    split at h
    · rename_i r0 h1
      cases h
      exact .seq_l (ih _ _ _ h1).1
    · split at h
      · rename_i x1 h1
        split at h
        · rename_i hk
          exact .seq_r (evC_sound hcf hfit hm h1) (Nat.eq_of_beq_eq_true hk) (ih _ _ _ h).1
        · cases h
      · cases h
  · rename_i q t f
    refine ⟨?_, fun b hb => by cases hb⟩
    split at h
    · rename_i hq
      exact .cond hq (ih _ _ _ h).1
    · rename_i hq
      exact .cond hq (ih _ _ _ h).1
    · cases h
  · exact ⟨.block (ih _ _ _ h).1, fun b hb => by cases hb⟩
  · rename_i b
    have key : SemLP P Γ b x r := by
     split at h
     · rename_i r0 h1
       cases h
       exact .here (ih _ _ _ h1).1
     · split at h
       · rename_i x1 h1
         split at h
         · rename_i hk
           exact .next (evC_sound hcf hfit hm h1) (Nat.eq_of_beq_eq_true hk) ((ih _ _ _ h).2 b rfl)
         · cases h
       · cases h
    exact ⟨.loop key, fun b' hb => by cases hb; exact key⟩
  · cases h
def evFP (P : Program) (Γ : Nat → Option V) (cf : CallF) (pf : PanF) (n : Nat) : PanF := fun f args ob nm =>
 match P.funcs[f]? with
 | none => none
 | some fn =>
  match fn.body with
  | none => none
  | some c =>
   match fn.name == "runtime.NumGoroutine" with
   | true => none
   | false => match evP P Γ cf pf [] n c (St.start fn.ntmps args ob nm) with | some r => some (r.T, r.ob) | none => none
theorem evFP_ok (hcf : CallsOk P Γ cf) (hfit : CallsFit cf) (hm : P.follows .mixedOrders = true) {pf : PanF} (hpf : PanOk P Γ pf) (n : Nat) : PanOk P Γ (evFP P Γ cf pf n) := by
 intro f args ob nm T obR h
 unfold evFP at h
 split at h
 · cases h
 · rename_i fn hf
   split at h
   · cases h
   · rename_i c hb
     split at h
     · cases h
     · rename_i hn
       split at h
       · rename_i r hr
         cases h
         exact ⟨.of_body hf hb (evP_sound hcf hfit hm hpf _ _ _ _ hr).1, fn, hf, by rw [hb]; rfl, hn⟩
       · cases h
theorem PanOk.none : PanOk P Γ (fun _ _ _ _ => none) := fun _ _ _ _ _ _ h => by cases h
def pfD (P : Program) (Γ : Nat → Option V) (cf : CallF) (n : Nat) : Nat → PanF
 | 0 => fun _ _ _ _ => none
 | d + 1 => evFP P Γ cf (pfD P Γ cf n d) n
theorem pfD_ok (hcf : CallsOk P Γ cf) (hfit : CallsFit cf) (hm : P.follows .mixedOrders = true) (n : Nat) : ∀ d, PanOk P Γ (pfD P Γ cf n d)
 | 0 => PanOk.none
 | d + 1 => evFP_ok hcf hfit hm (pfD_ok hcf hfit hm n d) n
end
end Go.Proofs.YthjiodeaepigmaaDoor

/- A function that defers a call which recovers. -/
set_option linter.unusedVariables false
set_option linter.unusedSimpArgs false
namespace Go.Proofs.YthjiodeaepigmaaDoor
open Go
section
variable {P : Program} {Γ : Nat → Option V} {cf : CallF} {ops : Array Oper} {base : Nat}
theorem put_defers (a : Act) (d : Option Nat) (v : Value) : (a.put d v).defers = a.defers := by cases d <;> rfl
theorem stp_wpD (hcf : CallsOk P Γ cf) (hfit : CallsFit cf) {i : Nat} {x x' : St} {ef : Option Eff} (h : stp P Γ cf ops base i x = some (x', ef)) (hfree : ∀ o, ops[i]? = some o → allocs o = true → x.ob[slotOf ops base i]? = some none ∧ x.nm[slotOf ops base i]? = some none)
 {ro : Option Nat} {G : Gh} {a : Act} {w : World} (hr : Rel Γ G x a w) (K : Act → World → Prop) (Q : Exit → Act → World → Prop) (hk : ∀ G' a' w', a'.defers = a.defers → G.le G' → Rel Γ G' x' a' w' → K a' w') : wpOpIn (wideR ro) 0 P ops Q i K a w := by
 unfold stp at h
 unfold wpOpIn
 cases ho : ops[i]? with
 | none =>
  simp only [ho, Option.some.injEq, Prod.mk.injEq] at h
  obtain ⟨rfl, rfl⟩ := h
  exact hk G a w rfl (.refl G) hr
 | some o =>
  simp only [ho] at h ⊢
  split at h
  · cases h
  · rename_i hw
    simp only [Option.some.injEq, Prod.mk.injEq] at h
    obtain ⟨rfl, rfl⟩ := h
    rw [wanted_of hr.tm (wantedL_V hw)]
    exact ⟨fun _ _ => trivial, hk G _ w (put_defers _ _ _) (.refl G) (hr.put o.dst (VRel.undef G))⟩
  · rename_i hw
    rw [wanted_of hr.tm (wantedL_V hw)]
    split at h
    · cases h
    · rename_i out he
      split at h
      · rename_i hc
        simp only [Option.some.injEq, Prod.mk.injEq] at h
        obtain ⟨rfl, rfl⟩ := h
        have hsv := evE_sound (σ := x) hcf he hc (hfree o ho)
        simp only [if_true]
        refine hsv ro G a w K Q hr ?_
        intro G' cv w' hle hv hw'
        refine hk G' _ w' (put_defers _ _ _) hle ?_
        have : Rel Γ G' { x with ob := out.eff.ob x.ob, nm := out.eff.nm x.nm } a w' := ⟨hr.tm.mono hle, hw', hr.df.mono hle.d hle.kd hle.w0, hle.kh.trans hr.kh, hle.kt.trans hr.kt⟩
        exact this.put o.dst (litG_rel _ hv)
      · cases h
theorem chain_semD (hcf : CallsOk P Γ cf) (hfit : CallsFit cf) : ∀ (n i : Nat) (x x' : St) (es : List (Option Eff)), Free ops base i x → chain P Γ cf ops base n i x = some (x', es) → ∀ (ro : Option Nat) G a w, Rel Γ G x a w →
      wpOpsIn (wideR ro) 0 P ops (fun e a' w' => e = .normal ∧ a'.defers = a.defers ∧ ∃ G', G.le G' ∧ Rel Γ G' x' a' w') (List.range' i n) a w
  | 0, i, x, x', es, _, h, ro, G, a, w, hr => by simp [chain] at h; obtain ⟨rfl, rfl⟩ := h; exact ⟨rfl, rfl, G, .refl G, hr⟩
  | n + 1, i, x, x', es, hf, h, ro, G, a, w, hr => by
    simp only [chain] at h
    split at h
    · cases h
    · rename_i x1 ef h1
      split at h
      · cases h
      · rename_i x2 es' h2
        cases h
        have ih := chain_semD hcf hfit n (i + 1) x1 x' es' (hf.next hfit h1) h2
        rw [List.range'_succ, wpOpsIn_cons]
        refine stp_wpD hcf hfit h1 (fun o ho hal => hf i o (Nat.le_refl _) ho hal) hr _ _ ?_
        intro G1 a1 w1 hd1 hle1 r1
        refine wpOps_mono ?_ _ _ _ (ih ro G1 a1 w1 r1)
        rintro e a' w' ⟨rfl, hd2, G2, hle2, r2⟩
        exact ⟨rfl, hd2.trans hd1, G2, hle1.trans hle2, r2⟩
def SemCD (P : Program) (Γ : Nat → Option V) (c : Code) (σ : St) (x : Exit) (σ' : St) : Prop :=
 ∀ (ro : Option Nat) G a w, Rel Γ G σ a w → c.wpIn (wideR ro) 0 P (fun e a' w' => e = x ∧ a'.defers = a.defers ∧ ∃ G', G.le G' ∧ Rel Γ G' σ' a' w') a w
def evS (P : Program) (Γ : Nat → Option V) (cf : CallF) : Nat → Code → St → Option (Ex × St)
 | 0, _, _ => none
 | n + 1, c, x =>
  match c with
  | .skip => some (.normal, x)
  | .ret => some (.ret, x)
  | .region _ ops false => match chain P Γ cf ops x.basis ops.size 0 (x.pad (padK ops)) with | some (x', _) => some (.normal, x') | none => none
  | .seq a b =>
   match evS P Γ cf n a x with
   | some (.normal, x1) => evS P Γ cf n b x1
   | r => r
  | .cond q t f =>
   match (x.eval Γ q).bool? with
   | some (true, _) => evS P Γ cf n t x
   | some (false, _) => evS P Γ cf n f x
   | none => none
  | _ => none
theorem evS_sound (hcf : CallsOk P Γ cf) (hfit : CallsFit cf) : ∀ (n : Nat) (c : Code) (x : St) (e : Ex) (x' : St), evS P Γ cf n c x = some (e, x') → SemCD P Γ c x e.to x'
 | 0, c, x, e, x', h => by cases h
 | n + 1, c, x, e, x', h => by
  have ih := evS_sound hcf hfit n
  unfold evS at h
  split at h
  · cases h; exact fun ro G a w hr => wpIn_skip ⟨rfl, rfl, G, .refl G, hr⟩
  · cases h; exact fun ro G a w hr => wpIn_ret ⟨rfl, rfl, G, .refl G, hr⟩
  · rename_i id ops
    split at h
    · rename_i x1 es h1
      cases h
      intro ro G a w hr
      refine wpIn_region ?_
      rw [List.range_eq_range']
      exact chain_semD hcf hfit _ _ _ _ _ (pad_free x) h1 ro G a w (hr.pad _)
    · cases h
  · rename_i c1 c2
    split at h
    · rename_i x1 h1
      intro ro G a w hr
      refine wpIn_seq (wpIn_mono (ih _ _ _ _ h1 ro G a w hr) ?_)
      rintro e1 a1 w1 ⟨rfl, d1, G1, l1, r1⟩
      refine wpIn_mono (ih _ _ _ _ h ro G1 a1 w1 r1) ?_
      rintro e2 a2 w2 ⟨rfl, d2, G2, l2, r2⟩
      exact ⟨rfl, d2.trans d1, G2, l1.trans l2, r2⟩
    · rename_i r0 hne
      intro ro G a w hr
      refine wpIn_seq (wpIn_mono (ih _ _ _ _ h ro G a w hr) ?_)
      rintro e1 a1 w1 ⟨rfl, d1, G1, l1, r1⟩
      cases e with
      | normal => exact absurd h (hne x')
      | exit i => exact ⟨rfl, d1, G1, l1, r1⟩
      | ret => exact ⟨rfl, d1, G1, l1, r1⟩
  · rename_i q t f
    intro ro G a w hr
    split at h
    · rename_i hq
      exact wpIn_cond_true (bool?_eq hq (hr.eval q)) (ih _ _ _ _ h ro G a w hr)
    · rename_i hq
      exact wpIn_cond_false (bool?_eq hq (hr.eval q)) (ih _ _ _ _ h ro G a w hr)
    · cases h
  · cases h
def dMode : Option TypeId → FrameMode
 | none => .returning
 | some T => .panicking (panCh T)
def dMode' : Option TypeId → FrameMode
 | none => .returning
 | some T => .panicking [{ v := panV T, recovered := true }]
def dVal : Option TypeId → V
 | none => .nilifc
 | some T => .ifc T (.agg [])
def SemD (P : Program) (Γ : Nat → Option V) (g : FuncId) (caps : List V) (x : Option TypeId) (ob : Ob) (nm : Nm) (ob' : Ob) (nm' : Nm) : Prop :=
 ∀ G w (cc : List Value), WRel Γ G ob nm w → Rels G caps cc →
  CallsDIn Fence.wide 0 P g cc.toArray (dMode x) w (fun e u' w' => ∃ v G', e = .returned v ∧ u' = dMode' x ∧ G.le G' ∧ WRel Γ G' ob' nm' w')
theorem SemD.of_ev (hcf : CallsOk P Γ cf) (hfit : CallsFit cf) {g : FuncId} {fn : Func} {id : Nat} {r1 r2 : Oper} {c1 : Call} {d1 d2 : Nat} {rest : Code} {caps : List V} {x : Option TypeId} {ob : Ob} {nm : Nm} {n : Nat} {e : Ex} {σ' : St} {res : V}
 (hf : P.funcs[g]? = some fn) (hb : fn.body = some (.seq (.region id #[r1, r2] false) rest)) (h1 : r1.op = .call c1) (hc1 : c1.callee = .builtin .recover) (ha1 : c1.args = #[]) (hd1 : r1.dst = some d1) (hg1 : r1.guard = none)
 (h2 : r2.op = .assign (.tmp d1)) (hd2 : r2.dst = some d2) (hg2 : r2.guard = none) (hn : caps.length ≤ fn.ntmps) (hlt : d1 < fn.ntmps)
 (hev : evS P Γ cf n rest ⟨((caps ++ List.replicate (fn.ntmps - caps.length) (V.tup [])).set d1 (dVal x)).set d2 (dVal x), ob, nm, ob.length, nm.length⟩ = some (e, σ')) (hx : e.to = .ret ∨ e.to = .normal) (hres : resV P σ' fn.results.toList = some res) :
 SemD P Γ g caps x ob nm σ'.ob σ'.nm := by
 intro G w cc hw hr
 refine callsDIn_of_wpSIn hf hb trivial (fun c₀ cs hu => ?_)
 have hrest := evS_sound hcf hfit _ _ _ _ _ hev
 -- the state behind the first region
 have key : ∀ (v : Value) (cs' : List Frame), VRel (((G.reK ob.length nm.length).reD w.heap.size).reB []) (dVal x) v → cs' = { c₀ with mode := dMode' x } :: cs →
  rest.wpSIn Fence.wide 0 P (bodyPostS P fn c₀ cs (fun e u' w' => ∃ v G', e = .returned v ∧ u' = dMode' x ∧ G.le G' ∧ WRel Γ G' σ'.ob σ'.nm w'))
   ((({ tmps := cc.toArray ++ Array.replicate (fn.ntmps - cc.toArray.size) undef, defers := [] } : Act).put (some d1) v).put (some d2) v) cs' w := by
  intro v cs' hv hcs
  subst hcs
  refine wpSIn_of_wpIn rfl ?_
  have hr0 : Rel Γ (((G.reK ob.length nm.length).reD w.heap.size).reB []) ⟨caps ++ List.replicate (fn.ntmps - caps.length) (V.tup []), ob, nm, ob.length, nm.length⟩ { tmps := cc.toArray ++ Array.replicate (fn.ntmps - cc.toArray.size) undef, defers := [] } w := by
   refine ⟨?_, ((hw.reK _ _).reD (Nat.le_refl _)).reB, .nil _ rfl, rfl, rfl⟩
   have h1 := (((hr.mono' (G.reK_sub ob.length nm.length)).mono' (Gh.reD_sub _ w.heap.size)).mono' (Gh.reB_sub _ [])).append (Rels.replicate _ (VRel.undef _) (fn.ntmps - caps.length))
   have : (cc.toArray ++ Array.replicate (fn.ntmps - cc.toArray.size) undef).toList = cc ++ List.replicate (fn.ntmps - caps.length) undef := by simp [hr.1]
   rw [this]
   exact h1
  have hr1 := (hr0.put (some d1) hv).put (some d2) hv
  refine wpIn_mono (hrest none _ _ w hr1) ?_
  rintro e' a' w' ⟨rfl, hd, G1, hle, r1⟩
  have hd' : a'.defers = [] := by rw [hd, put_defers, put_defers]
  obtain ⟨rv, hv1, hv2⟩ := resV_run (fn := fn) r1 hres
  have fin : bodyPostS P fn c₀ cs (fun e u' w' => ∃ v G', e = .returned v ∧ u' = dMode' x ∧ G.le G' ∧ WRel Γ G' σ'.ob σ'.nm w') .ret a' ({ c₀ with mode := dMode' x } :: cs) w' := by
   refine ⟨hd', dMode' x, rfl, rv, hv1, rv, ((G1.reK G.kh G.kt).reD G.kd).reB G.w0.bd, rfl, rfl, ?_, ?_⟩
   · exact ⟨⟨hle.m, hle.h, hle.t, hle.d⟩, rfl, rfl, by show { G1.w0 with bd := G.w0.bd } = G.w0; rw [hle.w0]; rfl, hle.m0, rfl⟩
   · refine WRel.reB ((r1.wr.reK _ _).reD (Nat.le_trans hw.kdle ?_))
     have h3 := r1.wr.kdle
     have h4 : G1.kd = w.heap.size := hle.kd
     rw [h4] at h3
     exact h3
  rcases hx with hx | hx
  · rw [hx]; exact fin
  · rw [hx]; exact fin
 refine wpSIn_seq (wpSIn_region ?_)
 have hrec : ∀ (a : Act), (execOp a.eval r1).run P w = .ok .recover w := fun a => by
  simp [execOp, h1, resolve, hc1, ha1, invoke, Go.builtin]
 have hasg : ∀ (a : Act), (execOp a.eval r2).run P w = .ok (.value (a.eval (.tmp d1))) w := fun a => by
  simp [execOp, h2]
 have hsz : (#[r1, r2] : Array Oper).size = 2 := rfl
 rw [hsz]
 show wpOpsSIn Fence.wide 0 P #[r1, r2] _ [0, 1] _ _ _
 have e0 : (#[r1, r2] : Array Oper)[0]? = some r1 := rfl
 have e1 : (#[r1, r2] : Array Oper)[1]? = some r2 := rfl
 simp only [wpOpsSIn, e0, e1, Region.wanted, hg1, hg2, hrec, hasg, if_true]
 refine ⟨fun _ _ => trivial, ?_⟩
 have hput : ∀ (a : Act) (v : Value), d1 < a.tmps.size → (a.put (some d1) v).eval (.tmp d1) = v := fun a v h => by
  simp [Act.put, Act.eval, h]
 have hsz2 : d1 < (cc.toArray ++ Array.replicate (fn.ntmps - cc.toArray.size) undef).size := by
  simp [hr.1]; omega
 cases x with
 | none =>
  have hu : c₀.mode = .returning := hu
  have : recoverD (c₀ :: cs) = none := by simp [recoverD, hu]
  simp only [this]
  refine ⟨fun _ _ => trivial, ?_⟩
  rw [hd1, hd2, hput _ _ hsz2]
  exact key .nilIface _ .nilifc (by cases c₀; cases hu; rfl)
 | some T =>
  have hu : c₀.mode = .panicking (panCh T) := hu
  have : recoverD (c₀ :: cs) = some (panV T, { c₀ with mode := dMode' (some T) } :: cs) := by simp [recoverD, hu, panCh, dMode']
  simp only [this]
  refine ⟨fun _ _ => trivial, ?_⟩
  rw [hd1, hd2, hput _ _ hsz2]
  exact key (panV T) _ (.ifc (.agg rfl (fun j v cv h => by simp at h))) rfl
theorem CallsDIn.mono {F : Fence} {n : Nat} {f : FuncId} {args : Array Value} {u : FrameMode} {w : World} {R R' : Ending → FrameMode → World → Prop} (h : CallsDIn F n P f args u w R) (hr : ∀ e u' w', R e u' w' → R' e u' w') : CallsDIn F n P f args u w R' :=
 ⟨h.1, fun c cs hu hroom => let ⟨e, u', w', fr, h1, h2⟩ := h.2 c cs hu hroom; ⟨e, u', w', fr, hr _ _ _ h1, h2⟩⟩
def ptrsB (k : Nat) (l : List V) : Bool := l.all fun v => match v with | .ptr o _ => Nat.blt o k | _ => false
theorem ptrs_rel {G G' : Gh} {k : Nat} (hg : ∀ o b, o < k → G.H o = some b → G'.H o = some b) {l : List V} {cs : List Value} (hl : ptrsB k l = true) (h : Rels G l cs) : Rels G' l cs := by
 refine ⟨h.1, fun j v cv hv hc => ?_⟩
 have h1 := h.2 j v cv hv hc
 have h2 := List.all_eq_true.1 hl v (List.mem_of_getElem? hv)
 split at h2
 · cases h1 with
   | ptr hh => exact .ptr (hg _ _ (blt_lt h2) hh)
 · cases h2
theorem SemF.guarded (hcf : CallsOk P Γ cf) (hfit : CallsFit cf) {f : FuncId} {fn : Func} {idA idD : Nat} {opsA : Array Oper} {o1 o2 : Oper} {c2 : Call} {y : Operand} {rest : Code} {g : FuncId} {gn : Func} {caps args : List V} {ob : Ob} {nm : Nm} {x1 x2 : St} {es : List (Option Eff)} {ef : Option Eff} {res : V} {ob5 : Ob} {nm5 : Nm}
 (hf : P.funcs[f]? = some fn) (hb : fn.body = some (.seq (.region idA opsA false) (.seq (.region idD #[o1, o2] false) rest)))
 (hA : chain P Γ cf opsA (St.start fn.ntmps args ob nm).basis opsA.size 0 ((St.start fn.ntmps args ob nm).pad (padK opsA)) = some (x1, es))
 (h1 : stp P Γ cf #[o1, o2] x1.basis 0 (x1.pad (padK #[o1, o2])) = some (x2, ef))
 (h2 : o2.op = .defer c2) (hc2 : c2.callee = .value y) (ha2 : c2.args = #[]) (hg2 : o2.guard = none) (hd2 : o2.dst = none) (hy : x2.eval Γ y = .fn (.func g) [] caps) (hcaps : ptrsB x2.ob.length caps = true) (hle1 : ob.length ≤ x2.ob.length) (hle2 : nm.length ≤ x2.nm.length)
 (hgf : P.funcs[g]? = some gn) (hgb : gn.body.isSome = true) (hgn : (gn.name == "runtime.NumGoroutine") = false)
 (hout : (∃ x σ4, (x = .ret ∨ x = .normal) ∧ SemC P Γ rest { x2 with kh := x2.ob.length, kt := x2.nm.length } x σ4 ∧ SemD P Γ g caps none σ4.ob σ4.nm ob5 nm5 ∧ resV P ⟨σ4.tm, ob5, nm5, x2.ob.length, x2.nm.length⟩ fn.results.toList = some res) ∨
  ∃ r, SemCP P Γ rest { x2 with kh := x2.ob.length, kt := x2.nm.length } r ∧ SemD P Γ g caps (some r.T) r.ob (deadNm x2.nm.length) ob5 nm5 ∧ resV P ⟨r.tm, ob5, nm5, x2.ob.length, x2.nm.length⟩ fn.results.toList = some res) :
 SemF P Γ f args ob nm res ob5 nm5 := by
 intro G w cargs hw hr
 have hstart : Rel Γ (((G.reK ob.length nm.length).reD w.heap.size).reB []) (St.start fn.ntmps args ob nm) { tmps := cargs.toArray ++ Array.replicate (fn.ntmps - cargs.toArray.size) undef, defers := [] } w := by
  refine ⟨?_, ((hw.reK _ _).reD (Nat.le_refl _)).reB, .nil _ rfl, rfl, rfl⟩
  have h1 := (((hr.mono' (G.reK_sub ob.length nm.length)).mono' (Gh.reD_sub _ w.heap.size)).mono' (Gh.reB_sub _ [])).append (Rels.replicate _ (VRel.undef _) (fn.ntmps - args.length))
  have : (cargs.toArray ++ Array.replicate (fn.ntmps - cargs.toArray.size) undef).toList = cargs ++ List.replicate (fn.ntmps - args.length) undef := by simp [hr.1]
  rw [this]
  exact h1
 refine (callsX_fn hf).2 (callsIn_wide (n := 0).1 (callsIn_of_wp_marks hf hb trivial (wpIn_seq (wpIn_region ?_))))
 rw [List.range_eq_range']
 refine wpOps_mono ?_ _ _ _ (chain_semD hcf hfit _ _ _ _ _ (pad_free _) hA none _ _ _ (hstart.pad _))
 rintro e a1 w1 ⟨rfl, hd1, G1, l1, r1⟩
 have hd1 : a1.defers = [] := hd1
 refine wpIn_seq (wpIn_region ?_)
 show wpOpsIn _ 0 P #[o1, o2] _ [0, 1] a1 w1
 rw [wpOpsIn_cons]
 refine stp_wpD (ro := none) hcf hfit h1 (fun o ho hal => pad_free (ops := #[o1, o2]) x1 0 o (Nat.le_refl _) ho hal) (r1.pad _) _ _ ?_
 intro G2 a2 w2 hd2' l2 r2
 have e1 : (#[o1, o2] : Array Oper)[1]? = some o2 := rfl
 simp only [wpOpsIn, e1, Region.wanted, hg2, if_true]
 have hyy := r2.eval y
 rw [hy] at hyy
 generalize hey : a2.eval y = cy at hyy
 cases hyy with
 | @fn _ _ _ ca cc ha hcc q1 q2 =>
 have hca : ca = #[] := Array.eq_empty_of_size_eq_zero ha
 subst hca
 have rcc : Rels G2 caps cc.toList := ⟨by simpa using hcc, fun j v cv g1 g2 => q2 j v cv g1 (by simpa using g2)⟩
 have hrun : (execOp a2.eval o2).run P w2 = .ok (.defer { target := .fn (.func g) cc, args := #[] }) w2 := by
  simp [execOp, h2, resolve, hc2, ha2, hey, Deferred.ofValue]
 refine ⟨fun _ _ => trivial, ?_⟩
 show Oper.uponIn _ 0 P o2 a2 _ _ ((o2.semAt none a2.eval).run P w2)
 rw [Oper.semAt_none, hrun, Oper.uponIn_defer, hd2]
 -- from here on the deferred call lies below
 have l12 := l1.trans l2
 have hkd2 : G2.kd = w.heap.size := l12.kd
 have hw02 : G2.w0 = { G.w0 with bd := [] } := l12.w0
 have hgh : ∀ o b, G.H o = some b → G2.H o = some b := fun o b h => l12.h o b h
 have hgt : ∀ n x, G.T n = some x → G2.T n = some x := fun n x h => l12.t n x h
 let d0 : Deferred := { target := .fn (.func g) cc, args := #[] }
 let G3 : Gh := (G2.reK x2.ob.length x2.nm.length).reB [d0]
 have rcc3 : Rels G3 caps cc.toList := (rcc.mono' (G2.reK_sub _ _)).mono' (Gh.reB_sub _ _)
 have r3 : Rel Γ G3 { x2 with kh := x2.ob.length, kt := x2.nm.length } { a2 with defers := d0 :: a2.defers } w2 :=
  ⟨(r2.tm.mono' (G2.reK_sub _ _)).mono' (Gh.reB_sub _ _), (r2.wr.reK _ _).reB, ⟨[], by show d0 :: a2.defers = [] ++ [d0]; rw [hd2', hd1]; rfl, .nil _⟩, rfl, rfl⟩
 show rest.wpIn _ 0 P _ { a2 with defers := d0 :: a2.defers } w2
 have hinv : ∀ W : World, (invoke d0.target d0.args).run P W = .ok (.enter g cc) W := fun W => by
  have hn' : ¬ gn.name = "runtime.NumGoroutine" := by simpa using hgn
  have hbn' : ¬ gn.body = none := by intro hh; simp [hh] at hgb
  simp [d0, invoke, callFunc, hgf, hbn', hn']
 -- how it ends
 have fin : ∀ (σ5 : St) (a : Act) (u : Option TypeId) (G4 : Gh) (w4 : World), G3.leW G4 → Rels G4 σ5.tm a.tmps.toList → WRel Γ G4 σ5.ob σ5.nm w4 → Marks G4 a.defers → SemD P Γ g caps u σ5.ob σ5.nm ob5 nm5 → resV P ⟨σ5.tm, ob5, nm5, x2.ob.length, x2.nm.length⟩ fn.results.toList = some res →
  LeavesInM Fence.wide 0 P fn a.tmps (fun e w' => ∃ cv G', e = .returned cv ∧ G.le G' ∧ VRel G' res cv ∧ WRel Γ G' ob5 nm5 w') a.defers (dMode u) w4 := by
  intro σ5 a u G4 w4 l4 ht4 hw4 hm4 hD hres
  obtain ⟨ms, hms, hmm⟩ := hm4
  have hbd : G4.w0.bd = [d0] := by rw [l4.w0]; rfl
  rw [hms, hbd]
  have hkd4 : G4.kd = w.heap.size := l4.kd.trans hkd2
  have hw04 : G4.w0 = { G.w0 with bd := [d0] } := by rw [l4.w0]; show { G2.w0 with bd := [d0] } = _; rw [hw02]
  refine leaves_marksB (σ := σ5) (Γ := Γ) (dMode u) (by cases u <;> simp [dMode]) [d0] ms G4 w4 ht4 hw4 hmm (by rw [hkd4, hw04]; exact hw.size) (fun G5 w5 hn ht5 hw5 => ?_)
  have rcc5 : Rels G5 caps cc.toList := ptrs_rel (fun o b ho hh => by rw [hn.h]; exact l4.h o b ho hh) hcaps rcc3
  refine ⟨by cases u <;> simp [dMode], .inr ⟨depthR (ro := none), _, _, g, cc, rfl, hinv w5, fun _ _ => trivial, ?_⟩⟩
  have hcd := hD G5 w5 _ hw5 rcc5
  refine CallsDIn.mono hcd ?_
  rintro e u' w6 ⟨v6, G6, rfl, rfl, l6, hw6⟩
  have hset : settle (dMode' u) = .returning := by cases u <;> rfl
  show LeavesInM _ _ P fn a.tmps _ [] (settle (dMode' u)) w6
  rw [hset]
  have hms6 : Rel Γ (G6.reK x2.ob.length x2.nm.length) ⟨σ5.tm, ob5, nm5, x2.ob.length, x2.nm.length⟩ { a with defers := G6.w0.bd } w6 := ⟨(ht5.mono l6).mono' (G6.reK_sub _ _), hw6.reK _ _, ⟨[], by simp; rfl, .nil _⟩, rfl, rfl⟩
  obtain ⟨cv, q3, q4⟩ := resV_run (fn := fn) hms6 hres
  refine ⟨cv, q3, cv, ((G6.reK G.kh G.kt).reD G.kd).reB G.w0.bd, rfl, ?_, ?_, ?_⟩
  · refine ⟨⟨fun b off c h => ?_, fun o b h => ?_, fun n x h => ?_, fun l o h => ?_⟩, rfl, rfl, ?_, ?_, rfl⟩
    · refine l6.m _ _ _ ?_
      rw [hn.m]
      exact l4.m _ _ _ (l12.m _ _ _ h)
    · refine l6.h _ _ ?_
      rw [hn.h]
      exact l4.h _ _ (Nat.lt_of_lt_of_le (hw.hlt o b h).1 hle1) (hgh o b h)
    · refine l6.t _ _ ?_
      rw [hn.t]
      exact l4.t _ _ (Nat.lt_of_lt_of_le (hw.tlt n x h) hle2) (hgt n x h)
    · refine l6.d _ _ ?_
      rw [hn.d l (by rw [hkd4]; exact hw.dlt h)]
      exact l4.d _ _ (l12.d _ _ h)
    · show { G6.w0 with bd := G.w0.bd } = G.w0
      rw [l6.w0, hn.w0, hw04]
    · show G6.M0 = G.M0
      rw [l6.m0, hn.m0, l4.m0]
      exact l12.m0
  · exact (((q4.mono' (Gh.sub_reK _ _ _)).mono' (G6.reK_sub _ _)).mono' (Gh.reD_sub _ _)).mono' (Gh.reB_sub _ _)
  · refine WRel.reB ((hw6.reK _ _).reD (Nat.le_trans hw.kdle ?_))
    have h3 := hw6.kdle
    rw [l6.kd, hn.kd, hkd4] at h3
    exact h3
 rcases hout with ⟨x, σ4, hx, hC, hD, hres⟩ | ⟨r, hC, hD, hres⟩
 · refine wpIn_mono (hC none G3 _ w2 r3 (RoOk.none _)) ?_
   rintro e a4 w4 ⟨rfl, G4, l4, r4⟩
   have := fin σ4 a4 none G4 w4 l4 r4.tm r4.wr r4.df hD hres
   rcases hx with rfl | rfl <;> exact this
 · refine wpIn_mono (hC none G3 _ w2 r3 (RoOk.none _)) ?_
   rintro e a4 w4 ⟨rfl, G4, l4, ht4, hw4, hm4⟩
   exact fin ⟨r.tm, r.ob, deadNm x2.nm.length, 0, 0⟩ a4 (some r.T) G4 w4 l4 ht4 hw4 hm4 hD hres
end
end Go.Proofs.YthjiodeaepigmaaDoor

/- Functions that defer a call which recovers, reckoned. -/
set_option linter.unusedVariables false
set_option linter.unusedSimpArgs false
namespace Go.Proofs.YthjiodeaepigmaaDoor
open Go
def evD (P : Program) (Γ : Nat → Option V) (cf : CallF) (n : Nat) (g : FuncId) (caps : List V) (x : Option TypeId) (ob : Ob) (nm : Nm) : Option (Ob × Nm) :=
 match P.funcs[g]? with
 | some fn =>
  match fn.body with
  | some (.seq (.region _ ops false) rest) =>
   match ops.toList with
   | [r1, r2] =>
    match r1.op, r1.dst, r1.guard, r2.op, r2.dst, r2.guard with
    | .call c1, some d1, none, .assign (.tmp t), some d2, none =>
     match c1.callee, c1.args.toList, Nat.beq t d1 && Nat.ble caps.length fn.ntmps && Nat.blt d1 fn.ntmps with
     | .builtin .recover, [], true =>
      match evS P Γ cf n rest ⟨((caps ++ List.replicate (fn.ntmps - caps.length) (V.tup [])).set d1 (dVal x)).set d2 (dVal x), ob, nm, ob.length, nm.length⟩ with
      | some (.exit _, _) => none
      | some (_, σ') => match resV P σ' fn.results.toList with | some _ => some (σ'.ob, σ'.nm) | none => none
      | none => none
     | _, _, _ => none
    | _, _, _, _, _, _ => none
   | _ => none
  | _ => none
 | none => none
section
variable {P : Program} {Γ : Nat → Option V} {cf : CallF}
theorem evD_sound (hcf : CallsOk P Γ cf) (hfit : CallsFit cf) {n : Nat} {g : FuncId} {caps : List V} {x : Option TypeId} {ob ob' : Ob} {nm nm' : Nm} (h : evD P Γ cf n g caps x ob nm = some (ob', nm')) : SemD P Γ g caps x ob nm ob' nm' := by
 unfold evD at h
 split at h
 · rename_i fn hf
   split at h
   · rename_i id ops rest hb
     split at h
     · rename_i r1 r2 hops
       have hops : ops = #[r1, r2] := by apply Array.ext'; simpa using hops
       subst hops
       split at h
       · rename_i c1 d1 t d2 h1 hd1 hg1 h2 hd2 hg2
         split at h
         · rename_i hc1 ha1 hb3
           simp only [Bool.and_eq_true] at hb3
           obtain ⟨⟨q1, q2⟩, q3⟩ := hb3
           obtain rfl := Nat.eq_of_beq_eq_true q1
           have ha1 : c1.args = #[] := by apply Array.ext'; simpa using ha1
           have fin : ∀ (e : Ex) (σ' : St) (res : V), evS P Γ cf n rest ⟨((caps ++ List.replicate (fn.ntmps - caps.length) (V.tup [])).set t (dVal x)).set d2 (dVal x), ob, nm, ob.length, nm.length⟩ = some (e, σ') → (e.to = .ret ∨ e.to = .normal) → resV P σ' fn.results.toList = some res → SemD P Γ g caps x ob nm σ'.ob σ'.nm := fun e σ' res he hx hres =>
            SemD.of_ev hcf hfit hf hb h1 hc1 ha1 hd1 hg1 h2 hd2 hg2 (Nat.le_of_ble_eq_true q2) (blt_lt q3) he hx hres
           split at h
           · cases h
           · rename_i e σ' hne he
             split at h
             · rename_i res hres
               cases h
               refine fin e σ' res he ?_ hres
               cases e with
               | exit i => exact (hne i rfl).elim
               | ret => exact .inl rfl
               | normal => exact .inr rfl
             · cases h
           · cases h
         · cases h
       · cases h
     · cases h
   · cases h
 · cases h
def resSlots (fn : Func) : List Nat := fn.results.toList.filterMap fun r => match r with | .cell t _ => some t | _ => none
def evGE (P : Program) (Γ : Nat → Option V) (cf : CallF) (n : Nat) (fn : Func) (g : FuncId) (caps : List V) (k kt : Nat) (u : Option TypeId) (tm : List V) (ob : Ob) (nm : Nm) : Option (V × Ob × Nm) :=
 match evD P Γ cf n g caps u ob nm with
 | some (ob5, nm5) => match resV P ⟨tm, ob5, nm5, k, kt⟩ fn.results.toList with | some res => some (res, ob5, nm5) | none => none
 | none => none
def evG (P : Program) (Γ : Nat → Option V) (cf : CallF) (pf : PanF) (n : Nat) (f : FuncId) (args : List V) (ob : Ob) (nm : Nm) : Option (V × Ob × Nm) :=
 match P.funcs[f]? with
 | some fn =>
  match fn.body with
  | some (.seq (.region _ opsA false) (.seq (.region _ opsD false) rest)) =>
   match opsD.toList with
   | [o1, o2] =>
    match o2.op, o2.guard, o2.dst with
    | .defer c2, none, none =>
     match c2.callee, c2.args.toList with
     | .value y, [] =>
      match chain P Γ cf opsA (St.start fn.ntmps args ob nm).basis opsA.size 0 ((St.start fn.ntmps args ob nm).pad (padK opsA)) with
      | some (x1, _) =>
       match stp P Γ cf #[o1, o2] x1.basis 0 (x1.pad (padK #[o1, o2])) with
       | some (x2, _) =>
        match x2.eval Γ y with
        | .fn (.func g) [] caps =>
         match P.funcs[g]?, ptrsB x2.ob.length caps && Nat.ble ob.length x2.ob.length && Nat.ble nm.length x2.nm.length with
         | some gn, true =>
          match gn.body.isSome, gn.name == "runtime.NumGoroutine" with
          | true, false =>
           match (evC P Γ cf n rest { x2 with kh := x2.ob.length, kt := x2.nm.length }).run with
           | some (.exit _, _) => none
           | some (_, σ4) => evGE P Γ cf n fn g caps x2.ob.length x2.nm.length none σ4.tm σ4.ob σ4.nm
           | none =>
            match evP P Γ cf pf (resSlots fn) n rest { x2 with kh := x2.ob.length, kt := x2.nm.length } with
            | some r => evGE P Γ cf n fn g caps x2.ob.length x2.nm.length (some r.T) r.tm r.ob (deadNm x2.nm.length)
            | none => none
          | _, _ => none
         | _, _ => none
        | _ => none
       | none => none
      | none => none
     | _, _ => none
    | _, _, _ => none
   | _ => none
  | _ => none
 | none => none
theorem evGE_sound (hcf : CallsOk P Γ cf) (hfit : CallsFit cf) {n : Nat} {fn : Func} {g : FuncId} {caps : List V} {k kt : Nat} {u : Option TypeId} {tm : List V} {ob ob5 : Ob} {nm nm5 : Nm} {res : V} (h : evGE P Γ cf n fn g caps k kt u tm ob nm = some (res, ob5, nm5)) :
 SemD P Γ g caps u ob nm ob5 nm5 ∧ resV P ⟨tm, ob5, nm5, k, kt⟩ fn.results.toList = some res := by
 unfold evGE at h
 split at h
 · rename_i o n' hd
   split at h
   · rename_i r hr
     cases h
     exact ⟨evD_sound hcf hfit hd, hr⟩
   · cases h
 · cases h
theorem evG_sound (hcf : CallsOk P Γ cf) (hfit : CallsFit cf) (hm : P.follows .mixedOrders = true) {pf : PanF} (hpf : PanOk P Γ pf) {n : Nat} {f : FuncId} {args : List V} {ob ob5 : Ob} {nm nm5 : Nm} {res : V} (h : evG P Γ cf pf n f args ob nm = some (res, ob5, nm5)) :
 SemF P Γ f args ob nm res ob5 nm5 := by
 unfold evG at h
 split at h
 · rename_i fn hf
   split at h
   · rename_i idA opsA idD opsD rest hb
     split at h
     · rename_i o1 o2 hops
       have hops : opsD = #[o1, o2] := by apply Array.ext'; simpa using hops
       subst hops
       split at h
       · rename_i c2 h2 hg2 hd2
         split at h
         · rename_i y hc2 ha2
           have ha2 : c2.args = #[] := by apply Array.ext'; simpa using ha2
           split at h
           · rename_i x1 es hA
             split at h
             · rename_i x2 ef h1
               split at h
               · rename_i g caps hy
                 split at h
                 · rename_i gn hgf hb3
                   simp only [Bool.and_eq_true] at hb3
                   obtain ⟨⟨q1, q2⟩, q3⟩ := hb3
                   split at h
                   · rename_i hgb hgn
                     have key := SemF.guarded hcf hfit (rest := rest) (res := res) (ob5 := ob5) (nm5 := nm5) hf hb hA h1 h2 hc2 ha2 hg2 hd2 hy q1 (Nat.le_of_ble_eq_true q2) (Nat.le_of_ble_eq_true q3) hgf hgb hgn
                     split at h
                     · cases h
                     · rename_i e σ4 hne he
                       obtain ⟨z1, z2⟩ := evGE_sound hcf hfit h
                       refine key (.inl ⟨e.to, σ4, ?_, evC_sound hcf hfit hm he, z1, z2⟩)
                       cases e with
                       | exit i => exact (hne i rfl).elim
                       | ret => exact .inl rfl
                       | normal => exact .inr rfl
                     · split at h
                       · rename_i r hr
                         obtain ⟨z1, z2⟩ := evGE_sound hcf hfit h
                         exact key (.inr ⟨r, (evP_sound hcf hfit hm hpf _ _ _ _ hr).1, z1, z2⟩)
                       · cases h
                   · cases h
                 · cases h
               · cases h
             · cases h
           · cases h
         · cases h
       · cases h
     · cases h
   · cases h
 · cases h
def orcG (P : Program) (Γ : Nat → Option V) (cf : CallF) (pf : PanF) (n : Nat) (fs : FuncId → Bool) (orc : Orc) : Orc := fun f args =>
 match fs f with
 | true =>
  match evG P Γ cf pf n f args [] [] with
  | some (v, ob, nm) => match v.cl (lendP ob nm) with | some v' => some (none, v') | none => none
  | none => none
 | false => orc f args
theorem orcG_ok (hcf : CallsOk P Γ cf) (hfit : CallsFit cf) (hm : P.follows .mixedOrders = true) {pf : PanF} (hpf : PanOk P Γ pf) {n : Nat} {fs : FuncId → Bool} {orc : Orc} (ho : OrcOk P Γ orc) (hfs : ∀ f, fs f = true → ∃ fn, P.funcs[f]? = some fn ∧ fn.body.isSome = true ∧ (fn.name == "runtime.NumGoroutine") = false) : OrcOk P Γ (orcG P Γ cf pf n fs orc) := by
 intro f args c v h hc
 unfold orcG at h
 split at h
 · rename_i hf
   split at h
   · rename_i v0 ob nm he
     split at h
     · rename_i v' hv
       cases h
       exact ⟨(evG_sound hcf hfit hm hpf he).drop hv, hfs f hf⟩
     · cases h
   · cases h
 · exact ho f args c v h hc
end
end Go.Proofs.YthjiodeaepigmaaDoor

/- Functions that ask whether a list is nil: an empty list is one or the other. -/
set_option linter.unusedVariables false
set_option linter.unusedSimpArgs false
namespace Go.Proofs.YthjiodeaepigmaaDoor
open Go
section
variable {P : Program} {Γ : Nat → Option V}
theorem VRel.nil_or {G : Gh} {t : Tag} {cv : Value} (h : VRel G (.lst t []) cv) : VRel G .nls cv ∨ VRel G .els cv := by
 cases h with
 | lst0 t p => cases p with | none => exact .inl .nls | some a => exact .inr (.els a 0)
 | lst1 p cap => exact .inr (.els p cap)
 | lst h1 h2 h3 h4 h5 h6 => exact .inr (.els _ _)
theorem SemF.byNil {f : FuncId} {v : V} {rest : List V} {ob ob1 : Ob} {nm nm1 : Nm} {res : V} (hv : ∀ (G : Gh) (cv : Value), VRel G v cv → VRel G .nls cv ∨ VRel G .els cv) (h1 : SemF P Γ f (.nls :: rest) ob nm res ob1 nm1) (h2 : SemF P Γ f (.els :: rest) ob nm res ob1 nm1) : SemF P Γ f (v :: rest) ob nm res ob1 nm1 := by
 intro G w cargs hw hr
 match cargs, hr with
 | [], hr => exact absurd hr.1 (by simp)
 | c :: cs, hr =>
  have h0 : VRel G v c := hr.2 0 _ _ rfl rfl
  have hrs : Rels G rest cs := ⟨by have := hr.1; simpa using this, fun j x y a b => hr.2 (j + 1) x y (by simpa using a) (by simpa using b)⟩
  rcases hv G c h0 with h | h
  · exact h1 G w _ hw (Rels.cons h hrs)
  · exact h2 G w _ hw (Rels.cons h hrs)
def omC (cl : FuncId → Bool) (cf : CallF) : CallF := fun f args ob nm =>
 match cl f, args with
 | true, [.lst _ []] => some (outC none (.lst .ro []) .pure)
 | _, _ => cf f args ob nm
theorem lst_ro_any {t : Tag} (G : Gh) (cv : Value) (h : VRel G (.lst t []) cv) : VRel G (.lst .ro []) cv := h.lst_ro
theorem omC_ok {cl : FuncId → Bool} {cf : CallF} (hcl : ∀ f, cl f = true → (∀ t, SemF P Γ f [.lst t []] [] [] (.lst .ro []) [] []) ∧ Named P f) (hcf : CallsOk P Γ cf) (hfit : CallsFit cf) : CallsOk P Γ (omC cl cf) ∧ CallsFit (omC cl cf) := by
 refine ⟨fun f args ob nm out h hc => ?_, ⟨fun f args ob nm out h => ?_, fun f args ob nm out h ob' nm' hs => ?_⟩⟩
 · unfold omC at h
   split at h
   · rename_i t hf
     cases h
     obtain ⟨h1, h2⟩ := hcl f hf
     exact ⟨(h1 t).frame (by simp [V.clnL, V.clL, V.cl]) ob nm, h2⟩
   · exact hcf _ _ _ _ _ h hc
 · unfold omC at h
   split at h
   · cases h; exact EffOk.none _ _ _ _
   · exact hfit.eff _ _ _ _ _ h
 · unfold omC at h ⊢
   split at h
   · exact h
   · exact hfit.frame _ _ _ _ _ h ob' nm' hs
end
end Go.Proofs.YthjiodeaepigmaaDoor

