/- States of the abstract values, their relation to the machine's state, and the judgements. -/
import Derived.Test.YtnjjkobijjdnbaaEv1
import Derived.RangeFuncNested
import Derived.RangeFuncRecord
import Derived.OrdersIn
import Derived.LoopNIn
set_option linter.unusedVariables false
namespace Go.Proofs.Ytnjjkobijjdnbaa
open Go

abbrev Ob := List (Option (List V))
/-- What a buffer holds: values of so many cells each; or plain data. -/
inductive BC where
  | cs (sz : Nat) (l : List V)
  | arr (ty : Ty) (l : List ty.den)
def BC.els : BC → List V
  | .cs _ l => l
  | .arr ty l => l.map ty.val
def BC.sz : BC → Nat
  | .cs sz _ => sz
  | .arr ty _ => ty.size
def BC.len : BC → Nat
  | .cs _ l => l.length
  | .arr _ l => l.length
theorem BC.els_len (c : BC) : c.els.length = c.len := by cases c <;> simp [BC.els, BC.len]
inductive Bf where
  | dead
  | live (c : BC)
/-- The buffers by name; 'none': a name that is not given yet. -/
abbrev Nm := List (Option Bf)
structure St where
  tm : List V
  ob : Ob
  nm : Nm
  kh : Nat   -- how many objects and buffers the function began with
  kt : Nat

/-- A buffer in the memory. -/
structure BufOk (G : Gh) (w : World) (x : Tail) (c : BC) : Prop where
  old : G.w0.own x.b
  row : ∃ (cvs : Array Value) (E : TypeId) (fr : Nat × Nat), w.heap[x.b]? = some (.cells cvs E fr) ∧ (fr = (0, 0) ∨ cvs.size ≤ fr.1) ∧ x.lo + x.cap * x.sz ≤ cvs.size ∧ Rels G (flat c.els) ((cvs.toList.drop x.lo).take (flat c.els).length)
  sz : x.sz = c.sz
  el : ∀ v ∈ c.els, v.cells.length = c.sz
  len : c.len = x.len
  cap : x.len ≤ x.cap
  free : ∀ off, x.lo ≤ off → off < x.lo + x.cap * x.sz → G.M x.b off = none
  obj : ∀ o, G.H o ≠ some x.b
/-- The memory. -/
structure WRel (Γ : Nat → Option V) (G : Gh) (ob : Ob) (nm : Nm) (w : World) : Prop where
  m : ∀ b off cv, G.M b off = some cv → w.cell? ⟨b, off, none⟩ = some cv
  hob : ∀ (o : Nat) (cs : List V) (b : Nat), ob[o]? = some (some cs) → G.H o = some b → G.w0.own b ∧ (∃ (cvs : Array Value) (E : TypeId) (fr : Nat × Nat), w.heap[b]? = some (.cells cvs E fr) ∧ (fr = (0, 0) ∨ cvs.size ≤ fr.1) ∧ cs.length ≤ cvs.size ∧ Rels G cs (cvs.toList.take cs.length)) ∧ ∀ off, G.M b off = none
  hlt : ∀ o b, G.H o = some b → o < ob.length ∧ b < w.heap.size
  habs : ∀ (o : Nat), ob[o]? = some none → G.H o = none
  inj : ∀ o o' b, G.H o = some b → G.H o' = some b → o = o'
  hnm : ∀ (n : Nat) (c : BC) (x : Tail), nm[n]? = some (some (.live c)) → G.T n = some x → BufOk G w x c
  hno : ∀ (n : Nat) (c : BC), nm[n]? = some (some (.live c)) → G.T n = none → c.len = 0
  nmd : ∀ (n n' : Nat) (c c' : BC) (x x' : Tail), n ≠ n' → nm[n]? = some (some (.live c)) → nm[n']? = some (some (.live c')) → G.T n = some x → G.T n' = some x' → x.b ≠ x'.b
  tabs : ∀ (n : Nat), nm[n]? = some none → G.T n = none
  tlt : ∀ n x, G.T n = some x → n < nm.length
  dd : ∀ l o, G.D l = some o → w.heap[l]? = some o ∧ o.isCells = false ∧ G.w0.own l
  kdle : G.kd ≤ w.heap.size
  gl : ∀ g v, Γ g = some v → VRel G.bare v (.pointer (some ⟨g, 0, none⟩))
  mold : ∀ b off, ¬ G.w0.own b → G.M b off = G.M0 b off
  os : w.os = G.w0.os
  tape : w.tape = G.w0.tape
  output : w.output = G.w0.output
  size : G.w0.heap.size ≤ w.heap.size
  block : ∀ k, ¬ G.w0.own k → w.heap[k]? = G.w0.heap[k]?

/-- The deferred calls that a function has: marks of ranges over functions whose rounds defer nothing. -/
structure Marks (G : Gh) (ds : List Deferred) : Prop where
  nd : ds.Nodup
  at_ : ∀ d ∈ ds, ∃ D, d = { target := .collected D, args := #[] } ∧ G.kd ≤ D ∧ G.D D = some (.deferred (some []))
theorem Marks.nil (G : Gh) : Marks G [] := ⟨.nil, fun _ h => by cases h⟩
theorem Marks.mono {G G' : Gh} (hd : ∀ l o, G.D l = some o → G'.D l = some o) (hk : G'.kd = G.kd) {ds : List Deferred} (h : Marks G ds) : Marks G' ds :=
  ⟨h.nd, fun d hd' => let ⟨D, e, h1, h2⟩ := h.at_ d hd'; ⟨D, e, hk ▸ h1, hd _ _ h2⟩⟩
structure Rel (Γ : Nat → Option V) (G : Gh) (σ : St) (a : Act) (w : World) : Prop where
  tm : Rels G σ.tm a.tmps.toList
  wr : WRel Γ G σ.ob σ.nm w
  df : Marks G a.defers
  kh : G.kh = σ.kh
  kt : G.kt = σ.kt

/-- Every function, whatever round the frame is of. -/
abbrev wideR (ro : Option Nat) : Fence := { Fence.wide with round := ro }
theorem callsR {ro : Option Nat} {n : Nat} {P : Program} {f : FuncId} {args : Array Value} {w : World} {R : Ending → World → Prop} : CallsIn (wideR ro) n P f args w R ↔ Calls P f args w R :=
  callsIn_wide (n := n)
theorem depthR {ro : Option Nat} {n : Nat} : (wideR ro).depth.isSome = true → 1 ≤ n := fun h => by cases h
/-- The round that the frame is of, if any, is of a loop that is known. -/
def RoOk (G : Gh) (ro : Option Nat) : Prop := ∀ l, ro = some l → ∃ r, G.D l = some (.loop r)
theorem RoOk.leW {G G' : Gh} {ro : Option Nat} (h : RoOk G ro) (k : G.leW G') : RoOk G' ro := fun l e => let ⟨r, hr⟩ := h l e; ⟨r, k.d _ _ hr⟩
theorem RoOk.none (G : Gh) : RoOk G none := fun _ h => by cases h
def SemC (P : Program) (Γ : Nat → Option V) (c : Code) (σ : St) (x : Exit) (σ' : St) : Prop :=
  ∀ (ro : Option Nat) G a w, Rel Γ G σ a w → RoOk G ro → c.wpIn (wideR ro) 0 P (fun e a' w' => e = x ∧ ∃ G', G.leW G' ∧ Rel Γ G' σ' a' w') a w

/-- A call of yield: its first argument is yield itself. -/
def YCalls (P : Program) (cargs : List Value) (w : World) (R : Ending → World → Prop) : Prop :=
  ∃ (l : Nat) (rest : List Value), cargs = .func (.yield l) #[] #[] :: rest ∧ ∃ fn tmps as bd, (Instr.yield l rest.toArray).run P w = .ok (.round l fn tmps as bd) w ∧ RoundIn Fence.wide 0 P l fn tmps as bd w R
/-- A call of a function; where there is no such function, of yield. -/
def CallsX (P : Program) (f : FuncId) (cargs : Array Value) (w : World) (R : Ending → World → Prop) : Prop :=
  match P.funcs[f]? with
  | none => YCalls P cargs.toList w R
  | some _ => Calls P f cargs w R
theorem CallsX.mono {P : Program} {f : FuncId} {cargs : Array Value} {w : World} {R R' : Ending → World → Prop} (h : CallsX P f cargs w R) (hr : ∀ e w', R e w' → R' e w') : CallsX P f cargs w R' := by
  unfold CallsX at *
  split at h
  · obtain ⟨l, rest, e, fn, tmps, as, bd, h1, h2⟩ := h
    exact ⟨l, rest, e, fn, tmps, as, bd, h1, h2.mono hr⟩
  · exact Calls.mono h hr
theorem callsX_fn {P : Program} {f : FuncId} {fn : Func} (hf : P.funcs[f]? = some fn) {cargs : Array Value} {w : World} {R : Ending → World → Prop} : CallsX P f cargs w R ↔ Calls P f cargs w R := by
  unfold CallsX; rw [hf]
theorem callsX_yield {P : Program} {f : FuncId} (hf : P.funcs[f]? = none) {cargs : Array Value} {w : World} {R : Ending → World → Prop} : CallsX P f cargs w R ↔ YCalls P cargs.toList w R := by
  unfold CallsX; rw [hf]
/-- The number under which calls of yield go. -/
def yid : FuncId := 4000000000
def SemF (P : Program) (Γ : Nat → Option V) (f : FuncId) (args : List V) (ob : Ob) (nm : Nm) (res : V) (ob' : Ob) (nm' : Nm) : Prop :=
  ∀ (G : Gh) (w : World) (cargs : List Value), WRel Γ G ob nm w → Rels G args cargs →
    CallsX P f cargs.toArray w fun e w' => ∃ cv G', e = .returned cv ∧ G.le G' ∧ VRel G' res cv ∧ WRel Γ G' ob' nm' w'

/-- Operations, one after the other, by their indices. -/
def SemR (P : Program) (Γ : Nat → Option V) (ops : Array Oper) (l : List Nat) (σ σ' : St) : Prop :=
  ∀ (ro : Option Nat) G a w, Rel Γ G σ a w → wpOpsIn (wideR ro) 0 P ops (fun e a' w' => e = .normal ∧ ∃ G', G.le G' ∧ Rel Γ G' σ' a' w') l a w

/-- One operation that is carried out: its value, and the memory behind it. -/
def SemV (P : Program) (Γ : Nat → Option V) (o : Oper) (σ : St) (v : V) (ob' : Ob) (nm' : Nm) : Prop :=
  ∀ (ro : Option Nat) G a w (K : Act → World → Prop) (Q : Exit → Act → World → Prop), Rel Γ G σ a w → (∀ G' cv w', G.le G' → VRel G' v cv → WRel Γ G' ob' nm' w' → K (a.put o.dst cv) w') → o.wpIn (wideR ro) 0 P a w K Q

section
variable {P : Program} {Γ : Nat → Option V} {σ σ1 σ2 : St} {x : Exit}

theorem SemC.skip : SemC P Γ .skip σ .normal σ := fun ro G a w h _ => wpIn_skip ⟨rfl, G, .refl G, h⟩
theorem SemC.ret : SemC P Γ .ret σ .ret σ := fun ro G a w h _ => wpIn_ret ⟨rfl, G, .refl G, h⟩
theorem SemC.exit {id : Nat} : SemC P Γ (.exit id) σ (.exit id) σ := fun ro G a w h _ => wpIn_exit ⟨rfl, G, .refl G, h⟩
theorem SemC.seq {c d : Code} (h : SemC P Γ c σ .normal σ1) (k : SemC P Γ d σ1 x σ2) : SemC P Γ (.seq c d) σ x σ2 := by
  intro ro G a w hr ho
  refine wpIn_seq (wpIn_mono (h ro G a w hr ho) ?_)
  rintro e a' w' ⟨rfl, G1, h1, r1⟩
  refine wpIn_mono (k ro G1 a' w' r1 (ho.leW h1)) ?_
  rintro e a'' w'' ⟨rfl, G2, h2, r2⟩
  exact ⟨rfl, G2, h1.trans h2, r2⟩
theorem SemC.seq_out {c d : Code} (hx : x ≠ .normal) (h : SemC P Γ c σ x σ1) : SemC P Γ (.seq c d) σ x σ1 := by
  intro ro G a w hr ho
  refine wpIn_seq (wpIn_mono (h ro G a w hr ho) ?_)
  rintro e a' w' ⟨rfl, G1, h1, r1⟩
  cases e <;> first | exact absurd rfl hx | exact ⟨rfl, G1, h1, r1⟩
theorem SemC.block {id : Nat} {c : Code} (hx : x ≠ .exit id) (h : SemC P Γ c σ x σ1) : SemC P Γ (.block id c) σ x σ1 := by
  intro ro G a w hr ho
  refine wpIn_block (wpIn_mono (h ro G a w hr ho) ?_)
  rintro e a' w' ⟨rfl, G1, h1, r1⟩
  cases e with
  | exit i =>
    have : i ≠ id := fun hh => hx (by rw [hh])
    simp only [Exit.inBlock, this, if_false]
    exact ⟨trivial, G1, h1, r1⟩
  | _ => exact ⟨rfl, G1, h1, r1⟩
theorem SemC.block_exit {id : Nat} {c : Code} (h : SemC P Γ c σ (.exit id) σ1) : SemC P Γ (.block id c) σ .normal σ1 := by
  intro ro G a w hr ho
  refine wpIn_block (wpIn_mono (h ro G a w hr ho) ?_)
  rintro e a' w' ⟨rfl, G1, h1, r1⟩
  simp only [Exit.inBlock, if_true]
  exact ⟨trivial, G1, h1, r1⟩
/-- The loop in at most n rounds. -/
def SemLn (P : Program) (Γ : Nat → Option V) (c : Code) (n : Nat) (σ : St) (x : Exit) (σ' : St) : Prop :=
  ∀ (ro : Option Nat) G a w, Rel Γ G σ a w → RoOk G ro → Code.roundsIn (wideR ro) 0 P c (fun e a' w' => e = x ∧ ∃ G', G.leW G' ∧ Rel Γ G' σ' a' w') n a w
def SemL (P : Program) (Γ : Nat → Option V) (c : Code) (σ : St) (x : Exit) (σ' : St) : Prop := ∃ n, SemLn P Γ c n σ x σ'
theorem rounds_mono {ro : Option Nat} {c : Code} {Q Q' : Exit → Act → World → Prop} (hq : ∀ e a w, Q e a w → Q' e a w) : ∀ (n : Nat) (a : Act) (w : World), Code.roundsIn (wideR ro) 0 P c Q n a w → Code.roundsIn (wideR ro) 0 P c Q' n a w
  | 0, _, _, h => h
  | n + 1, a, w, h => by
    rw [roundsIn_succ] at h ⊢
    refine wpIn_mono h ?_
    intro e a' w' h'
    cases e <;> first | exact rounds_mono hq n _ _ h' | exact hq _ _ _ h'
theorem SemL.next {c : Code} (h : SemC P Γ c σ .normal σ1) (k : SemL P Γ c σ1 x σ2) : SemL P Γ c σ x σ2 := by
  obtain ⟨n, k⟩ := k
  refine ⟨n + 1, fun ro G a w hr ho => ?_⟩
  rw [roundsIn_succ]
  refine wpIn_mono (h ro G a w hr ho) ?_
  rintro e a' w' ⟨rfl, G1, h1, r1⟩
  refine rounds_mono ?_ n _ _ (k ro G1 a' w' r1 (ho.leW h1))
  rintro e a'' w'' ⟨rfl, G2, h2, r2⟩
  exact ⟨rfl, G2, h1.trans h2, r2⟩
theorem SemL.out {c : Code} (hx : x ≠ .normal) (h : SemC P Γ c σ x σ1) : SemL P Γ c σ x σ1 := by
  refine ⟨1, fun ro G a w hr ho => ?_⟩
  rw [roundsIn_succ]
  refine wpIn_mono (h ro G a w hr ho) ?_
  rintro e a' w' ⟨rfl, G1, h1, r1⟩
  cases e <;> first | exact absurd rfl hx | exact ⟨rfl, G1, h1, r1⟩
theorem SemC.loop {c : Code} (h : SemL P Γ c σ x σ1) : SemC P Γ (.loop c) σ x σ1 := by
  obtain ⟨n, h⟩ := h
  exact fun ro G a w hr ho => wpIn_loop_rounds n (h ro G a w hr ho)

/-! ### Regions -/
theorem LetsOut_mono {Q Q' : Exit → Act → World → Prop} (hq : ∀ e a w, Q e a w → Q' e a w) (h : LetsOut Q) : LetsOut Q' := let ⟨a, w, h⟩ := h; ⟨a, w, hq _ _ _ h⟩
theorem CallsIn_mono {F : Fence} {n : Nat} {f : FuncId} {args : Array Value} {w : World} {R R' : Ending → World → Prop} (h : CallsIn F n P f args w R) (hr : ∀ e w', R e w' → R' e w') : CallsIn F n P f args w R' :=
  ⟨h.1, fun cs hroom => let ⟨e, w', fr, r, s⟩ := h.2 cs hroom; ⟨e, w', fr, hr _ _ r, s⟩⟩
theorem Oper_wp_mono2 {F : Fence} {o : Oper} {a : Act} {w : World} {K K' : Act → World → Prop} {Q Q' : Exit → Act → World → Prop} (h : ∀ a w, K a w → K' a w) (hq : ∀ e a w, Q e a w → Q' e a w)
    (hh : o.wpIn F 0 P a w K Q) : o.wpIn F 0 P a w K' Q' := by
  unfold Oper.wpIn at *
  refine ⟨hh.1, ?_⟩
  have hh := hh.2
  generalize (o.semAt F.round a.eval).run P w = r at *
  cases r with
  | ok n w' =>
    cases n <;> simp only [Oper.uponIn] at hh ⊢ <;>
      first
        | exact h _ _ hh
        | exact ⟨hh.1, CallsIn_mono hh.2 (fun e w'' he => by cases e <;> first | exact h _ _ he | exact hq _ _ _ he | exact LetsOut_mono hq he)⟩
        | exact ⟨hh.1, RoundIn.mono hh.2 (fun e w'' he => by cases e <;> first | exact h _ _ he | exact hq _ _ _ he | exact LetsOut_mono hq he)⟩
        | exact ⟨hh.1, RowsIn.mono hh.2 (fun _ _ he => h _ _ he)⟩
  | halt x w' => cases x <;> simp only [Oper.uponIn] at hh ⊢ <;> first | exact hq _ _ _ hh | exact hh
theorem wpOps_mono {F : Fence} {ops : Array Oper} {Q Q' : Exit → Act → World → Prop} (hq : ∀ e a w, Q e a w → Q' e a w) : ∀ (l : List Nat) (a : Act) (w : World), wpOpsIn F 0 P ops Q l a w → wpOpsIn F 0 P ops Q' l a w
  | [], _, _, h => hq _ _ _ h
  | i :: l, a, w, h => by
    simp only [wpOpsIn] at h ⊢
    split
    · rename_i ho; simp only [ho] at h; exact wpOps_mono hq l _ _ h
    · rename_i o ho
      simp only [ho] at h
      split
      · rename_i hw
        simp only [hw, if_true] at h
        exact Oper_wp_mono2 (fun a w => wpOps_mono hq l a w) hq h
      · rename_i hw
        simp only [hw] at h
        exact ⟨h.1, wpOps_mono hq l _ _ h.2⟩
theorem SemC.region {id : Nat} {ops : Array Oper} (h : SemR P Γ ops (List.range ops.size) σ σ1) : SemC P Γ (.region id ops false) σ .normal σ1 :=
  fun ro G a w hr _ => wpIn_region (wpOps_mono (fun e a' w' ⟨h1, G', h2, h3⟩ => ⟨h1, G', h2.weak, h3⟩) _ _ _ (h ro G a w hr))
theorem SemR.nil {ops : Array Oper} : SemR P Γ ops [] σ σ := fun ro G a w hr => ⟨rfl, G, .refl G, hr⟩

/-- The guard, looked at in the abstract state. -/
def wantedV (ops : Array Oper) (tm : List V) (o : Oper) : Option Bool :=
  match o.guard with
  | none => some true
  | some (j, want) =>
    match (ops[j]?).bind (·.dst) with
    | none => some false
    | some d =>
      match tm[d]? with
      | some (.b x) => some (x == want)
      | some (.sb x) => some (x == want)
      | some (.tup _) => some false
      | _ => none
theorem wanted_of {G : Gh} {ops : Array Oper} {tm : List V} {a : Act} {o : Oper} {t : Bool} (hr : Rels G tm a.tmps.toList) (h : wantedV ops tm o = some t) : Region.wanted o (yielded ops a.tmps) = t := by
  unfold wantedV at h
  unfold Region.wanted
  split at h
  · rename_i hg; simp [hg] at h ⊢; exact h
  · rename_i j want hg
    simp only [hg]
    unfold yielded
    split at h
    · rename_i hd; simp [hd] at h ⊢; exact h
    · rename_i d hd
      simp only [hd, Option.bind_some]
      split at h
      · rename_i x hx
        obtain ⟨cv, hc, hv⟩ := hr.of_get hx
        cases hv
        have : a.tmps[d]? = some (.bool x) := by simpa using hc
        simp only [this]
        simp at h
        subst h
        cases x <;> cases want <;> rfl
      · rename_i x hx
        obtain ⟨cv, hc, hv⟩ := hr.of_get hx
        cases hv
        have : a.tmps[d]? = some (.bool x) := by simpa using hc
        simp only [this]
        simp at h
        subst h
        cases x <;> cases want <;> rfl
      · rename_i xs hx
        obtain ⟨cv, hc, hv⟩ := hr.of_get hx
        cases hv
        rename_i c _ _
        have : a.tmps[d]? = some (.tuple c) := by simpa using hc
        simp only [this]
        simp at h
        subst h
        rfl
      · cases h
/-- Leaving a value in a temporary. -/
def St.put (σ : St) (d : Option Nat) (v : V) : St :=
  match d with
  | some t => { σ with tm := σ.tm.set t v }
  | none => σ
theorem Rel.put {G : Gh} {a : Act} {w : World} (h : Rel Γ G σ a w) (d : Option Nat) {v : V} {cv : Value} (hv : VRel G v cv) : Rel Γ G (σ.put d v) (a.put d cv) w := by
  cases d with
  | none => exact h
  | some t => exact ⟨by simpa [St.put, Act.put] using h.tm.set hv t, h.wr, h.df, h.kh, h.kt⟩
theorem VRel.undef (G : Gh) : VRel G (.tup []) Go.undef := .tup (by simp) (fun j v cv h => by simp at h)
theorem SemR.skip {ops : Array Oper} {i : Nat} {l : List Nat} {o : Oper} (ho : ops[i]? = some o) (hw : wantedV ops σ.tm o = some false) (k : SemR P Γ ops l (σ.put o.dst (.tup [])) σ1) : SemR P Γ ops (i :: l) σ σ1 := by
  intro ro G a w hr
  simp only [wpOpsIn, ho, wanted_of hr.tm hw]
  exact ⟨fun _ _ => trivial, k ro G _ w (hr.put o.dst (VRel.undef G))⟩
theorem SemR.cons {ops : Array Oper} {i : Nat} {l : List Nat} {o : Oper} (ho : ops[i]? = some o) (hw : wantedV ops σ.tm o = some true) {v : V} {ob' : Ob} {nm' : Nm} (h : SemV P Γ o σ v ob' nm')
    (k : SemR P Γ ops l ({ σ with ob := ob', nm := nm' }.put o.dst v) σ2) : SemR P Γ ops (i :: l) σ σ2 := by
  intro ro G a w hr
  simp only [wpOpsIn, ho, wanted_of hr.tm hw, if_true]
  refine h ro G a w _ _ hr ?_
  intro G1 cv w1 h1 hv hw
  have r0 : Rel Γ G1 { σ with ob := ob', nm := nm' } a w1 := ⟨hr.tm.mono h1, hw, hr.df.mono h1.d h1.kd, h1.kh.trans hr.kh, h1.kt.trans hr.kt⟩
  have := k ro G1 _ w1 (r0.put o.dst hv)
  refine wpOps_mono ?_ _ _ _ this
  rintro e a' w' ⟨rfl, G2, h2, r2⟩
  exact ⟨rfl, G2, h1.trans h2, r2⟩
end
end Go.Proofs.Ytnjjkobijjdnbaa
