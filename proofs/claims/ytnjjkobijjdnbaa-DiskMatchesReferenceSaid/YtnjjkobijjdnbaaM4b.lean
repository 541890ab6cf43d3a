/- Parts of the library of texts, one after the other: Ev2, Ev3, Ev4, Ev5, Ev6, Ev7, Ev8, Ev9, Ev9a, Ev10, Ev11, Ev11a. -/
import Derived.Test.YtnjjkobijjdnbaaM4a
import Derived.RangeFuncNested
import Derived.RangeFuncRecord
import Derived.OrdersIn
import Derived.LoopNIn
/- States of the abstract values, their relation to the machine's state, and the judgements. -/
set_option linter.unusedVariables false
namespace Go.Proofs.Ytnjjkobijjdnbaa
open Go

abbrev Ob := List (Option (List V))
/-- What a buffer holds: values of so many cells each; or plain data. -/
inductive BC where
  | cs (sz : Nat) (l : List V)
  | arr (ty : Ty) (l : List ty.den)
def BC.els : BC → List V
  | .cs _ l => l
  | .arr ty l => l.map ty.val
def BC.sz : BC → Nat
  | .cs sz _ => sz
  | .arr ty _ => ty.size
def BC.len : BC → Nat
  | .cs _ l => l.length
  | .arr _ l => l.length
theorem BC.els_len (c : BC) : c.els.length = c.len := by cases c <;> simp [BC.els, BC.len]
inductive Bf where
  | dead
  | live (c : BC)
/-- The buffers by name; 'none': a name that is not given yet. -/
abbrev Nm := List (Option Bf)
structure St where
  tm : List V
  ob : Ob
  nm : Nm
  kh : Nat   -- how many objects and buffers the function began with
  kt : Nat

/-- A buffer in the memory. -/
structure BufOk (G : Gh) (w : World) (x : Tail) (c : BC) : Prop where
  old : G.w0.own x.b
  row : ∃ (cvs : Array Value) (E : TypeId) (fr : Nat × Nat), w.heap[x.b]? = some (.cells cvs E fr) ∧ (fr = (0, 0) ∨ cvs.size ≤ fr.1) ∧ x.lo + x.cap * x.sz ≤ cvs.size ∧ Rels G (flat c.els) ((cvs.toList.drop x.lo).take (flat c.els).length)
  sz : x.sz = c.sz
  el : ∀ v ∈ c.els, v.cells.length = c.sz
  len : c.len = x.len
  cap : x.len ≤ x.cap
  free : ∀ off, x.lo ≤ off → off < x.lo + x.cap * x.sz → G.M x.b off = none
  obj : ∀ o, G.H o ≠ some x.b
/-- The memory. -/
structure WRel (Γ : Nat → Option V) (G : Gh) (ob : Ob) (nm : Nm) (w : World) : Prop where
  m : ∀ b off cv, G.M b off = some cv → w.cell? ⟨b, off, none⟩ = some cv
  hob : ∀ (o : Nat) (cs : List V) (b : Nat), ob[o]? = some (some cs) → G.H o = some b → G.w0.own b ∧ (∃ (cvs : Array Value) (E : TypeId) (fr : Nat × Nat), w.heap[b]? = some (.cells cvs E fr) ∧ (fr = (0, 0) ∨ cvs.size ≤ fr.1) ∧ cs.length ≤ cvs.size ∧ Rels G cs (cvs.toList.take cs.length)) ∧ ∀ off, G.M b off = none
  hlt : ∀ o b, G.H o = some b → o < ob.length ∧ b < w.heap.size
  habs : ∀ (o : Nat), ob[o]? = some none → G.H o = none
  inj : ∀ o o' b, G.H o = some b → G.H o' = some b → o = o'
  hnm : ∀ (n : Nat) (c : BC) (x : Tail), nm[n]? = some (some (.live c)) → G.T n = some x → BufOk G w x c
  hno : ∀ (n : Nat) (c : BC), nm[n]? = some (some (.live c)) → G.T n = none → c.len = 0
  nmd : ∀ (n n' : Nat) (c c' : BC) (x x' : Tail), n ≠ n' → nm[n]? = some (some (.live c)) → nm[n']? = some (some (.live c')) → G.T n = some x → G.T n' = some x' → x.b ≠ x'.b
  tabs : ∀ (n : Nat), nm[n]? = some none → G.T n = none
  tlt : ∀ n x, G.T n = some x → n < nm.length
  dd : ∀ l o, G.D l = some o → w.heap[l]? = some o ∧ o.isCells = false ∧ G.w0.own l
  kdle : G.kd ≤ w.heap.size
  gl : ∀ g v, Γ g = some v → VRel G.bare v (.pointer (some ⟨g, 0, none⟩))
  mold : ∀ b off, ¬ G.w0.own b → G.M b off = G.M0 b off
  os : w.os = G.w0.os
  tape : w.tape = G.w0.tape
  output : w.output = G.w0.output
  size : G.w0.heap.size ≤ w.heap.size
  block : ∀ k, ¬ G.w0.own k → w.heap[k]? = G.w0.heap[k]?

/-- The deferred calls that a function has: marks of ranges over functions whose rounds defer nothing. -/
structure Marks (G : Gh) (ds : List Deferred) : Prop where
  nd : ds.Nodup
  at_ : ∀ d ∈ ds, ∃ D, d = { target := .collected D, args := #[] } ∧ G.kd ≤ D ∧ G.D D = some (.deferred (some []))
theorem Marks.nil (G : Gh) : Marks G [] := ⟨.nil, fun _ h => by cases h⟩
theorem Marks.mono {G G' : Gh} (hd : ∀ l o, G.D l = some o → G'.D l = some o) (hk : G'.kd = G.kd) {ds : List Deferred} (h : Marks G ds) : Marks G' ds :=
  ⟨h.nd, fun d hd' => let ⟨D, e, h1, h2⟩ := h.at_ d hd'; ⟨D, e, hk ▸ h1, hd _ _ h2⟩⟩
structure Rel (Γ : Nat → Option V) (G : Gh) (σ : St) (a : Act) (w : World) : Prop where
  tm : Rels G σ.tm a.tmps.toList
  wr : WRel Γ G σ.ob σ.nm w
  df : Marks G a.defers
  kh : G.kh = σ.kh
  kt : G.kt = σ.kt

/-- Every function, whatever round the frame is of. -/
abbrev wideR (ro : Option Nat) : Fence := { Fence.wide with round := ro }
theorem callsR {ro : Option Nat} {n : Nat} {P : Program} {f : FuncId} {args : Array Value} {w : World} {R : Ending → World → Prop} : CallsIn (wideR ro) n P f args w R ↔ Calls P f args w R :=
  callsIn_wide (n := n)
theorem depthR {ro : Option Nat} {n : Nat} : (wideR ro).depth.isSome = true → 1 ≤ n := fun h => by cases h
/-- The round that the frame is of, if any, is of a loop that is known. -/
def RoOk (G : Gh) (ro : Option Nat) : Prop := ∀ l, ro = some l → ∃ r, G.D l = some (.loop r)
theorem RoOk.leW {G G' : Gh} {ro : Option Nat} (h : RoOk G ro) (k : G.leW G') : RoOk G' ro := fun l e => let ⟨r, hr⟩ := h l e; ⟨r, k.d _ _ hr⟩
theorem RoOk.none (G : Gh) : RoOk G none := fun _ h => by cases h
def SemC (P : Program) (Γ : Nat → Option V) (c : Code) (σ : St) (x : Exit) (σ' : St) : Prop :=
  ∀ (ro : Option Nat) G a w, Rel Γ G σ a w → RoOk G ro → c.wpIn (wideR ro) 0 P (fun e a' w' => e = x ∧ ∃ G', G.leW G' ∧ Rel Γ G' σ' a' w') a w

/-- A call of yield: its first argument is yield itself. -/
def YCalls (P : Program) (cargs : List Value) (w : World) (R : Ending → World → Prop) : Prop :=
  ∃ (l : Nat) (rest : List Value), cargs = .func (.yield l) #[] #[] :: rest ∧ ∃ fn tmps as bd, (Instr.yield l rest.toArray).run P w = .ok (.round l fn tmps as bd) w ∧ RoundIn Fence.wide 0 P l fn tmps as bd w R
/-- A call of a function; where there is no such function, of yield. -/
def CallsX (P : Program) (f : FuncId) (cargs : Array Value) (w : World) (R : Ending → World → Prop) : Prop :=
  match P.funcs[f]? with
  | none => YCalls P cargs.toList w R
  | some _ => Calls P f cargs w R
theorem CallsX.mono {P : Program} {f : FuncId} {cargs : Array Value} {w : World} {R R' : Ending → World → Prop} (h : CallsX P f cargs w R) (hr : ∀ e w', R e w' → R' e w') : CallsX P f cargs w R' := by
  unfold CallsX at *
  split at h
  · obtain ⟨l, rest, e, fn, tmps, as, bd, h1, h2⟩ := h
    exact ⟨l, rest, e, fn, tmps, as, bd, h1, h2.mono hr⟩
  · exact Calls.mono h hr
theorem callsX_fn {P : Program} {f : FuncId} {fn : Func} (hf : P.funcs[f]? = some fn) {cargs : Array Value} {w : World} {R : Ending → World → Prop} : CallsX P f cargs w R ↔ Calls P f cargs w R := by
  unfold CallsX; rw [hf]
theorem callsX_yield {P : Program} {f : FuncId} (hf : P.funcs[f]? = none) {cargs : Array Value} {w : World} {R : Ending → World → Prop} : CallsX P f cargs w R ↔ YCalls P cargs.toList w R := by
  unfold CallsX; rw [hf]
/-- The number under which calls of yield go. -/
def yid : FuncId := 4000000000
def SemF (P : Program) (Γ : Nat → Option V) (f : FuncId) (args : List V) (ob : Ob) (nm : Nm) (res : V) (ob' : Ob) (nm' : Nm) : Prop :=
  ∀ (G : Gh) (w : World) (cargs : List Value), WRel Γ G ob nm w → Rels G args cargs →
    CallsX P f cargs.toArray w fun e w' => ∃ cv G', e = .returned cv ∧ G.le G' ∧ VRel G' res cv ∧ WRel Γ G' ob' nm' w'

/-- Operations, one after the other, by their indices. -/
def SemR (P : Program) (Γ : Nat → Option V) (ops : Array Oper) (l : List Nat) (σ σ' : St) : Prop :=
  ∀ (ro : Option Nat) G a w, Rel Γ G σ a w → wpOpsIn (wideR ro) 0 P ops (fun e a' w' => e = .normal ∧ ∃ G', G.le G' ∧ Rel Γ G' σ' a' w') l a w

/-- One operation that is carried out: its value, and the memory behind it. -/
def SemV (P : Program) (Γ : Nat → Option V) (o : Oper) (σ : St) (v : V) (ob' : Ob) (nm' : Nm) : Prop :=
  ∀ (ro : Option Nat) G a w (K : Act → World → Prop) (Q : Exit → Act → World → Prop), Rel Γ G σ a w → (∀ G' cv w', G.le G' → VRel G' v cv → WRel Γ G' ob' nm' w' → K (a.put o.dst cv) w') → o.wpIn (wideR ro) 0 P a w K Q

section
variable {P : Program} {Γ : Nat → Option V} {σ σ1 σ2 : St} {x : Exit}

theorem SemC.skip : SemC P Γ .skip σ .normal σ := fun ro G a w h _ => wpIn_skip ⟨rfl, G, .refl G, h⟩
theorem SemC.ret : SemC P Γ .ret σ .ret σ := fun ro G a w h _ => wpIn_ret ⟨rfl, G, .refl G, h⟩
theorem SemC.exit {id : Nat} : SemC P Γ (.exit id) σ (.exit id) σ := fun ro G a w h _ => wpIn_exit ⟨rfl, G, .refl G, h⟩
theorem SemC.seq {c d : Code} (h : SemC P Γ c σ .normal σ1) (k : SemC P Γ d σ1 x σ2) : SemC P Γ (.seq c d) σ x σ2 := by
  intro ro G a w hr ho
  refine wpIn_seq (wpIn_mono (h ro G a w hr ho) ?_)
  rintro e a' w' ⟨rfl, G1, h1, r1⟩
  refine wpIn_mono (k ro G1 a' w' r1 (ho.leW h1)) ?_
  rintro e a'' w'' ⟨rfl, G2, h2, r2⟩
  exact ⟨rfl, G2, h1.trans h2, r2⟩
theorem SemC.seq_out {c d : Code} (hx : x ≠ .normal) (h : SemC P Γ c σ x σ1) : SemC P Γ (.seq c d) σ x σ1 := by
  intro ro G a w hr ho
  refine wpIn_seq (wpIn_mono (h ro G a w hr ho) ?_)
  rintro e a' w' ⟨rfl, G1, h1, r1⟩
  cases e <;> first | exact absurd rfl hx | exact ⟨rfl, G1, h1, r1⟩
theorem SemC.block {id : Nat} {c : Code} (hx : x ≠ .exit id) (h : SemC P Γ c σ x σ1) : SemC P Γ (.block id c) σ x σ1 := by
  intro ro G a w hr ho
  refine wpIn_block (wpIn_mono (h ro G a w hr ho) ?_)
  rintro e a' w' ⟨rfl, G1, h1, r1⟩
  cases e with
  | exit i =>
    have : i ≠ id := fun hh => hx (by rw [hh])
    simp only [Exit.inBlock, this, if_false]
    exact ⟨trivial, G1, h1, r1⟩
  | _ => exact ⟨rfl, G1, h1, r1⟩
theorem SemC.block_exit {id : Nat} {c : Code} (h : SemC P Γ c σ (.exit id) σ1) : SemC P Γ (.block id c) σ .normal σ1 := by
  intro ro G a w hr ho
  refine wpIn_block (wpIn_mono (h ro G a w hr ho) ?_)
  rintro e a' w' ⟨rfl, G1, h1, r1⟩
  simp only [Exit.inBlock, if_true]
  exact ⟨trivial, G1, h1, r1⟩
/-- The loop in at most n rounds. -/
def SemLn (P : Program) (Γ : Nat → Option V) (c : Code) (n : Nat) (σ : St) (x : Exit) (σ' : St) : Prop :=
  ∀ (ro : Option Nat) G a w, Rel Γ G σ a w → RoOk G ro → Code.roundsIn (wideR ro) 0 P c (fun e a' w' => e = x ∧ ∃ G', G.leW G' ∧ Rel Γ G' σ' a' w') n a w
def SemL (P : Program) (Γ : Nat → Option V) (c : Code) (σ : St) (x : Exit) (σ' : St) : Prop := ∃ n, SemLn P Γ c n σ x σ'
theorem rounds_mono {ro : Option Nat} {c : Code} {Q Q' : Exit → Act → World → Prop} (hq : ∀ e a w, Q e a w → Q' e a w) : ∀ (n : Nat) (a : Act) (w : World), Code.roundsIn (wideR ro) 0 P c Q n a w → Code.roundsIn (wideR ro) 0 P c Q' n a w
  | 0, _, _, h => h
  | n + 1, a, w, h => by
    rw [roundsIn_succ] at h ⊢
    refine wpIn_mono h ?_
    intro e a' w' h'
    cases e <;> first | exact rounds_mono hq n _ _ h' | exact hq _ _ _ h'
theorem SemL.next {c : Code} (h : SemC P Γ c σ .normal σ1) (k : SemL P Γ c σ1 x σ2) : SemL P Γ c σ x σ2 := by
  obtain ⟨n, k⟩ := k
  refine ⟨n + 1, fun ro G a w hr ho => ?_⟩
  rw [roundsIn_succ]
  refine wpIn_mono (h ro G a w hr ho) ?_
  rintro e a' w' ⟨rfl, G1, h1, r1⟩
  refine rounds_mono ?_ n _ _ (k ro G1 a' w' r1 (ho.leW h1))
  rintro e a'' w'' ⟨rfl, G2, h2, r2⟩
  exact ⟨rfl, G2, h1.trans h2, r2⟩
theorem SemL.out {c : Code} (hx : x ≠ .normal) (h : SemC P Γ c σ x σ1) : SemL P Γ c σ x σ1 := by
  refine ⟨1, fun ro G a w hr ho => ?_⟩
  rw [roundsIn_succ]
  refine wpIn_mono (h ro G a w hr ho) ?_
  rintro e a' w' ⟨rfl, G1, h1, r1⟩
  cases e <;> first | exact absurd rfl hx | exact ⟨rfl, G1, h1, r1⟩
theorem SemC.loop {c : Code} (h : SemL P Γ c σ x σ1) : SemC P Γ (.loop c) σ x σ1 := by
  obtain ⟨n, h⟩ := h
  exact fun ro G a w hr ho => wpIn_loop_rounds n (h ro G a w hr ho)

/-! ### Regions -/
theorem LetsOut_mono {Q Q' : Exit → Act → World → Prop} (hq : ∀ e a w, Q e a w → Q' e a w) (h : LetsOut Q) : LetsOut Q' := let ⟨a, w, h⟩ := h; ⟨a, w, hq _ _ _ h⟩
theorem CallsIn_mono {F : Fence} {n : Nat} {f : FuncId} {args : Array Value} {w : World} {R R' : Ending → World → Prop} (h : CallsIn F n P f args w R) (hr : ∀ e w', R e w' → R' e w') : CallsIn F n P f args w R' :=
  ⟨h.1, fun cs hroom => let ⟨e, w', fr, r, s⟩ := h.2 cs hroom; ⟨e, w', fr, hr _ _ r, s⟩⟩
theorem Oper_wp_mono2 {F : Fence} {o : Oper} {a : Act} {w : World} {K K' : Act → World → Prop} {Q Q' : Exit → Act → World → Prop} (h : ∀ a w, K a w → K' a w) (hq : ∀ e a w, Q e a w → Q' e a w)
    (hh : o.wpIn F 0 P a w K Q) : o.wpIn F 0 P a w K' Q' := by
  unfold Oper.wpIn at *
  refine ⟨hh.1, ?_⟩
  have hh := hh.2
  generalize (o.semAt F.round a.eval).run P w = r at *
  cases r with
  | ok n w' =>
    cases n <;> simp only [Oper.uponIn] at hh ⊢ <;>
      first
        | exact h _ _ hh
        | exact ⟨hh.1, CallsIn_mono hh.2 (fun e w'' he => by cases e <;> first | exact h _ _ he | exact hq _ _ _ he | exact LetsOut_mono hq he)⟩
        | exact ⟨hh.1, RoundIn.mono hh.2 (fun e w'' he => by cases e <;> first | exact h _ _ he | exact hq _ _ _ he | exact LetsOut_mono hq he)⟩
        | exact ⟨hh.1, RowsIn.mono hh.2 (fun _ _ he => h _ _ he)⟩
  | halt x w' => cases x <;> simp only [Oper.uponIn] at hh ⊢ <;> first | exact hq _ _ _ hh | exact hh
theorem wpOps_mono {F : Fence} {ops : Array Oper} {Q Q' : Exit → Act → World → Prop} (hq : ∀ e a w, Q e a w → Q' e a w) : ∀ (l : List Nat) (a : Act) (w : World), wpOpsIn F 0 P ops Q l a w → wpOpsIn F 0 P ops Q' l a w
  | [], _, _, h => hq _ _ _ h
  | i :: l, a, w, h => by
    simp only [wpOpsIn] at h ⊢
    split
    · rename_i ho; simp only [ho] at h; exact wpOps_mono hq l _ _ h
    · rename_i o ho
      simp only [ho] at h
      split
      · rename_i hw
        simp only [hw, if_true] at h
        exact Oper_wp_mono2 (fun a w => wpOps_mono hq l a w) hq h
      · rename_i hw
        simp only [hw] at h
        exact ⟨h.1, wpOps_mono hq l _ _ h.2⟩
theorem SemC.region {id : Nat} {ops : Array Oper} (h : SemR P Γ ops (List.range ops.size) σ σ1) : SemC P Γ (.region id ops false) σ .normal σ1 :=
  fun ro G a w hr _ => wpIn_region (wpOps_mono (fun e a' w' ⟨h1, G', h2, h3⟩ => ⟨h1, G', h2.weak, h3⟩) _ _ _ (h ro G a w hr))
theorem SemR.nil {ops : Array Oper} : SemR P Γ ops [] σ σ := fun ro G a w hr => ⟨rfl, G, .refl G, hr⟩

/-- The guard, looked at in the abstract state. -/
def wantedV (ops : Array Oper) (tm : List V) (o : Oper) : Option Bool :=
  match o.guard with
  | none => some true
  | some (j, want) =>
    match (ops[j]?).bind (·.dst) with
    | none => some false
    | some d =>
      match tm[d]? with
      | some (.b x) => some (x == want)
      | some (.sb x) => some (x == want)
      | some (.tup _) => some false
      | _ => none
theorem wanted_of {G : Gh} {ops : Array Oper} {tm : List V} {a : Act} {o : Oper} {t : Bool} (hr : Rels G tm a.tmps.toList) (h : wantedV ops tm o = some t) : Region.wanted o (yielded ops a.tmps) = t := by
  unfold wantedV at h
  unfold Region.wanted
  split at h
  · rename_i hg; simp [hg] at h ⊢; exact h
  · rename_i j want hg
    simp only [hg]
    unfold yielded
    split at h
    · rename_i hd; simp [hd] at h ⊢; exact h
    · rename_i d hd
      simp only [hd, Option.bind_some]
      split at h
      · rename_i x hx
        obtain ⟨cv, hc, hv⟩ := hr.of_get hx
        cases hv
        have : a.tmps[d]? = some (.bool x) := by simpa using hc
        simp only [this]
        simp at h
        subst h
        cases x <;> cases want <;> rfl
      · rename_i x hx
        obtain ⟨cv, hc, hv⟩ := hr.of_get hx
        cases hv
        have : a.tmps[d]? = some (.bool x) := by simpa using hc
        simp only [this]
        simp at h
        subst h
        cases x <;> cases want <;> rfl
      · rename_i xs hx
        obtain ⟨cv, hc, hv⟩ := hr.of_get hx
        cases hv
        rename_i c _ _
        have : a.tmps[d]? = some (.tuple c) := by simpa using hc
        simp only [this]
        simp at h
        subst h
        rfl
      · cases h
/-- Leaving a value in a temporary. -/
def St.put (σ : St) (d : Option Nat) (v : V) : St :=
  match d with
  | some t => { σ with tm := σ.tm.set t v }
  | none => σ
theorem Rel.put {G : Gh} {a : Act} {w : World} (h : Rel Γ G σ a w) (d : Option Nat) {v : V} {cv : Value} (hv : VRel G v cv) : Rel Γ G (σ.put d v) (a.put d cv) w := by
  cases d with
  | none => exact h
  | some t => exact ⟨by simpa [St.put, Act.put] using h.tm.set hv t, h.wr, h.df, h.kh, h.kt⟩
theorem VRel.undef (G : Gh) : VRel G (.tup []) Go.undef := .tup (by simp) (fun j v cv h => by simp at h)
theorem SemR.skip {ops : Array Oper} {i : Nat} {l : List Nat} {o : Oper} (ho : ops[i]? = some o) (hw : wantedV ops σ.tm o = some false) (k : SemR P Γ ops l (σ.put o.dst (.tup [])) σ1) : SemR P Γ ops (i :: l) σ σ1 := by
  intro ro G a w hr
  simp only [wpOpsIn, ho, wanted_of hr.tm hw]
  exact ⟨fun _ _ => trivial, k ro G _ w (hr.put o.dst (VRel.undef G))⟩
theorem SemR.cons {ops : Array Oper} {i : Nat} {l : List Nat} {o : Oper} (ho : ops[i]? = some o) (hw : wantedV ops σ.tm o = some true) {v : V} {ob' : Ob} {nm' : Nm} (h : SemV P Γ o σ v ob' nm')
    (k : SemR P Γ ops l ({ σ with ob := ob', nm := nm' }.put o.dst v) σ2) : SemR P Γ ops (i :: l) σ σ2 := by
  intro ro G a w hr
  simp only [wpOpsIn, ho, wanted_of hr.tm hw, if_true]
  refine h ro G a w _ _ hr ?_
  intro G1 cv w1 h1 hv hw
  have r0 : Rel Γ G1 { σ with ob := ob', nm := nm' } a w1 := ⟨hr.tm.mono h1, hw, hr.df.mono h1.d h1.kd, h1.kh.trans hr.kh, h1.kt.trans hr.kt⟩
  have := k ro G1 _ w1 (r0.put o.dst hv)
  refine wpOps_mono ?_ _ _ _ this
  rintro e a' w' ⟨rfl, G2, h2, r2⟩
  exact ⟨rfl, G2, h1.trans h2, r2⟩
end
end Go.Proofs.Ytnjjkobijjdnbaa

/- Operations, one by one. -/
set_option linter.unusedVariables false
namespace Go.Proofs.Ytnjjkobijjdnbaa
open Go

def ofCell : Value → V
  | .bool x => .b x
  | .int k n => .i k n
  | .string s => .s s
  | .pointer p => match p with | none => .nil | some _ => .any
  | .slice p l c => match p, l, c with | none, 0, 0 => .lst .full [] | _, _, _ => .any
  | .func f x c => if x.size = 0 ∧ c.size = 0 then .fn f [] [] else .any
  | .nilFunc => .nilfn
  | .nilIface => .nilifc
  | .float _ _ => .any
  | .complex _ _ _ => .any
  | .map _ => .any
  | .chan _ => .any
  | .iface _ _ => .any
  | .agg _ => .any
  | .tuple vs => if vs.size = 0 then .tup [] else .any
def ofVal : Value → V
  | .agg cs => .agg (cs.toList.map ofCell)
  | v => ofCell v
theorem ofCell_rel (G : Gh) (v : Value) : VRel G (ofCell v) v := by
  cases v with
  | bool x => exact .b _
  | int k n => exact .i _ _
  | string s => exact .s _
  | pointer p => cases p with | none => exact .nil | some _ => exact .any _
  | slice p l c => simp only [ofCell]; split <;> first | exact .lst0 _ | exact .any _
  | func f x c =>
    simp only [ofCell]
    split
    · rename_i h
      exact .fn (by simpa using h.1) (by simpa using h.2) (fun j v cv h => by simp at h) (fun j v cv h => by simp at h)
    · exact .any _
  | nilFunc => exact .nilfn
  | nilIface => exact .nilifc
  | tuple vs =>
    simp only [ofCell]
    split
    · rename_i h; exact .tup (by simpa using h) (fun j v cv h => by simp at h)
    · exact .any _
  | _ => exact .any _
theorem ofVal_rel (G : Gh) (v : Value) : VRel G (ofVal v) v := by
  cases v with
  | agg cs =>
    refine .agg (by simp) (fun j v cv h k => ?_)
    simp only [List.getElem?_map, Array.getElem?_toList, k, Option.map_some, Option.some.injEq] at h
    subst h
    exact ofCell_rel G cv
  | _ => simp only [ofVal]; exact ofCell_rel G _

def St.eval (Γ : Nat → Option V) (σ : St) : Operand → V
  | .tmp t => (σ.tm[t]?).getD (.tup [])
  | .const v => ofVal v
  | .global g => (Γ g).getD .any
  | .func f => .fn (.func f) [] []

theorem VRel.bool_eq {G : Gh} {t : Bool} {cv : Value} (h : VRel G (.b t) cv) : cv = .bool t := by cases h; rfl
theorem VRel.int_eq {G : Gh} {k : IntKind} {n : Int} {cv : Value} (h : VRel G (.i k n) cv) : cv = .int k n := by cases h; rfl
theorem VRel.str_eq {G : Gh} {s : ByteArray} {cv : Value} (h : VRel G (.s s) cv) : cv = .string s := by cases h; rfl

/-! ### Views -/
def V.bool? : V → Option (Bool × Bool)
  | .b x => some (x, false)
  | .sb x => some (x, true)
  | _ => none
def V.int? : V → Option (IntKind × Int × Bool)
  | .i k n => some (k, n, false)
  | .si k n => some (k, n, true)
  | _ => none
def V.str? : V → Option (ByteArray × Bool)
  | .s x => some (x, false)
  | .ss x => some (x, true)
  | _ => none
def mkB (s x : Bool) : V := match s with | true => .sb x | false => .b x
def mkI (s : Bool) (k : IntKind) (n : Int) : V := match s with | true => .si k n | false => .i k n
def mkS (s : Bool) (x : ByteArray) : V := match s with | true => .ss x | false => .s x
theorem mkB_rel (G : Gh) (s x : Bool) : VRel G (mkB s x) (.bool x) := by cases s <;> constructor
theorem mkI_rel (G : Gh) (s : Bool) (k : IntKind) (n : Int) : VRel G (mkI s k n) (.int k n) := by cases s <;> constructor
theorem mkS_rel (G : Gh) (s : Bool) (x : ByteArray) : VRel G (mkS s x) (.string x) := by cases s <;> constructor
theorem bool?_eq {G : Gh} {v : V} {cv : Value} {x s : Bool} (h : v.bool? = some (x, s)) (hr : VRel G v cv) : cv = .bool x := by
  cases v <;> simp [V.bool?] at h <;> obtain ⟨rfl, rfl⟩ := h <;> cases hr <;> rfl
theorem int?_eq {G : Gh} {v : V} {cv : Value} {k : IntKind} {n : Int} {s : Bool} (h : v.int? = some (k, n, s)) (hr : VRel G v cv) : cv = .int k n := by
  cases v <;> simp [V.int?] at h <;> obtain ⟨rfl, rfl, rfl⟩ := h <;> cases hr <;> rfl
theorem str?_eq {G : Gh} {v : V} {cv : Value} {x : ByteArray} {s : Bool} (h : v.str? = some (x, s)) (hr : VRel G v cv) : cv = .string x := by
  cases v <;> simp [V.str?] at h <;> obtain ⟨rfl, rfl⟩ := h <;> cases hr <;> rfl

section
variable {P : Program} {Γ : Nat → Option V} {σ : St} {G : Gh} {a : Act} {w : World}

theorem Rel.eval (h : Rel Γ G σ a w) (x : Operand) : VRel G (σ.eval Γ x) (a.eval x) := by
  cases x with
  | tmp t =>
    simp only [St.eval, Act.eval]
    cases hv : σ.tm[t]? with
    | none =>
      have hl := h.tm.1
      have : σ.tm.length ≤ t := by
        rcases Nat.lt_or_ge t σ.tm.length with h' | h'
        · simp [List.getElem?_eq_getElem h'] at hv
        · exact h'
      have : a.tmps.size ≤ t := by simp at hl; omega
      simp only [Option.getD_none, Array.getD_eq_getD_getElem?, Array.getElem?_eq_none this]
      exact VRel.undef G
    | some v =>
      obtain ⟨cv, hc, hr⟩ := h.tm.of_get hv
      have : a.tmps[t]? = some cv := by simpa using hc
      simpa [Array.getD_eq_getD_getElem?, this] using hr
  | const v => exact ofVal_rel G v
  | global g =>
    simp only [St.eval, Act.eval]
    cases hv : Γ g with
    | none => exact .any _
    | some v => exact (h.wr.gl g v hv).mono' G.bare_sub
  | func f => exact .fn rfl rfl (fun j v cv h => by simp at h) (fun j v cv h => by simp at h)

/-- In a round an operation that is no defer statement is carried out as everywhere. -/
theorem semAt_of {ro : Option Nat} {o : Oper} {ρ : Operand → Value} {n : Next} {w w' : World} (h : (execOp ρ o).run P w = .ok n w') (hn : ∀ d, n ≠ .defer d) : (o.semAt ro ρ).run P w = .ok n w' := by
  rw [Oper.semAt_eq ro ρ o ?_]
  · exact h
  · intro c hc
    simp only [execOp, hc, Sem.run_bind] at h
    cases hr : (resolve ρ c o.type).run P w with
    | ok d w1 => rw [hr] at h; simp [Result.andThen] at h; exact hn _ h.1.symm
    | halt x w1 => rw [hr] at h; simp [Result.andThen] at h
theorem semAt_val {ro : Option Nat} {o : Oper} {ρ : Operand → Value} {cv : Value} {w w' : World} (h : (execOp ρ o).run P w = .ok (.value cv) w') : (o.semAt ro ρ).run P w = .ok (.value cv) w' :=
  semAt_of h (fun _ h => by cases h)
theorem semAt_skip {ro : Option Nat} {o : Oper} {ρ : Operand → Value} {w w' : World} (h : (execOp ρ o).run P w = .ok .skip w') : (o.semAt ro ρ).run P w = .ok .skip w' :=
  semAt_of h (fun _ h => by cases h)
/-- An operation that yields a value. -/
theorem SemV.of_val {o : Oper} {v : V} {ob' : Ob} {nm' : Nm} (h : ∀ G a w, Rel Γ G σ a w → ∃ cv w' G', (execOp a.eval o).run P w = .ok (.value cv) w' ∧ G.le G' ∧ VRel G' v cv ∧ WRel Γ G' ob' nm' w') :
    SemV P Γ o σ v (ob') (nm') := by
  intro ro G a w K Q hr hk
  obtain ⟨cv, w', G', hrun, hle, hv, hw⟩ := h G a w hr
  refine ⟨fun _ _ => trivial, ?_⟩
  rw [semAt_val hrun]
  exact hk G' _ w' hle hv hw
/-- The same where neither the memory nor the ghost changes. -/
theorem SemV.of_pure {o : Oper} {v : V} (h : ∀ G a w, Rel Γ G σ a w → ∃ cv, (execOp a.eval o).run P w = .ok (.value cv) w ∧ VRel G v cv) : SemV P Γ o σ v σ.ob σ.nm :=
  SemV.of_val (ob' := σ.ob) (nm' := σ.nm) fun G a w hr => let ⟨cv, h1, h2⟩ := h G a w hr; ⟨cv, w, G, h1, .refl G, h2, hr.wr⟩

theorem SemV.move {o : Oper} {x : Operand} (ho : o.op = .move x) : SemV P Γ o σ (σ.eval Γ x) σ.ob σ.nm :=
  SemV.of_pure fun G a w hr => ⟨_, by simp [execOp, ho], hr.eval x⟩
theorem SemV.assign {o : Oper} {x : Operand} (ho : o.op = .assign x) : SemV P Γ o σ (σ.eval Γ x) σ.ob σ.nm :=
  SemV.of_pure fun G a w hr => ⟨_, by simp [execOp, ho], hr.eval x⟩
theorem SemV.pick {o : Oper} {c x y : Operand} {t : Bool} (ho : o.op = .pick c x y) (hc : σ.eval Γ c = .b t) : SemV P Γ o σ (bif t then σ.eval Γ x else σ.eval Γ y) σ.ob σ.nm :=
  SemV.of_pure fun G a w hr => by
    have h := hr.eval c
    rw [hc] at h
    have hb : a.eval c = .bool t := h.bool_eq
    refine ⟨_, by simp [execOp, ho, hb, asBool]; rfl, ?_⟩
    cases t
    · exact hr.eval y
    · exact hr.eval x
theorem SemV.makeFunc {o : Oper} {fn : Fn} {first cap : Array Operand} (ho : o.op = .makeFunc fn first cap) :
    SemV P Γ o σ (.fn fn (first.toList.map (σ.eval Γ)) (cap.toList.map (σ.eval Γ))) σ.ob σ.nm :=
  SemV.of_pure fun G a w hr => by
    refine ⟨_, by simp [execOp, ho, Instr.makeFunc]; rfl, ?_⟩
    refine .fn (by simp) (by simp) (fun j v cv h k => ?_) (fun j v cv h k => ?_) <;>
    · simp only [List.getElem?_map, Array.getElem?_toList, Array.getElem?_map, Option.map_eq_some_iff] at h k
      obtain ⟨x, hx, rfl⟩ := h
      obtain ⟨y, hy, rfl⟩ := k
      rw [hx] at hy
      cases hy
      exact hr.eval x
theorem SemV.makeInterface {o : Oper} {T : TypeId} {x : Operand} {d : TypeDesc} (ho : o.op = .makeInterface T x) (hd : P.underlying T = some d) (hn : ∀ m, d ≠ .interface m) :
    SemV P Γ o σ (.ifc T (σ.eval Γ x)) σ.ob σ.nm :=
  SemV.of_pure fun G a w hr => by
    refine ⟨.iface T (a.eval x), ?_, .ifc (hr.eval x)⟩
    cases d with
    | interface m => exact absurd rfl (hn m)
    | _ => simp [execOp, ho, Instr.makeInterface, run_underlying hd]
theorem SemV.extract {o : Oper} {x : Operand} {ix : Nat} {vs : List V} {v : V} (ho : o.op = .extract x ix) (hx : σ.eval Γ x = .tup vs) (hv : vs[ix]? = some v) : SemV P Γ o σ v σ.ob σ.nm :=
  SemV.of_pure fun G a w hr => by
    have h := hr.eval x
    rw [hx] at h
    cases he : a.eval x <;> rw [he] at h <;> cases h
    rename_i c hl hh
    have hlt : ix < c.size := by
      rw [hl]
      rcases Nat.lt_or_ge ix vs.length with h' | h'
      · exact h'
      · simp [List.getElem?_eq_none h'] at hv
    exact ⟨c[ix], by simp [execOp, ho, Instr.extract, he, Array.getElem?_eq_getElem hlt], hh ix v _ hv (Array.getElem?_eq_getElem hlt)⟩

/-! ### Numbers -/
/-- An operator on numbers: what must hold, and the value. -/
def intOpV (op : BinOp) (k : IntKind) (x : Int) (k' : IntKind) (y : Int) (sx sy : Bool) : Option (Bool × Bool × V) :=
  match op with
  | .shl => some (decide (0 ≤ y), sy, mkI (sx || sy) k (k.wrap (x * 2 ^ (min y.toNat k.bits))))
  | .shr => some (decide (0 ≤ y), sy, mkI (sx || sy) k (x.fdiv (2 ^ (min y.toNat k.bits))))
  | _ =>
    if k ≠ k' then none else
    match op with
    | .add => some (true, false, mkI (sx || sy) k (k.wrap (x + y)))
    | .sub => some (true, false, mkI (sx || sy) k (k.wrap (x - y)))
    | .mul => some (true, false, mkI (sx || sy) k (k.wrap (x * y)))
    | .quo => some (decide (y ≠ 0), sy, mkI (sx || sy) k (k.wrap (x.tdiv y)))
    | .rem => some (decide (y ≠ 0), sy, mkI (sx || sy) k (x.tmod y))
    | .and => some (true, false, mkI (sx || sy) k (k.wrap (BitVec.ofInt k.bits x &&& BitVec.ofInt k.bits y).toNat))
    | .or => some (true, false, mkI (sx || sy) k (k.wrap (BitVec.ofInt k.bits x ||| BitVec.ofInt k.bits y).toNat))
    | .xor => some (true, false, mkI (sx || sy) k (k.wrap (BitVec.ofInt k.bits x ^^^ BitVec.ofInt k.bits y).toNat))
    | .andNot => some (true, false, mkI (sx || sy) k (k.wrap (BitVec.ofInt k.bits x &&& ~~~BitVec.ofInt k.bits y).toNat))
    | .eql => some (true, false, mkB (sx || sy) (x == y))
    | .neq => some (true, false, mkB (sx || sy) (x != y))
    | .lss => some (true, false, mkB (sx || sy) (x < y))
    | .leq => some (true, false, mkB (sx || sy) (x ≤ y))
    | .gtr => some (true, false, mkB (sx || sy) (x > y))
    | .geq => some (true, false, mkB (sx || sy) (x ≥ y))
    | _ => none
def strOpV (op : BinOp) (x y : ByteArray) (s : Bool) : Option (Bool × Bool × V) :=
  match op with
  | .add => some (decide (((x.size + y.size : Nat) : Int) ≤ 9223372036854775807), s, mkS s (x ++ y))
  | .eql => some (true, false, mkB s (x.toList == y.toList))
  | .neq => some (true, false, mkB s (!(x.toList == y.toList)))
  | .lss => some (true, false, mkB s (Op.bytesLess x.toList y.toList))
  | .leq => some (true, false, mkB s (Op.bytesLess x.toList y.toList || x.toList == y.toList))
  | .gtr => some (true, false, mkB s (!(Op.bytesLess x.toList y.toList || x.toList == y.toList)))
  | .geq => some (true, false, mkB s (!Op.bytesLess x.toList y.toList))
  | _ => none
def binX (op : BinOp) (x y : V) : Option (Bool × Bool × V) :=
  match x.int?, y.int? with
  | some (k, a, s), some (k', b, s') => intOpV op k a k' b s s'
  | _, _ =>
    match x.str?, y.str? with
    | some (a, s), some (b, s') => strOpV op a b (s || s')
    | _, _ => none
theorem i64_max : IntKind.i64.max = 9223372036854775807 := rfl
theorem binX_run {op : BinOp} {x y r : V} {c : Bool} {cx cy : Value} (T : TypeId) (hx : VRel G x cx) (hy : VRel G y cy) (h : binX op x y = some (true, c, r)) (w : World) :
    (∃ cv, (Go.binOp op T cx cy).run P w = .ok cv w ∧ VRel G r cv) ∧ ((∀ a b, ¬ (cx = .agg a ∧ cy = .agg b)) ∧ ¬ (cx = .nilIface ∧ cy = .nilIface)) := by
  unfold binX at h
  split at h
  · rename_i k x' s k' y' s' hix hiy
    have := int?_eq hix hx; have := int?_eq hiy hy; subst_vars
    refine ⟨?_, (fun a b hh => by cases hh.1), fun hh => by cases hh.1⟩
    unfold intOpV at h
    split at h
    · simp only [Option.some.injEq, Prod.mk.injEq, decide_eq_true_eq] at h
      obtain ⟨h1, _, rfl⟩ := h
      exact ⟨_, by simp only [Go.binOp, Op.shift, Int.not_lt.2 h1, ↓reduceIte]; rfl, mkI_rel _ _ _ _⟩
    · simp only [Option.some.injEq, Prod.mk.injEq, decide_eq_true_eq] at h
      obtain ⟨h1, _, rfl⟩ := h
      exact ⟨_, by simp only [Go.binOp, Op.shift, Int.not_lt.2 h1, ↓reduceIte]; rfl, mkI_rel _ _ _ _⟩
    · split at h
      · cases h
      · rename_i hk
        have hk : k = k' := by simpa using hk
        subst hk
        split at h <;> first
          | (cases h; done)
          | (simp only [Option.some.injEq, Prod.mk.injEq, decide_eq_true_eq] at h
             obtain ⟨h1, _, rfl⟩ := h
             first
              | exact ⟨_, by simp only [Go.binOp, ne_eq, not_true_eq_false, ↓reduceIte, Op.intArith, Op.intBits, Op.intCmp]; rfl, by first | exact mkI_rel _ _ _ _ | exact mkB_rel _ _ _⟩
              | exact ⟨_, by simp only [Go.binOp, ne_eq, not_true_eq_false, ↓reduceIte, Op.intDiv, h1]; rfl, mkI_rel _ _ _ _⟩)
  · split at h
    · rename_i a s b s' hix hiy
      have := str?_eq hix hx; have := str?_eq hiy hy; subst_vars
      refine ⟨?_, (fun a b hh => by cases hh.1), fun hh => by cases hh.1⟩
      unfold strOpV at h
      split at h <;> first
        | (cases h; done)
        | (simp only [Option.some.injEq, Prod.mk.injEq, decide_eq_true_eq] at h
           obtain ⟨h1, _, rfl⟩ := h
           first
            | exact ⟨_, by simp only [Go.binOp, Op.stringOp]; rfl, mkB_rel _ _ _⟩
            | exact ⟨_, by simp only [Go.binOp, Op.stringOp, i64_max, Int.not_lt.2 h1, ↓reduceIte]; rfl, mkS_rel _ _ _⟩)
    · cases h
end
end Go.Proofs.Ytnjjkobijjdnbaa

/- Memory: new blocks, loads, stores, addresses. -/
set_option linter.unusedVariables false
namespace Go.Proofs.Ytnjjkobijjdnbaa
open Go

section
variable {P : Program} {Γ : Nat → Option V} {G : Gh} {ob : Ob} {nm : Nm} {w : World}

theorem heap_alloc_lt {w : World} {k : Nat} (o : Obj) (h : k < w.heap.size) : (w.alloc o).heap[k]? = w.heap[k]? := by
  simp only [World.alloc, Array.getElem?_push]
  rw [if_neg (by omega)]
theorem heap_alloc_self (w : World) (o : Obj) : (w.alloc o).heap[w.heap.size]? = some o := heap_alloc_new w o
theorem lt_of_heap {w : World} {k : Nat} {o : Obj} (h : w.heap[k]? = some o) : k < w.heap.size := by
  rcases Nat.lt_or_ge k w.heap.size with h' | h'
  · exact h'
  · simp [Array.getElem?_eq_none h'] at h
theorem cell_of_heap {w w' : World} {a : Addr} (h : w'.heap[a.block]? = w.heap[a.block]?) : w'.cell? a = w.cell? a := by simp [World.cell?, h]
theorem lt_of_cell {w : World} {a : Addr} {v : Value} (h : w.cell? a = some v) : a.block < w.heap.size := by
  unfold World.cell? at h
  split at h
  · rename_i hh; exact lt_of_heap hh
  · cases h
theorem cell_row {w : World} {b off : Nat} {cvs : Array Value} {E : TypeId} {fr : Nat × Nat} (h : w.heap[b]? = some (.cells cvs E fr)) : w.cell? ⟨b, off, none⟩ = cvs[off]? := by simp [World.cell?, h]
theorem add_none (b off j : Nat) : (⟨b, off, none⟩ : Addr).add j = ⟨b, off + j, none⟩ := by unfold Addr.add; split <;> simp_all

theorem WRel.mlt (h : WRel Γ G ob nm w) {b off : Nat} {cv : Value} (hm : G.M b off = some cv) : b < w.heap.size := lt_of_cell (h.m _ _ _ hm)
theorem WRel.mnew (h : WRel Γ G ob nm w) (off : Nat) : G.M w.heap.size off = none := by
  cases hm : G.M w.heap.size off with
  | none => rfl
  | some cv => have := h.mlt hm; omega

theorem WRel.dlt (h : WRel Γ G ob nm w) {l : Nat} {o : Obj} (hl : G.D l = some o) : l < w.heap.size := lt_of_heap (h.dd l o hl).1
theorem WRel.dnew (h : WRel Γ G ob nm w) {l : Nat} (hl : w.heap.size ≤ l) : G.D l = none := by
  cases hd : G.D l with
  | none => rfl
  | some o => have := h.dlt hd; omega
theorem WRel.dne (h : WRel Γ G ob nm w) {l b : Nat} {o : Obj} (hl : G.D l = some o) {c : Array Value} {E : TypeId} {fr : Nat × Nat} (hw : w.heap[b]? = some (.cells c E fr)) : l ≠ b := by
  rintro rfl
  obtain ⟨h1, h2, _⟩ := h.dd _ _ hl
  rw [hw] at h1
  cases h1
  cases h2
/-- Another block exchanged. -/
theorem WRel.dset {w' : World} (h : WRel Γ G ob nm w) {b : Nat} {c : Array Value} {E : TypeId} {fr : Nat × Nat} (hw : w.heap[b]? = some (.cells c E fr)) (hs : ∀ k, k ≠ b → w'.heap[k]? = w.heap[k]?) :
    ∀ l o, G.D l = some o → w'.heap[l]? = some o ∧ o.isCells = false ∧ G.w0.own l :=
  fun l o hl => ⟨(hs l (h.dne hl hw)).trans (h.dd l o hl).1, (h.dd l o hl).2⟩
theorem BufOk.lt {G : Gh} {w : World} {x : Tail} {c : BC} (h : BufOk G w x c) : x.b < w.heap.size := by
  obtain ⟨_, _, _, e, _⟩ := h.row
  exact lt_of_heap e
/-- A buffer in another world, under another ghost. -/
theorem BufOk.to {G G' : Gh} {w w' : World} {x : Tail} {c : BC} (h : BufOk G w x c) (hb : w'.heap[x.b]? = w.heap[x.b]?) (hs : ∀ v cv, VRel G v cv → VRel G' v cv) (h0 : ∀ b, G.w0.own b → G'.w0.own b)
    (hm : ∀ off, G.M x.b off = none → G'.M x.b off = none) (ho : ∀ o, G'.H o ≠ some x.b) : BufOk G' w' x c := by
  obtain ⟨cvs, E, fr, e1, e2, e3, e4⟩ := h.row
  exact ⟨h0 _ h.old, ⟨cvs, E, fr, hb.trans e1, e2, e3, ⟨e4.1, fun j v cv a b => hs _ _ (e4.2 j v cv a b)⟩⟩, h.sz, h.el, h.len, h.cap, fun off a b => hm off (h.free off a b), ho⟩
/-- Another count of what was there at first. -/
def Gh.reK (G : Gh) (a b : Nat) : Gh := { G with kh := a, kt := b }
theorem Gh.reK_sub (G : Gh) (a b : Nat) : G.sub (G.reK a b) := ⟨fun _ _ _ h => h, fun _ _ h => h, fun _ _ h => h, fun _ _ h => h⟩
theorem Gh.sub_reK (G : Gh) (a b : Nat) : (G.reK a b).sub G := ⟨fun _ _ _ h => h, fun _ _ h => h, fun _ _ h => h, fun _ _ h => h⟩
theorem WRel.reK (h : WRel Γ G ob nm w) (a b : Nat) : WRel Γ (G.reK a b) ob nm w where
  m := h.m
  hob o cs x h1 h2 := by
    obtain ⟨q1, ⟨q2, q3, q4, q5, q6, q7, q8⟩, q9⟩ := h.hob o cs x h1 h2
    exact ⟨q1, ⟨q2, q3, q4, q5, q6, q7, q8.mono' (G.reK_sub a b)⟩, q9⟩
  hlt := h.hlt
  habs := h.habs
  inj := h.inj
  hnm n c x h1 h2 := (h.hnm n c x h1 h2).to rfl (fun _ _ h => h.mono' (G.reK_sub a b)) (fun _ h => h) (fun _ h => h) (h.hnm n c x h1 h2).obj
  hno := h.hno
  nmd := h.nmd
  tabs := h.tabs
  tlt := h.tlt
  dd := h.dd
  kdle := h.kdle
  gl g v hg := VRel.mono' (G := G.bare) (G' := (G.reK a b).bare) ⟨fun _ _ _ h => h, (fun _ _ h => by cases h), (fun _ _ h => by cases h), (fun _ _ h => by cases h)⟩ (h.gl g v hg)
  mold := h.mold
  os := h.os
  tape := h.tape
  output := h.output
  size := h.size
  block := h.block
def Gh.reD (G : Gh) (d : Nat) : Gh := { G with kd := d }
theorem Gh.reD_sub (G : Gh) (d : Nat) : G.sub (G.reD d) := ⟨fun _ _ _ h => h, fun _ _ h => h, fun _ _ h => h, fun _ _ h => h⟩
theorem Gh.sub_reD (G : Gh) (d : Nat) : (G.reD d).sub G := ⟨fun _ _ _ h => h, fun _ _ h => h, fun _ _ h => h, fun _ _ h => h⟩
theorem WRel.reD (h : WRel Γ G ob nm w) {d : Nat} (hd : d ≤ w.heap.size) : WRel Γ (G.reD d) ob nm w where
  m := h.m
  hob o cs x h1 h2 := by
    obtain ⟨q1, ⟨q2, q3, q4, q5, q6, q7, q8⟩, q9⟩ := h.hob o cs x h1 h2
    exact ⟨q1, ⟨q2, q3, q4, q5, q6, q7, q8.mono' (G.reD_sub d)⟩, q9⟩
  hlt := h.hlt
  habs := h.habs
  inj := h.inj
  hnm n c x h1 h2 := (h.hnm n c x h1 h2).to rfl (fun _ _ h => h.mono' (G.reD_sub d)) (fun _ h => h) (fun _ h => h) (h.hnm n c x h1 h2).obj
  hno := h.hno
  nmd := h.nmd
  tabs := h.tabs
  tlt := h.tlt
  dd := h.dd
  kdle := hd
  gl g v hg := VRel.mono' (G := G.bare) (G' := (G.reD d).bare) ⟨fun _ _ _ h => h, (fun _ _ h => by cases h), (fun _ _ h => by cases h), (fun _ _ h => by cases h)⟩ (h.gl g v hg)
  mold := h.mold
  os := h.os
  tape := h.tape
  output := h.output
  size := h.size
  block := h.block
/-- What keeps the old blocks keeps the relation. -/
theorem WRel.keep {w' : World} (h : WRel Γ G ob nm w) (hs : w.heap.size ≤ w'.heap.size) (hb : ∀ k, k < w.heap.size → w'.heap[k]? = w.heap[k]?) (ho : w'.os = w.os) (ht : w'.tape = w.tape) (hu : w'.output = w.output) : WRel Γ G ob nm w' where
  m b off cv hm := by rw [cell_of_heap (w := w) (by exact hb _ (h.mlt hm))]; exact h.m _ _ _ hm
  hob o cs b h1 h2 := by rw [hb b (h.hlt o b h2).2]; exact h.hob o cs b h1 h2
  hlt o b h1 := ⟨(h.hlt o b h1).1, Nat.lt_of_lt_of_le (h.hlt o b h1).2 hs⟩
  habs := h.habs
  inj := h.inj
  hnm n c x h1 h2 := (h.hnm n c x h1 h2).to (hb _ (h.hnm n c x h1 h2).lt) (fun _ _ h => h) (fun _ h => h) (fun _ h => h) (h.hnm n c x h1 h2).obj
  hno := h.hno
  nmd := h.nmd
  tabs := h.tabs
  tlt := h.tlt
  kdle := Nat.le_trans h.kdle hs
  dd l o hl := ⟨(hb l (h.dlt hl)).trans (h.dd l o hl).1, (h.dd l o hl).2⟩
  gl := h.gl
  mold := h.mold
  os := ho.trans h.os
  tape := ht.trans h.tape
  output := hu.trans h.output
  size := Nat.le_trans h.size hs
  block k hk := (hb k (Nat.lt_of_lt_of_le (W0.own_lt hk) h.size)).trans (h.block k hk)
theorem WRel.drew (h : WRel Γ G ob nm w) : WRel Γ G ob nm w.drew := h.keep (Nat.le_refl _) (fun _ _ => rfl) rfl rfl rfl
theorem WRel.alloc (h : WRel Γ G ob nm w) (o : Obj) : WRel Γ G ob nm (w.alloc o) := h.keep (by simp) (fun k hk => heap_alloc_lt o hk) rfl rfl rfl

def Gh.addH (G : Gh) (o b : Nat) : Gh := { G with H := fun x => if x = o then some b else G.H x }
def Gh.addM (G : Gh) (b : Nat) (c : Array Value) : Gh := { G with M := fun x off => if x = b then c[off]? else G.M x off }
theorem Gh.le_addH {G : Gh} {o b : Nat} (h : G.H o = none) : G.le (G.addH o b) :=
  ⟨⟨fun _ _ _ h => h, fun x y k => by
    by_cases hx : x = o
    · subst hx; rw [h] at k; cases k
    · simpa [Gh.addH, hx] using k, fun _ _ h => h, fun _ _ h => h⟩, rfl, rfl, rfl, rfl, rfl⟩
theorem Gh.le_addM {G : Gh} {b : Nat} {c : Array Value} (h : ∀ off, G.M b off = none) : G.le (G.addM b c) :=
  ⟨⟨fun x off cv k => by
    by_cases hx : x = b
    · subst hx; rw [h] at k; cases k
    · simpa [Gh.addM, hx] using k, fun _ _ h => h, fun _ _ h => h, fun _ _ h => h⟩, rfl, rfl, rfl, rfl, rfl⟩

/-- A new object. -/
theorem WRel.newObj (h : WRel Γ G ob nm w) {cs : List V} {cvs : Array Value} {E : TypeId} (hr : Rels G cs cvs.toList) :
    G.le (G.addH ob.length w.heap.size) ∧ WRel Γ (G.addH ob.length w.heap.size) (ob ++ [some cs]) nm (w.alloc (.cells cvs E)) := by
  have hnone : G.H ob.length = none := by
    cases hh : G.H ob.length with
    | none => rfl
    | some b => have := (h.hlt _ _ hh).1; omega
  have hle := Gh.le_addH (b := w.heap.size) hnone
  have k := h.alloc (.cells cvs E)
  refine ⟨hle, ?_⟩
  exact {
    m := k.m
    hob := fun o cs' b h1 h2 => by
      by_cases ho : o = ob.length
      · subst ho
        simp only [Gh.addH, if_true, Option.some.injEq] at h2
        subst h2
        simp at h1
        subst h1
        refine ⟨.inl h.size, ⟨cvs, E, (0, 0), heap_alloc_self w _, .inl rfl, by have := hr.1; simp at this; omega, ?_⟩, h.mnew⟩
        have hl : cvs.toList.take cs.length = cvs.toList := List.take_of_length_le (by rw [hr.1]; exact Nat.le_refl _)
        rw [hl]
        exact hr.mono hle
      · have h2' : G.H o = some b := by simpa [Gh.addH, ho] using h2
        have hlt := (h.hlt o b h2').1
        rw [List.getElem?_append_left hlt] at h1
        obtain ⟨a1, ⟨c, E', fr, e1, e2, e3, e4⟩, a3⟩ := k.hob o cs' b h1 h2'
        exact ⟨a1, ⟨c, E', fr, e1, e2, e3, e4.mono hle⟩, a3⟩
    hlt := fun o b h1 => by
      by_cases ho : o = ob.length
      · subst ho
        simp only [Gh.addH, if_true, Option.some.injEq] at h1
        subst h1
        simp
      · have h2' : G.H o = some b := by simpa [Gh.addH, ho] using h1
        have := h.hlt o b h2'
        simp; omega
    habs := fun o h1 => by
      by_cases ho : o = ob.length
      · subst ho; simp at h1
      · rcases Nat.lt_or_ge o ob.length with hl | hl
        · rw [List.getElem?_append_left hl] at h1
          simpa [Gh.addH, ho] using h.habs o h1
        · rw [List.getElem?_append_right hl] at h1
          have : o - ob.length ≠ 0 := by omega
          rw [List.getElem?_eq_none (by simp; omega)] at h1
          cases h1
    inj := fun o o' b h1 h2 => by
      simp only [Gh.addH] at h1 h2
      split at h1 <;> split at h2
      · omega
      · have := (h.hlt _ _ h2).2; have he : w.heap.size = b := Option.some.inj h1; omega
      · have := (h.hlt _ _ h1).2; have he : w.heap.size = b := Option.some.inj h2; omega
      · exact h.inj _ _ _ h1 h2
    hnm := fun n c x h1 h2 => (k.hnm n c x h1 h2).to rfl (fun _ _ h => h.mono hle) (fun _ h => h) (fun _ h => h) (fun o ho => by
      have hx := (h.hnm n c x h1 h2).lt
      simp only [Gh.addH] at ho
      split at ho
      · have he : w.heap.size = x.b := Option.some.inj ho
        omega
      · exact (h.hnm n c x h1 h2).obj o ho)
    hno := k.hno
    nmd := k.nmd
    tabs := k.tabs
    tlt := k.tlt
    dd := k.dd
    kdle := k.kdle
    gl := fun g v hg => (k.gl g v hg).mono' hle.toSub.bare
    mold := k.mold
    os := k.os
    tape := k.tape
    output := k.output
    size := k.size
    block := k.block }

/-- A new row that never changes. -/
theorem WRel.newRow (h : WRel Γ G ob nm w) (cvs : Array Value) (E : TypeId) :
    G.le (G.addM w.heap.size cvs) ∧ WRel Γ (G.addM w.heap.size cvs) ob nm (w.alloc (.cells cvs E)) := by
  have hle := Gh.le_addM (c := cvs) h.mnew
  have k := h.alloc (.cells cvs E)
  refine ⟨hle, ?_⟩
  exact {
    m := fun b off cv hm => by
      by_cases hb : b = w.heap.size
      · subst hb
        rw [cell_row (heap_alloc_self w _)]
        simpa [Gh.addM] using hm
      · exact k.m b off cv (by simpa [Gh.addM, hb] using hm)
    hob := fun o cs b h1 h2 => by
      obtain ⟨a1, ⟨c, E', fr, e1, e2, e3, e4⟩, a3⟩ := k.hob o cs b h1 h2
      have hb : b ≠ w.heap.size := by have := (h.hlt o b h2).2; omega
      exact ⟨a1, ⟨c, E', fr, e1, e2, e3, e4.mono hle⟩, fun off => by simpa [Gh.addM, hb] using a3 off⟩
    hlt := k.hlt
    habs := k.habs
    inj := k.inj
    hnm := fun n c x h1 h2 => by
      have hx := (h.hnm n c x h1 h2).lt
      have hb : x.b ≠ w.heap.size := by omega
      exact (k.hnm n c x h1 h2).to rfl (fun _ _ h => h.mono hle) (fun _ h => h) (fun off h => by simpa [Gh.addM, hb] using h) (k.hnm n c x h1 h2).obj
    hno := k.hno
    nmd := k.nmd
    tabs := k.tabs
    tlt := k.tlt
    dd := k.dd
    kdle := k.kdle
    gl := fun g v hg => (k.gl g v hg).mono' hle.toSub.bare
    mold := fun b off hb => by
      have hne : b ≠ w.heap.size := by have := W0.own_lt (x := G.w0) hb; have := h.size; omega
      simpa [Gh.addM, hne] using k.mold b off hb
    os := k.os
    tape := k.tape
    output := k.output
    size := k.size
    block := k.block }
theorem addM_new (G : Gh) (b : Nat) (c : Array Value) (off : Nat) : (G.addM b c).M b off = c[off]? := by simp [Gh.addM]
theorem addH_new (G : Gh) (o b : Nat) : (G.addH o b).H o = some b := by simp [Gh.addH]

/-! ### Types -/
def tySize (P : Program) (T : TypeId) : Option Nat := (P.info? T).map (·.size)
def tyZero (P : Program) (T : TypeId) : Option V := ((P.info? T).bind (·.zero)).map ofVal
def tyAgg (P : Program) (T : TypeId) : Option Bool := (P.underlying T).map fun | .struct _ | .array _ _ => true | _ => false
theorem run_sizeOf {T : TypeId} {n : Nat} (h : tySize P T = some n) (w : World) : (sizeOf T).run P w = .ok n w := by
  unfold tySize at h
  cases hi : P.info? T with
  | none => simp [hi] at h
  | some i => simp [hi] at h; subst h; simp [sizeOf, typeInfo, hi]
theorem run_isAgg {T : TypeId} {t : Bool} (h : tyAgg P T = some t) (w : World) : (isAgg T).run P w = .ok t w := by
  unfold tyAgg at h
  cases hi : P.underlying T with
  | none => simp [hi] at h
  | some d =>
    simp [hi] at h
    subst h
    cases d <;> simp [isAgg, run_underlying hi]
theorem run_zero {T : TypeId} {v : V} (h : tyZero P T = some v) (w : World) : ∃ z, (zeroValue T).run P w = .ok z w ∧ v = ofVal z := by
  unfold tyZero at h
  cases hi : P.info? T with
  | none => simp [hi] at h
  | some i =>
    simp [hi] at h
    obtain ⟨z, hz, rfl⟩ := h
    exact ⟨z, by simp [zeroValue, typeInfo, hi, hz], rfl⟩

/-! ### Loads -/
def getV (agg : Bool) (sz : Nat) (cs : List V) (off : Nat) : Option V :=
  if agg then if off + sz ≤ cs.length then some (.agg ((cs.drop off).take sz)) else none else cs[off]?
def loadV (agg : Bool) (sz : Nat) (ob : Ob) : V → Option V
  | .ptr o off =>
    match ob[o]? with
    | some (some cs) => getV agg sz cs off
    | _ => none
  | .pel xs k off =>
    match xs[k]? with
    | some x => getV agg sz x.cells off
    | none => none
  | _ => none

theorem run_loadVar_at {T : TypeId} {agg : Bool} {sz : Nat} (ha : tyAgg P T = some agg) (hs : tySize P T = some sz) {cs : List V} {cvs : List Value} {off : Nat} {v : V} (h : getV agg sz cs off = some v)
    (hr : Rels G cs cvs) (b o0 : Nat) (w : World) (hc : ∀ j cv, cvs[j]? = some cv → w.cell? ⟨b, o0 + j, none⟩ = some cv) :
    ∃ cv, (loadVar T ⟨b, o0 + off, none⟩).run P w = .ok cv w ∧ VRel G v cv := by
  unfold getV at h
  cases agg with
  | false =>
    simp at h
    obtain ⟨cv, h1, h2⟩ := hr.of_get h
    exact ⟨cv, by simp [loadVar, run_isAgg ha, hc off cv h1], h2⟩
  | true =>
    simp at h
    obtain ⟨hle, rfl⟩ := h
    have hr' := (hr.drop off).take sz
    have hlen : ((cvs.drop off).take sz).length = sz := by simp [hr.1]; omega
    have := run_loadCells_list (P := P) w ⟨b, o0 + off, none⟩ ((cvs.drop off).take sz) (fun j v hj => by
      rw [add_none]
      rw [List.getElem?_take] at hj
      split at hj
      · rw [List.getElem?_drop] at hj
        have := hc _ _ hj
        rwa [← Nat.add_assoc] at this
      · cases hj)
    rw [hlen] at this
    refine ⟨.agg ((cvs.drop off).take sz).toArray, by simp [loadVar, run_isAgg ha, run_sizeOf hs, this], ?_⟩
    exact .agg (by simpa using hr'.1) (fun j v cv h1 h2 => hr'.2 j v cv h1 (by simpa using h2))

/-- Where an abstract address leads. -/
theorem VRel.load {T : TypeId} {agg : Bool} {sz : Nat} (ha : tyAgg P T = some agg) (hs : tySize P T = some sz) (h : WRel Γ G ob nm w) {p v : V} {cp : Value} (hp : VRel G p cp) (hl : loadV agg sz ob p = some v) :
    ∃ a cv, cp = .pointer (some a) ∧ (loadVar T a).run P w = .ok cv w ∧ VRel G v cv := by
  cases hp <;> simp only [loadV] at hl <;> try cases hl
  case ptr o off b hb =>
    split at hl
    · rename_i cs hcs
      obtain ⟨_, ⟨cvs, E, fr, e1, e2, e3, e4⟩, _⟩ := h.hob o cs b hcs hb
      obtain ⟨cv, h1, h2⟩ := run_loadVar_at ha hs hl e4 b 0 w (fun j cv hj => by
        rw [Nat.zero_add, cell_row e1]
        rw [List.getElem?_take] at hj
        split at hj
        · simpa using hj
        · cases hj)
      rw [Nat.zero_add] at h1
      exact ⟨_, cv, rfl, h1, h2⟩
    · cases hl
  case pel xs k off b o0 sz0 cvs hsz hlen hm hv =>
    split at hl
    · rename_i x hx
      have hxm : x ∈ xs := List.mem_of_getElem? hx
      -- the k-th element's cells inside the flat row
      have hfl : ∀ j v, x.cells[j]? = some v → (flat xs)[k * sz0 + j]? = some v := flat_get hsz hx
      have hr : Rels G x.cells ((cvs.drop (k * sz0)).take sz0) := by
        have hlen2 : (flat xs).length = xs.length * sz0 := flat_length hsz
        have hk : k < xs.length := by
          rcases Nat.lt_or_ge k xs.length with h' | h'
          · exact h'
          · simp [List.getElem?_eq_none h'] at hx
        have hkk : k * sz0 + sz0 ≤ xs.length * sz0 := by rw [← Nat.succ_mul]; exact Nat.mul_le_mul_right _ hk
        refine ⟨by simp [hlen, hlen2, hsz x hxm]; omega, fun j v cv h1 h2 => ?_⟩
        rw [List.getElem?_take] at h2
        split at h2
        · rw [List.getElem?_drop] at h2
          exact hv _ _ _ (hfl j v h1) h2
        · cases h2
      obtain ⟨cv, h1, h2⟩ := run_loadVar_at ha hs hl hr b (o0 + k * sz0) w (fun j cv hj => by
        rw [List.getElem?_take] at hj
        split at hj
        · rw [List.getElem?_drop] at hj
          have := h.m _ _ _ (hm _ _ hj)
          rwa [← Nat.add_assoc] at this
        · cases hj)
      rw [Nat.add_assoc] at h1
      exact ⟨_, cv, rfl, h1, h2⟩
    · cases hl
where
  flat_length {xs : List V} {sz : Nat} (h : ∀ x ∈ xs, x.cells.length = sz) : (flat xs).length = xs.length * sz := by
    induction xs with
    | nil => simp [flat]
    | cons x xs ih =>
      have := ih (fun y hy => h y (by simp [hy]))
      simp only [flat, List.flatMap_cons, List.length_append, List.length_cons] at this ⊢
      rw [this, h x (by simp), Nat.succ_mul]
      omega
  flat_get {xs : List V} {sz : Nat} (h : ∀ x ∈ xs, x.cells.length = sz) {k : Nat} {x : V} (hx : xs[k]? = some x) (j : Nat) (v : V) (hj : x.cells[j]? = some v) : (flat xs)[k * sz + j]? = some v := by
    induction xs generalizing k with
    | nil => simp at hx
    | cons y ys ih =>
      simp only [flat, List.flatMap_cons]
      cases k with
      | zero =>
        simp at hx
        subst hx
        have hlt : j < y.cells.length := by
          rcases Nat.lt_or_ge j y.cells.length with h' | h'
          · exact h'
          · simp [List.getElem?_eq_none h'] at hj
        rw [Nat.zero_mul, Nat.zero_add, List.getElem?_append_left hlt]
        exact hj
      | succ k =>
        simp at hx
        have hy := h y (by simp)
        rw [List.getElem?_append_right (by rw [hy, Nat.succ_mul]; omega)]
        have e : (k + 1) * sz + j - y.cells.length = k * sz + j := by rw [hy, Nat.succ_mul]; omega
        rw [e]
        exact ih (fun z hz => h z (by simp [hz])) hx
theorem SemV.load {σ : St} {o : Oper} {T : TypeId} {x : Operand} {agg : Bool} {sz : Nat} {v : V} (ho : o.op = .load T x) (ha : tyAgg P T = some agg) (hs : tySize P T = some sz) (hl : loadV agg sz σ.ob (σ.eval Γ x) = some v) :
    SemV P Γ o σ v σ.ob σ.nm :=
  SemV.of_pure fun G a w hr => by
    obtain ⟨ad, cv, h1, h2, h3⟩ := VRel.load ha hs hr.wr (hr.eval x) hl
    exact ⟨cv, by simp [execOp, ho, Instr.loadAt, Instr.sureAddr, h1, h2], h3⟩
end
end Go.Proofs.Ytnjjkobijjdnbaa

/- Stores, addresses, parts. -/
set_option linter.unusedVariables false
set_option linter.unusedSimpArgs false
namespace Go.Proofs.Ytnjjkobijjdnbaa
open Go

section
variable {P : Program} {Γ : Nat → Option V} {G : Gh} {ob : Ob} {nm : Nm} {w : World} {σ : St}

/-- The world with one row exchanged. -/
structure RowSet (w w' : World) (b : Nat) (c : Array Value) (E : TypeId) (fr : Nat × Nat) : Prop where
  row : w'.heap[b]? = some (.cells c E fr)
  other : ∀ k, k ≠ b → w'.heap[k]? = w.heap[k]?
  size : w'.heap.size = w.heap.size
  os : w'.os = w.os
  tape : w'.tape = w.tape
  output : w'.output = w.output

theorem rowSet_setCell {w : World} {b off : Nat} {c : Array Value} {E : TypeId} {fr : Nat × Nat} (h : w.heap[b]? = some (.cells c E fr)) (v : Value) :
    RowSet w (w.setCell ⟨b, off, none⟩ v) b (c.setIfInBounds off v) E fr where
  row := by simp [World.setCell, Array.getElem?_modify, h]
  other k hk := by simp only [World.setCell, Array.getElem?_modify]; rw [if_neg (by simpa using (Ne.symm hk))]
  size := by simp [World.setCell]
  os := rfl
  tape := rfl
  output := rfl

theorem run_store_row {w : World} {b off : Nat} {c : Array Value} {E : TypeId} {fr : Nat × Nat} (h : w.heap[b]? = some (.cells c E fr)) (hf : fr = (0, 0) ∨ c.size ≤ fr.1) (hl : off < c.size) {v : Value} (h1 : v.oneCell' = true) :
    (store ⟨b, off, none⟩ v).run P w = .ok () (w.setCell ⟨b, off, none⟩ v) := by
  rw [run_store P w _ v _ h1, cell_row h, Array.getElem?_eq_getElem hl]
  have hfr : w.frozen? ⟨b, off, none⟩ = false := by
    simp only [World.frozen?, h]
    rcases hf with rfl | hf
    · simp
    · have : ¬ fr.1 ≤ off := by omega
      simp [this]
  simp [hfr]

theorem splice_step (l : List Value) (k : Nat) (v : Value) (rest : List Value) (h : k + (rest.length + 1) ≤ l.length) :
    (l.set k v).take (k + 1) ++ rest ++ (l.set k v).drop (k + 1 + rest.length) = l.take k ++ (v :: rest) ++ l.drop (k + (rest.length + 1)) := by
  have h1 : (l.set k v).take (k + 1) = l.take k ++ [v] := by
    apply List.ext_getElem?
    intro j
    simp only [List.getElem?_take, List.getElem?_set, List.getElem?_append, List.length_take]
    by_cases hj : j < k
    · have : j < min k l.length := by omega
      have h3 : j < k + 1 := by omega
      have h4 : ¬ k = j := by omega
      simp [this, h3, h4, hj]
    · by_cases hj2 : j = k
      · subst hj2
        have : min j l.length = j := by omega
        have hjl : j < l.length := by omega
        simp [this, hjl]
      · have : min k l.length = k := by omega
        have h3 : ¬ j < k + 1 := by omega
        simp [hj, this, h3]
        omega
  have h2 : (l.set k v).drop (k + 1 + rest.length) = l.drop (k + (rest.length + 1)) := by
    apply List.ext_getElem?
    intro j
    simp only [List.getElem?_drop, List.getElem?_set]
    have : ¬ k = k + 1 + rest.length + j := by omega
    simp [this]
    congr 1
    omega
  rw [h1, h2]
  simp

theorem run_storeCells_row {b off : Nat} {E : TypeId} {fr : Nat × Nat} : ∀ (vs : List Value) (i : Nat) (c : Array Value) (w : World), w.heap[b]? = some (.cells c E fr) → (fr = (0, 0) ∨ c.size ≤ fr.1) → off + i + vs.length ≤ c.size → (∀ v ∈ vs, v.oneCell' = true) →
    ∃ w', (storeCells ⟨b, off, none⟩ vs i).run P w = .ok () w' ∧ RowSet w w' b (c.toList.take (off + i) ++ vs ++ c.toList.drop (off + i + vs.length)).toArray E fr
  | [], i, c, w, h, _, _, _ => ⟨w, by simp [storeCells], ⟨by simpa using h, fun _ _ => rfl, rfl, rfl, rfl, rfl⟩⟩
  | v :: rest, i, c, w, h, hf, hl, h1 => by
    simp only [List.length_cons] at hl
    have hs := run_store_row (P := P) (off := off + i) h hf (by omega) (h1 v (by simp))
    have hr := rowSet_setCell (off := off + i) h v
    obtain ⟨w', e1, e2⟩ := run_storeCells_row (b := b) (off := off) rest (i + 1) (c.setIfInBounds (off + i) v) _ hr.row (by simpa using hf) (by simp; omega) (fun x hx => h1 x (by simp [hx]))
    refine ⟨w', by simp only [storeCells, add_none, Sem.run_bind, hs, Result.andThen_ok, e1], ?_⟩
    have e := splice_step c.toList (off + i) v rest (by simp; omega)
    have e3 := e2.row
    simp only [Array.toList_setIfInBounds, ← Nat.add_assoc, List.length_cons] at e3 e
    rw [e] at e3
    exact ⟨by simpa [← Nat.add_assoc] using e3, fun k hk => (e2.other k hk).trans (hr.other k hk), e2.size.trans hr.size, e2.os.trans hr.os, e2.tape.trans hr.tape, e2.output.trans hr.output⟩

/-- An object's content exchanged. -/
theorem WRel.setObj {w' : World} (h : WRel Γ G ob nm w) {o b : Nat} {cs cs' : List V} {c c' : Array Value} {E : TypeId} {fr : Nat × Nat} (ho : ob[o]? = some (some cs)) (hb : G.H o = some b)
    (hw : w.heap[b]? = some (.cells c E fr)) (hs : RowSet w w' b c' E fr) (hsz : c'.size = c.size) (hl : cs'.length ≤ cs.length) (hr : Rels G cs' (c'.toList.take cs'.length)) : WRel Γ G (ob.set o (some cs')) nm w' := by
  obtain ⟨a1, ⟨c2, E2, fr2, e1, e2, e3, e4⟩, a3⟩ := h.hob o cs b ho hb
  have he : c2 = c ∧ E2 = E ∧ fr2 = fr := by rw [hw] at e1; simp at e1; exact ⟨e1.1.symm, e1.2.1.symm, e1.2.2.symm⟩
  obtain ⟨rfl, rfl, rfl⟩ := he
  have hlen : o < ob.length := (h.hlt o b hb).1
  exact {
    m := fun x off cv hm => by
      have hx : x ≠ b := fun hx => by rw [hx, a3] at hm; cases hm
      rw [cell_of_heap (w := w) (by exact hs.other x hx)]
      exact h.m _ _ _ hm
    hob := fun o' ds x h1 h2 => by
      by_cases hoo : o' = o
      · subst hoo
        rw [hb] at h2
        cases h2
        rw [List.getElem?_set_self hlen] at h1
        have h1 : cs' = ds := by simpa using h1
        subst h1
        exact ⟨a1, ⟨c', E2, fr2, hs.row, by rw [hsz]; exact e2, by rw [hsz]; omega, hr⟩, a3⟩
      · rw [List.getElem?_set_ne (Ne.symm hoo)] at h1
        have hx : x ≠ b := fun hx => hoo (h.inj o' o b (by rw [← hx]; exact h2) hb)
        obtain ⟨q1, ⟨q2, q3, q4, q5, q6⟩, q7⟩ := h.hob o' ds x h1 h2
        exact ⟨q1, ⟨q2, q3, q4, by rw [hs.other x hx]; exact q5, q6⟩, q7⟩
    hlt := fun o' x h1 => by simp [hs.size]; exact h.hlt o' x h1
    habs := fun o' h1 => by
      by_cases hoo : o' = o
      · subst hoo; rw [List.getElem?_set_self hlen] at h1; simp at h1
      · rw [List.getElem?_set_ne (Ne.symm hoo)] at h1; exact h.habs o' h1
    inj := h.inj
    hnm := fun n c x h1 h2 => (h.hnm n c x h1 h2).to (hs.other _ fun hx => (h.hnm n c x h1 h2).obj o (by rw [hx]; exact hb)) (fun _ _ h => h) (fun _ h => h) (fun _ h => h) (h.hnm n c x h1 h2).obj
    hno := h.hno
    nmd := h.nmd
    tabs := h.tabs
    tlt := h.tlt
    dd := h.dset hw hs.other
    kdle := by rw [hs.size]; exact h.kdle
    gl := h.gl
    mold := h.mold
    os := hs.os.trans h.os
    tape := hs.tape.trans h.tape
    output := hs.output.trans h.output
    size := by rw [hs.size]; exact h.size
    block := fun k hk => (hs.other k (W0.own_ne (by assumption) hk)).trans (h.block k hk) }

def V.allOne (v : V) : Bool := v.cells.all V.one
theorem V.ne_any {v : V} (h : v.allOne = true) : v ≠ .any := fun e => by subst e; simp [V.allOne, V.cells, V.one] at h
theorem VRel.cells_one {v : V} {cv : Value} (h : VRel G v cv) (h1 : v.allOne = true) : ∀ x ∈ cv.cells.toList, x.oneCell' = true := by
  intro x hx
  obtain ⟨j, hj⟩ := List.getElem?_of_mem hx
  have hr := h.cells (V.ne_any h1)
  have hlt : j < cv.cells.toList.length := by
    rcases Nat.lt_or_ge j cv.cells.toList.length with h' | h'
    · exact h'
    · simp [List.getElem?_eq_none h'] at hj
  have hv : v.cells[j]? = some (v.cells[j]'(by rw [← hr.1]; exact hlt)) := List.getElem?_eq_getElem _
  refine (hr.2 j _ x hv hj).oneCell ?_
  simp only [V.allOne, List.all_eq_true] at h1
  exact h1 _ (List.mem_of_getElem? hv)

/-- The objects behind a store. -/
def storeV (sz : Nat) (ob : Ob) : V → V → Option Ob
  | .ptr o off, v =>
    match ob[o]? with
    | some (some cs) => if v.allOne ∧ v.cells.length = sz ∧ off + sz ≤ cs.length then some (ob.set o (some (cs.take off ++ v.cells ++ cs.drop (off + sz)))) else none
    | _ => none
  | _, _ => none
theorem VRel.store {T : TypeId} {sz : Nat} (hs : tySize P T = some sz) (h : WRel Γ G ob nm w) {p v : V} {cp cv : Value} {ob' : Ob} (hp : VRel G p cp) (hv : VRel G v cv) (he : storeV sz ob p v = some ob') :
    ∃ a w', cp = .pointer (some a) ∧ (storeVar T a cv).run P w = .ok () w' ∧ WRel Γ G ob' nm w' := by
  cases p <;> simp only [storeV] at he <;> try cases he
  rename_i o off
  cases hp
  rename_i b hb
  split at he
  · rename_i cs hcs
    split at he
    · rename_i hc
      obtain ⟨h1, h2, h3⟩ := hc
      cases he
      obtain ⟨a1, ⟨c, E, fr, e1, e2, e3, e4⟩, a3⟩ := h.hob o cs b hcs hb
      have hr := hv.cells (V.ne_any h1)
      have hcl : cv.cells.size = sz := by have := hr.1; simp at this; omega
      obtain ⟨w', g1, g2⟩ := run_storeCells_row (P := P) (off := off) cv.cells.toList 0 c w e1 e2 (by simp [hcl]; omega) (hv.cells_one h1)
      refine ⟨_, w', rfl, ?_, ?_⟩
      · simp only [storeVar, Sem.run_bind, run_sizeOf hs, Result.andThen_ok, hcl, ne_eq, not_true_eq_false, ↓reduceIte]
        exact g1
      · simp only [Nat.add_zero, Array.length_toList, hcl] at g2
        refine h.setObj hcs hb e1 g2 (by simp [hcl]; omega) (by simp [h2]; omega) ?_
        have hlen : (cs.take off ++ v.cells ++ cs.drop (off + sz)).length = cs.length := by simp [h2]; omega
        rw [hlen]
        have e5 : (c.toList.take off ++ cv.cells.toList ++ c.toList.drop (off + sz)).take cs.length = (c.toList.take cs.length).take off ++ cv.cells.toList ++ (c.toList.take cs.length).drop (off + sz) := by
          rw [List.append_assoc, List.take_append, List.take_append, List.append_assoc]
          have l1 : (c.toList.take off).length = off := by simp; omega
          have l2 : cv.cells.toList.length = sz := by simp [hcl]
          rw [l1, l2, List.take_take, List.take_take, List.take_of_length_le (show cv.cells.toList.length ≤ cs.length - off by rw [l2]; omega), List.drop_take,
            show min cs.length off = off by omega, show min off cs.length = off by omega, show cs.length - off - sz = cs.length - (off + sz) by omega]
        simp only [List.toList_toArray]
        rw [e5]
        exact ((e4.take off).append hr).append (e4.drop (off + sz))
    · cases he
  · cases he
theorem SemV.store {o : Oper} {T : TypeId} {x y : Operand} {sz : Nat} {ob' : Ob} (ho : o.op = .store T x y) (hs : tySize P T = some sz) (he : storeV sz σ.ob (σ.eval Γ x) (σ.eval Γ y) = some ob') :
    SemV P Γ o σ (.tup []) (ob') σ.nm := by
  intro ro G a w K Q hr hk
  obtain ⟨ad, w', h1, h2, h3⟩ := VRel.store hs hr.wr (hr.eval x) (hr.eval y) he
  refine ⟨fun _ _ => trivial, ?_⟩
  have hrun : (execOp a.eval o).run P w = .ok .skip w' := by simp [execOp, ho, Instr.storeAt, h1, Instr.sureAddr, h2]
  rw [semAt_skip hrun]
  exact hk G _ w' (.refl G) (VRel.undef G) h3

/-! ### New variables -/
theorem SemV.alloc {o : Oper} {T : TypeId} {z : V} (ho : o.op = .alloc T) (hz : tyZero P T = some z) (hn : z ≠ .any) : SemV P Γ o σ (.ptr σ.ob.length 0) (σ.ob ++ [some z.cells]) σ.nm :=
  SemV.of_val (nm' := σ.nm) fun G a w hr => by
    obtain ⟨zv, h1, rfl⟩ := run_zero hz w
    have hc := (ofVal_rel G zv).cells hn
    obtain ⟨hle, hw⟩ := hr.wr.newObj (E := T) (cvs := zv.cells) hc
    refine ⟨.pointer (some ⟨w.heap.size, 0, none⟩), _, _, ?_, hle, .ptr (addH_new _ _ _), hw⟩
    simp [execOp, ho, Instr.alloc, h1, newVar, newRow, World.alloc_eq]
theorem SemV.box {o : Oper} {T : TypeId} {x : Operand} (ho : o.op = .box T x) (hn : σ.eval Γ x ≠ .any) : SemV P Γ o σ (.ptr σ.ob.length 0) (σ.ob ++ [some (σ.eval Γ x).cells]) σ.nm :=
  SemV.of_val (nm' := σ.nm) fun G a w hr => by
    have hc := (hr.eval x).cells hn
    obtain ⟨hle, hw⟩ := hr.wr.newObj (E := T) (cvs := (a.eval x).cells) hc
    refine ⟨.pointer (some ⟨w.heap.size, 0, none⟩), _, _, ?_, hle, .ptr (addH_new _ _ _), hw⟩
    simp [execOp, ho, Instr.box, newVar, newRow, World.alloc_eq]

/-! ### Addresses -/
def V.shift (d : Nat) : V → Option V
  | .ptr o off => some (.ptr o (off + d))
  | .pel xs k off => some (.pel xs k (off + d))
  | .bp k r off => some (.bp k r (off + d))
  | _ => none
theorem VRel.shift {p q : V} {cp : Value} {d : Nat} (hp : VRel G p cp) (h : p.shift d = some q) : ∃ b off, cp = .pointer (some ⟨b, off, none⟩) ∧ VRel G q (.pointer (some ⟨b, off + d, none⟩)) := by
  cases hp <;> simp only [V.shift] at h <;> try cases h
  case ptr o off b hb => exact ⟨_, _, rfl, .ptr hb⟩
  case bp n r off x hx => exact ⟨_, _, rfl, by rw [Nat.add_assoc, Nat.add_assoc]; exact VRel.bp (i := r) (off := off + d) hx⟩
  case pel xs k off b o0 sz cvs h1 h2 h3 h4 => exact ⟨_, _, rfl, by rw [Nat.add_assoc, Nat.add_assoc]; exact VRel.pel (k := k) (off := off + d) h1 h2 h3 h4⟩
/-- Where a field lies. -/
def fieldOff (P : Program) (T : TypeId) (f : Nat) : Option (Nat × Field) :=
  match P.underlying T with
  | some (.struct fs) => (fs[f]?).map fun x => (x.offset, x)
  | _ => none
theorem SemV.fieldAddr {o : Oper} {T : TypeId} {x : Operand} {f d sz : Nat} {fl : Field} {q : V} (ho : o.op = .fieldAddr T x f) (hf : fieldOff P T f = some (d, fl)) (hs : tySize P fl.type = some sz) (hz : sz ≠ 0) (hq : (σ.eval Γ x).shift d = some q) :
    SemV P Γ o σ q σ.ob σ.nm :=
  SemV.of_pure fun G a w hr => by
    obtain ⟨b, off, h1, h2⟩ := (hr.eval x).shift hq
    unfold fieldOff at hf
    split at hf
    · rename_i fs hu
      simp only [Option.map_eq_some_iff] at hf
      obtain ⟨y, hy, hy2⟩ := hf
      simp only [Prod.mk.injEq] at hy2
      obtain ⟨rfl, rfl⟩ := hy2
      refine ⟨_, ?_, h2⟩
      simp [execOp, ho, Instr.fieldAt, run_underlying hu, hy, h1, Instr.sureAddr, fieldPlace, run_sizeOf hs, hz, add_none]
    · cases hf
end
end Go.Proofs.Ytnjjkobijjdnbaa

/- Elements, parts, comparisons, conversions. -/
set_option linter.unusedVariables false
set_option linter.unusedSimpArgs false
namespace Go.Proofs.Ytnjjkobijjdnbaa
open Go

section
variable {P : Program} {Γ : Nat → Option V} {G : Gh} {ob : Ob} {nm : Nm} {w : World} {σ : St}

theorem VRel.agg_form {cs : List V} {cv : Value} (h : VRel G (.agg cs) cv) : ∃ c, cv = .agg c ∧ Rels G cs c.toList := by
  cases h
  rename_i c hl h
  exact ⟨c, rfl, by simpa using hl, fun j v cv h1 h2 => h j v cv h1 (by simpa using h2)⟩
theorem VRel.mk_agg {cs : List V} {c : Array Value} (h : Rels G cs c.toList) : VRel G (.agg cs) (.agg c) := .agg (by simpa using h.1) (fun j v cv h1 h2 => h.2 j v cv h1 (by simpa using h2))

theorem run_part {T : TypeId} {agg : Bool} {sz off : Nat} {cs : List V} {c : Array Value} {v : V} (ha : tyAgg P T = some agg) (hs : tySize P T = some sz) (hr : Rels G cs c.toList) (h : getV agg sz cs off = some v) (w : World) :
    ∃ cv, (part T c off).run P w = .ok cv w ∧ VRel G v cv := by
  unfold getV at h
  cases agg with
  | false =>
    simp at h
    obtain ⟨cv, h1, h2⟩ := hr.of_get h
    have h1 : c[off]? = some cv := by simpa using h1
    exact ⟨cv, by simp [part, run_isAgg ha, h1], h2⟩
  | true =>
    simp at h
    obtain ⟨hle, rfl⟩ := h
    refine ⟨.agg (c.extract off (off + sz)), by simp [part, run_isAgg ha, run_sizeOf hs], VRel.mk_agg ?_⟩
    have : (c.extract off (off + sz)).toList = (c.toList.drop off).take sz := by
      rw [Array.toList_extract, List.extract_eq_take_drop]
      congr 1
      omega
    rw [this]
    exact (hr.drop off).take sz
def tyField (P : Program) (T : TypeId) (f : Nat) : Option Field :=
  match P.underlying T with
  | some (.struct fs) => fs[f]?
  | _ => none
theorem run_tyField {T : TypeId} {f : Nat} {fl : Field} (h : tyField P T f = some fl) : ∃ fs, P.underlying T = some (.struct fs) ∧ fs[f]? = some fl := by
  unfold tyField at h
  split at h
  · rename_i fs hu; exact ⟨fs, hu, h⟩
  · cases h
theorem SemV.field {o : Oper} {T : TypeId} {x : Operand} {f sz : Nat} {fl : Field} {agg : Bool} {cs : List V} {v : V} (ho : o.op = .field T x f) (hf : tyField P T f = some fl) (ha : tyAgg P fl.type = some agg) (hs : tySize P fl.type = some sz)
    (hx : σ.eval Γ x = .agg cs) (hv : getV agg sz cs fl.offset = some v) : SemV P Γ o σ v σ.ob σ.nm :=
  SemV.of_pure fun G a w hr => by
    obtain ⟨fs, hu, hfs⟩ := run_tyField hf
    have h := hr.eval x
    rw [hx] at h
    obtain ⟨c, he, hc⟩ := h.agg_form
    obtain ⟨cv, h1, h2⟩ := run_part ha hs hc hv w
    exact ⟨cv, by simp [execOp, ho, Instr.field, run_underlying hu, hfs, he, asAgg, h1], h2⟩

/-- The element type of a slice or an array, and the array's length. -/
def tyElem (P : Program) (T : TypeId) : Option (Option Nat × TypeId) :=
  match P.underlying T with
  | some (.slice e) => some (none, e)
  | some (.array n e) => some (some n, e)
  | _ => none
theorem tyElem_slice {T e : TypeId} (h : tyElem P T = some (none, e)) : P.underlying T = some (.slice e) := by
  unfold tyElem at h
  split at h <;> simp at h
  subst h
  assumption
theorem tyElem_array {T e : TypeId} {n : Nat} (h : tyElem P T = some (some n, e)) : P.underlying T = some (.array n e) := by
  unfold tyElem at h
  split at h <;> simp at h
  obtain ⟨rfl, rfl⟩ := h
  assumption

/-- The address of an element. -/
def idxV (sz : Nat) : Option Nat → V → Int → Option V
  | some n, p, i => if 0 ≤ i ∧ i < (n : Int) then p.shift (i.toNat * sz) else none
  | none, .lst _ xs, i =>
    if 0 ≤ i then
      match xs[i.toNat]? with
      | some x => if x.cells.length = sz then some (.pel xs i.toNat 0) else none
      | none => none
    else none
  | none, .sl o off len, i => if 0 ≤ i ∧ i < (len : Int) then some (.ptr o (off + i.toNat * sz)) else none
  | _, _, _ => none
theorem SemV.indexAddr {o : Oper} {T e : TypeId} {x y : Operand} {n : Option Nat} {sz : Nat} {k : IntKind} {i : Int} {q : V} (ho : o.op = .indexAddr T x y) (ht : tyElem P T = some (n, e)) (hs : tySize P e = some sz) (hy : σ.eval Γ y = .i k i)
    (hq : idxV sz n (σ.eval Γ x) i = some q) : SemV P Γ o σ q σ.ob σ.nm :=
  SemV.of_pure fun G a w hr => by
    have hiy := hr.eval y
    rw [hy] at hiy
    have hiy := hiy.int_eq
    have hx := hr.eval x
    cases n with
    | some n =>
      simp only [idxV] at hq
      split at hq
      · rename_i hi
        obtain ⟨b, off, h1, h2⟩ := hx.shift hq
        refine ⟨_, ?_, h2⟩
        simp [execOp, ho, Instr.indexAt, hiy, asIntOf, run_underlying (tyElem_array ht), h1, Instr.sureAddr, hi, run_sizeOf hs, add_none]
      · cases hq
    | none =>
      have hu := tyElem_slice ht
      generalize hv : σ.eval Γ x = v at hq hx
      generalize he : a.eval x = c at hx
      cases v <;> simp only [idxV] at hq <;> try cases hq
      case lst t xs =>
        split at hq
        · rename_i hi
          split at hq
          · rename_i z hz
            split at hq
            · rename_i hzz
              cases hq
              have hlt : i.toNat < xs.length := by
                rcases Nat.lt_or_ge i.toNat xs.length with h' | h'
                · exact h'
                · simp [List.getElem?_eq_none h'] at hz
              cases hx with
              | lst0 => simp at hlt
              | lst1 => simp at hlt
              | lst h1 h2 h3 h4 h5 h6 =>
                rename_i b off cap sz0 cvs
                have hsz : sz0 = sz := (h1 z (List.mem_of_getElem? hz)).symm.trans hzz
                subst hsz
                refine ⟨_, ?_, VRel.pel (k := i.toNat) (off := 0) h1 h2 h3 h4⟩
                have h7 : i < (xs.length : Int) := by omega
                simp [execOp, ho, Instr.indexAt, hiy, asIntOf, run_underlying hu, he, hi, h7, run_sizeOf hs, add_none]
            · cases hq
          · cases hq
        · cases hq
      case sl o' off len =>
        split at hq
        · rename_i hi
          cases hq
          cases hx
          rename_i b cap hb hc
          refine ⟨_, ?_, VRel.ptr (off := off + i.toNat * sz) hb⟩
          simp [execOp, ho, Instr.indexAt, hiy, asIntOf, run_underlying hu, he, hi, run_sizeOf hs, add_none]
        · cases hq

/-- An element of an array's value, or of a string. -/
theorem SemV.index_arr {o : Oper} {T e : TypeId} {x y : Operand} {n sz : Nat} {agg : Bool} {k : IntKind} {i : Int} {cs : List V} {v : V} (ho : o.op = .index T x y) (ht : tyElem P T = some (some n, e)) (ha : tyAgg P e = some agg) (hs : tySize P e = some sz)
    (hx : σ.eval Γ x = .agg cs) (hy : σ.eval Γ y = .i k i) (h0 : 0 ≤ i) (h1 : i < (n : Int)) (hv : getV agg sz cs (i.toNat * sz) = some v) : SemV P Γ o σ v σ.ob σ.nm :=
  SemV.of_pure fun G a w hr => by
    have hiy := hr.eval y
    rw [hy] at hiy
    have hiy := hiy.int_eq
    have h := hr.eval x
    rw [hx] at h
    obtain ⟨c, he, hc⟩ := h.agg_form
    obtain ⟨cv, h2, h3⟩ := run_part ha hs hc hv w
    exact ⟨cv, by simp [execOp, ho, Instr.index, hiy, asIntOf, run_underlying (tyElem_array ht), he, h0, h1, run_sizeOf hs, h2], h3⟩
theorem SemV.index_str {o : Oper} {T : TypeId} {x y : Operand} {k : IntKind} {i : Int} {s : ByteArray} (ho : o.op = .index T x y) (ht : P.underlying T = some .string) (hx : σ.eval Γ x = .s s) (hy : σ.eval Γ y = .i k i) (h0 : 0 ≤ i) (h1 : i.toNat < s.size) :
    SemV P Γ o σ (.i .u8 (s[i.toNat]'h1).toNat) σ.ob σ.nm :=
  SemV.of_pure fun G a w hr => by
    have hiy := hr.eval y
    rw [hy] at hiy
    have hiy := hiy.int_eq
    have h := hr.eval x
    rw [hx] at h
    have h := h.str_eq
    refine ⟨_, ?_, .i _ _⟩
    have hg : s[i.toNat]? = some (s[i.toNat]'h1) := by simp [h1]
    simp [execOp, ho, Instr.index, hiy, asIntOf, run_underlying ht, h, h0, hg]

/-! ### nil checks, unary operators -/
theorem SemV.nilCheck {o : Oper} {x : Operand} (ho : o.op = .nilCheck x) (hx : ∃ v d, (σ.eval Γ x).shift d = some v) : SemV P Γ o σ (σ.eval Γ x) σ.ob σ.nm :=
  SemV.of_pure fun G a w hr => by
    obtain ⟨v, d, hx⟩ := hx
    obtain ⟨b, off, h1, h2⟩ := (hr.eval x).shift hx
    exact ⟨.pointer (some ⟨b, off, none⟩), by simp [execOp, ho, h1], by rw [← h1]; exact hr.eval x⟩
theorem SemV.nilCheck_fn {o : Oper} {x : Operand} {f : FuncId} {p q : List V} (ho : o.op = .nilCheck x) (hx : σ.eval Γ x = .fn (.func f) p q) : SemV P Γ o σ (σ.eval Γ x) σ.ob σ.nm :=
  SemV.of_pure fun G a w hr => by
    have h := hr.eval x
    rw [hx] at h ⊢
    generalize he : a.eval x = c at h
    cases h with
    | fn h1 h2 h3 h4 => exact ⟨_, by simp only [execOp, ho, he]; rfl, .fn h1 h2 h3 h4⟩
def unV (op : UnOp) (v : V) : Option V :=
  match v.bool?, op with
  | some (x, s), .not => some (mkB s (!x))
  | some _, _ => none
  | none, _ =>
    match v.int?, op with
    | some (k, n, s), .neg => some (mkI s k (k.wrap (0 - n)))
    | some (k, n, s), .xor => some (mkI s k (k.wrap (BitVec.ofInt k.bits (if k.signed then -1 else k.max) ^^^ BitVec.ofInt k.bits n).toNat))
    | _, _ => none
theorem SemV.unOp {o : Oper} {op : UnOp} {T : TypeId} {x : Operand} {v : V} (ho : o.op = .unOp op T x) (hv : unV op (σ.eval Γ x) = some v) : SemV P Γ o σ v σ.ob σ.nm :=
  SemV.of_pure fun G a w hr => by
    have h := hr.eval x
    generalize he : a.eval x = c at h
    generalize σ.eval Γ x = y at h hv
    unfold unV at hv
    split at hv
    · rename_i p s _ hp
      have := bool?_eq hp h
      subst this
      cases hv
      exact ⟨_, by simp only [execOp, ho, he]; rfl, mkB_rel _ _ _⟩
    · cases hv
    · split at hv
      · rename_i k n s _ hp
        have := int?_eq hp h
        subst this
        cases hv
        exact ⟨_, by simp only [execOp, ho, he]; rfl, mkI_rel _ _ _ _⟩
      · rename_i k n s _ hp
        have := int?_eq hp h
        subst this
        cases hv
        exact ⟨_, by simp only [execOp, ho, he]; rfl, mkI_rel _ _ _ _⟩
      · cases hv

/-! ### Binary operators -/
theorem run_eqGuard_none {op : BinOp} {T : TypeId} {x y : Operand} {p q : Value} (h : (∀ a b, ¬ (p = .agg a ∧ q = .agg b)) ∧ ¬ (p = .nilIface ∧ q = .nilIface)) (w : World) : (eqGuard op T x y p q).run P w = .ok () w := by
  obtain ⟨h1, h2⟩ := h
  cases p <;> cases q <;> first
    | exact absurd ⟨rfl, rfl⟩ h2
    | exact absurd ⟨rfl, rfl⟩ (h1 _ _)
    | (cases op <;> rfl)
theorem SemV.binOp {o : Oper} {op : BinOp} {T T' : TypeId} {x y : Operand} {v : V} {c : Bool} (ho : o.op = .binOp op T x y T') (hv : binX op (σ.eval Γ x) (σ.eval Γ y) = some (true, c, v)) : SemV P Γ o σ v σ.ob σ.nm :=
  SemV.of_pure fun G a w hr => by
    have hx := hr.eval x
    have hy := hr.eval y
    obtain ⟨⟨cv, h1, h2⟩, hg⟩ := binX_run (P := P) T hx hy hv w
    exact ⟨cv, by simp [execOp, ho, run_eqGuard_none hg w, h1], h2⟩
end
end Go.Proofs.Ytnjjkobijjdnbaa

/- Equality of structs and arrays; comparisons with nil. -/
set_option linter.unusedVariables false
set_option linter.unusedSimpArgs false
namespace Go.Proofs.Ytnjjkobijjdnbaa
open Go

section
variable {P : Program} {Γ : Nat → Option V} {G : Gh} {ob : Ob} {nm : Nm} {w : World} {σ : St}

/-- A value out of a row of cells, by a type. -/
def partV (P : Program) (T : TypeId) (cs : List V) (off : Nat) : Option V :=
  match tyAgg P T, tySize P T with
  | some agg, some sz => getV agg sz cs off
  | _, _ => none
def andO : Option (Bool × Bool) → Option (Bool × Bool) → Option (Bool × Bool)
  | some (a, s), some (b, s') => some (a && b, s || s')
  | _, _ => none
/-- Equality: the answer, and whether it hangs on what is not known. -/
def eqV (P : Program) : Nat → TypeId → V → V → Option (Bool × Bool)
  | 0, _, _, _ => none
  | d + 1, T, x, y =>
    match P.underlying T with
    | some .bool => match x.bool?, y.bool? with | some (a, s), some (b, s') => some (a == b, s || s') | _, _ => none
    | some (.int _) => match x.int?, y.int? with | some (k, a, s), some (k', b, s') => if k = k' then some (a == b, s || s') else none | _, _ => none
    | some .string => match x.str?, y.str? with | some (a, s), some (b, s') => some (a == b, s || s') | _, _ => none
    | some (.pointer _) =>
      match x, y with
      | .nil, .nil => some (true, false)
      | .nil, .ptr _ _ => some (false, false)
      | .nil, .pel _ _ _ => some (false, false)
      | .ptr _ _, .nil => some (false, false)
      | .pel _ _ _, .nil => some (false, false)
      | _, _ => none
    | some (.func _ _ _) =>
      match x, y with
      | .nilfn, .nilfn => some (true, false)
      | .nilfn, .fn _ _ _ => some (false, false)
      | .fn _ _ _, .nilfn => some (false, false)
      | _, _ => none
    | some (.interface _) =>
      match x, y with
      | .nilifc, .ifc _ _ => some (false, false)
      | .ifc _ _, .nilifc => some (false, false)
      | _, _ => none
    | some (.struct fs) =>
      match x, y with
      | .agg xs, .agg ys =>
        if P.stoodInHeld T then none else
        fs.toList.foldr (fun f r => andO (if f.name = "_" then some (true, false) else
          match partV P f.type xs f.offset, partV P f.type ys f.offset with | some p, some q => eqV P d f.type p q | _, _ => none) r) (some (true, false))
      | _, _ => none
    | some (.array n e) =>
      match x, y, tySize P e with
      | .agg xs, .agg ys, some s =>
        (List.range n).foldr (fun i r => andO (match partV P e xs (i * s), partV P e ys (i * s) with | some p, some q => eqV P d e p q | _, _ => none) r) (some (true, false))
      | _, _, _ => none
    | _ => none

theorem partV_run {T : TypeId} {cs : List V} {c : Array Value} {off : Nat} {v : V} (h : partV P T cs off = some v) (hr : Rels G cs c.toList) (w : World) : ∃ cv, (part T c off).run P w = .ok cv w ∧ VRel G v cv := by
  unfold partV at h
  split at h
  · rename_i agg sz ha hs; exact run_part ha hs hr h w
  · cases h

/-- A loop that looks at one thing after the other and stops at the first 'no'. -/
theorem run_all_list {α : Type} (bd : α → Option Bool × PUnit → Sem (ForInStep (Option Bool × PUnit))) (val : α → Option (Bool × Bool)) (w : World) : ∀ (l : List α) (r : Bool) (z : Bool), l.foldr (fun x r => andO (val x) r) (some (true, false)) = some (r, z) →
    (∀ x ∈ l, ∀ t s, val x = some (t, s) → (bd x (none, PUnit.unit)).run P w = .ok (if t then ForInStep.yield (none, PUnit.unit) else ForInStep.done (some false, PUnit.unit)) w) →
    (forIn (m := Sem) l (none, PUnit.unit) bd).run P w = .ok ((if r then none else some false), PUnit.unit) w := by
  intro l
  induction l with
  | nil => intro r z h _; simp at h; obtain ⟨rfl, rfl⟩ := h; simp
  | cons x l ih =>
    intro r z h hg
    simp only [List.foldr_cons] at h
    cases hx : val x with
    | none => simp [hx, andO] at h
    | some t =>
      obtain ⟨t, ts⟩ := t
      generalize hl : l.foldr (fun x r => andO (val x) r) (some (true, false)) = rl at h
      cases rl with
      | none => simp [hx, andO] at h
      | some s =>
        obtain ⟨s, ss⟩ := s
        simp [hx, andO] at h
        obtain ⟨h, _⟩ := h
        subst h
        have h1 := hg x (by simp) t ts hx
        have h2 := ih s ss hl (fun y hy => hg y (by simp [hy]))
        cases t with
        | false => simp [h1]
        | true => simp [h1] at h2 ⊢; exact h2

theorem eqV_run : ∀ (d : Nat) (T : TypeId) (x y : V) (cx cy : Value) (r z : Bool) (w : World), VRel G x cx → VRel G y cy → eqV P d T x y = some (r, z) → ∀ k, (Op.equalIn (d + k) T cx cy).run P w = .ok r w := by
  intro d
  induction d with
  | zero => intro T x y cx cy r z w _ _ h; simp [eqV] at h
  | succ d ih =>
    intro T x y cx cy r z w hx hy h k
    rw [show d + 1 + k = (d + k) + 1 by omega]
    simp only [eqV] at h
    split at h
    · rename_i hu
      split at h <;> simp at h
      rename_i e1 e2
      obtain ⟨h, _⟩ := h
      have := bool?_eq e1 hx; have := bool?_eq e2 hy; subst_vars
      simp [Op.equalIn, run_underlying hu]
    · rename_i kk hu
      split at h <;> simp at h
      rename_i e1 e2
      obtain ⟨h1, h2, _⟩ := h
      have := int?_eq e1 hx; have := int?_eq e2 hy; subst_vars
      simp [Op.equalIn, run_underlying hu]
    · rename_i hu
      split at h <;> simp at h
      rename_i e1 e2
      obtain ⟨h, _⟩ := h
      have := str?_eq e1 hx; have := str?_eq e2 hy; subst_vars
      simp [Op.equalIn, run_underlying hu]
    · rename_i e hu
      split at h <;> simp at h <;> obtain ⟨rfl, _⟩ := h <;> cases hx <;> cases hy <;> simp [Op.equalIn, run_underlying hu]
    · rename_i p1 p2 p3 hu
      split at h <;> simp at h <;> obtain ⟨rfl, _⟩ := h <;> cases hx <;> cases hy <;> simp [Op.equalIn, run_underlying hu]
    · rename_i ms hu
      split at h <;> simp at h <;> obtain ⟨rfl, _⟩ := h <;> cases hx <;> cases hy <;> simp [Op.equalIn, run_underlying hu]
    · rename_i fs hu
      split at h <;> try cases h
      rename_i xs ys
      split at h
      · cases h
      · rename_i hst
        obtain ⟨cxs, rfl, rx⟩ := hx.agg_form
        obtain ⟨cys, rfl, ry⟩ := hy.agg_form
        have hl := run_all_list (P := P) (fun f (_ : Option Bool × PUnit) => (do
            if f.name ≠ "_" then
              if !(← Op.equalIn (d + k) f.type (← part f.type cxs f.offset) (← part f.type cys f.offset)) then pure (ForInStep.done (some false, PUnit.unit)) else pure (ForInStep.yield (none, PUnit.unit))
            else pure (ForInStep.yield (none, PUnit.unit)) : Sem (ForInStep (Option Bool × PUnit)))) _ w fs.toList r z h (fun f hf t ts ht => by
          by_cases hn : f.name = "_"
          · simp [hn] at ht; obtain ⟨rfl, _⟩ := ht; simp [hn]
          · simp only [hn, if_false] at ht
            split at ht
            · rename_i p q hp hq
              obtain ⟨cp, e1, e2⟩ := partV_run hp rx w
              obtain ⟨cq, e3, e4⟩ := partV_run hq ry w
              have e5 := ih f.type p q cp cq t ts w e2 e4 ht k
              cases t <;> simp [hn, e1, e3, e5]
            · cases ht)
        have hst : P.stoodInHeld T = false := by simpa using hst
        simp only [Op.equalIn, Sem.run_bind, run_underlying hu, Result.andThen_ok, run_program, hst]
        rw [← Array.forIn_toList]
        simp only [Bool.false_eq_true, if_false, ne_eq, ite_not, Bool.not_eq_true'] at hl ⊢
        rw [Sem.run_bind]
        refine Eq.trans (congrArg (fun z => Result.andThen z _) hl) ?_
        cases r <;> rfl
    · rename_i n e hu
      split at h <;> try cases h
      rename_i xs ys s hs
      obtain ⟨cxs, rfl, rx⟩ := hx.agg_form
      obtain ⟨cys, rfl, ry⟩ := hy.agg_form
      have hl := run_all_list (P := P) (fun i (_ : Option Bool × PUnit) => (do
          if !(← Op.equalIn (d + k) e (← part e cxs (i * s)) (← part e cys (i * s))) then pure (ForInStep.done (some false, PUnit.unit)) else pure (ForInStep.yield (none, PUnit.unit)) : Sem (ForInStep (Option Bool × PUnit)))) _ w (List.range n) r z h (fun f hf t ts ht => by
        split at ht
        · rename_i p q hp hq
          obtain ⟨cp, e1, e2⟩ := partV_run hp rx w
          obtain ⟨cq, e3, e4⟩ := partV_run hq ry w
          have e5 := ih e p q cp cq t ts w e2 e4 ht k
          cases t <;> simp [e1, e3, e5]
        · cases ht)
      simp only [Op.equalIn, Sem.run_bind, run_underlying hu, Result.andThen_ok, run_program, run_sizeOf hs]
      rw [Std.Legacy.Range.forIn_eq_forIn_range']
      have hsz : ([:n] : Std.Legacy.Range).size = n := by simp [Std.Legacy.Range.size]
      simp only [Bool.not_eq_true', hsz, ← List.range_eq_range'] at hl ⊢
      refine Eq.trans (congrArg (fun z => Result.andThen z _) hl) ?_
      cases r <;> rfl
    · cases h
def V.plainEq : V → Bool
  | .b _ | .sb _ | .nil | .ptr _ _ | .pel _ _ _ | .fn _ _ _ | .nilfn | .ifc _ _ | .nilifc | .agg _ => true
  | _ => false
def eqGuardOk (P : Program) (T : TypeId) : V → V → Bool
  | .agg _, .agg _ => !P.eqGuardType P.depth T
  | .nilifc, .nilifc => false
  | _, _ => true
theorem binOp_eql {op : BinOp} {x y : V} {cx cy : Value} (T : TypeId) (hop : op = .eql ∨ op = .neq) (hx : VRel G x cx) (hy : VRel G y cy) (h1 : x.plainEq = true) (h2 : y.plainEq = true) {r : Bool} {w : World} (h : (Op.equal T cx cy).run P w = .ok r w) :
    (Go.binOp op T cx cy).run P w = .ok (.bool (if op = .eql then r else !r)) w := by
  rcases hop with rfl | rfl <;> cases hx <;> first
    | (simp [V.plainEq] at h1; done)
    | (cases hy <;> first
        | (simp [V.plainEq] at h2; done)
        | simp [Go.binOp, h])
theorem SemV.eq {o : Oper} {op : BinOp} {T T' : TypeId} {x y : Operand} {r z : Bool} (ho : o.op = .binOp op T x y T') (hop : op = .eql ∨ op = .neq) (d : Nat) (hd : d ≤ 10000) (h1 : (σ.eval Γ x).plainEq = true) (h2 : (σ.eval Γ y).plainEq = true)
    (hg : eqGuardOk P T (σ.eval Γ x) (σ.eval Γ y) = true) (hv : eqV P d T (σ.eval Γ x) (σ.eval Γ y) = some (r, z)) : SemV P Γ o σ (mkB z (if op = .eql then r else !r)) σ.ob σ.nm :=
  SemV.of_pure fun G a w hr => by
    have hx := hr.eval x
    have hy := hr.eval y
    have he := eqV_run d T _ _ _ _ r z w hx hy hv (10000 - d)
    rw [show d + (10000 - d) = 10000 by omega] at he
    have hb := binOp_eql (P := P) T hop hx hy h1 h2 (w := w) (r := r) he
    have hgr : (eqGuard op T x y (a.eval x) (a.eval y)).run P w = .ok () w := by
      generalize hcx : a.eval x = cx at hx
      generalize hcy : a.eval y = cy at hy
      by_cases hag : (∃ p q, cx = .agg p ∧ cy = .agg q)
      · obtain ⟨p, q, rfl, rfl⟩ := hag
        have : P.eqGuardType P.depth T = false := by
          generalize σ.eval Γ x = vx at hx h1 hg
          generalize σ.eval Γ y = vy at hy h2 hg
          cases hx <;> first
            | (simp [V.plainEq] at h1; done)
            | (cases hy <;> first
                | (simp [V.plainEq] at h2; done)
                | simpa [eqGuardOk] using hg)
        rcases hop with rfl | rfl <;> simp [eqGuard, this]
      · by_cases hni : cx = .nilIface ∧ cy = .nilIface
        · obtain ⟨rfl, rfl⟩ := hni
          exfalso
          generalize σ.eval Γ x = vx at hx h1 hg
          generalize σ.eval Γ y = vy at hy h2 hg
          cases hx <;> first
            | (simp [V.plainEq] at h1; done)
            | (cases hy <;> first
                | (simp [V.plainEq] at h2; done)
                | (simp [eqGuardOk] at hg; done))
        · exact run_eqGuard_none ⟨fun p q hh => hag ⟨p, q, hh⟩, hni⟩ w
    exact ⟨_, by simp [execOp, ho, hgr, hb], mkB_rel _ _ _⟩
end
end Go.Proofs.Ytnjjkobijjdnbaa

/- Structs, arrays and slices that are built. -/
set_option linter.unusedVariables false
set_option linter.unusedSimpArgs false
namespace Go.Proofs.Ytnjjkobijjdnbaa
open Go

section
variable {P : Program} {Γ : Nat → Option V} {G : Gh} {ob : Ob} {nm : Nm} {w : World} {σ : St}

def V.notAny : V → Bool
  | .any => false
  | _ => true
theorem V.notAny_ne {v : V} (h : v.notAny = true) : v ≠ .any := fun e => by subst e; simp [V.notAny] at h
def splice (cs : List V) (off : Nat) (vs : List V) : List V := cs.take off ++ vs ++ cs.drop (off + vs.length)
def fillV (place : Nat → Option (Nat × Nat)) : List V → List (Nat × V) → Option (List V)
  | cs, [] => some cs
  | cs, (i, v) :: rest =>
    match place i with
    | none => none
    | some (off, size) => if v.notAny ∧ v.cells.length = size ∧ off + size ≤ cs.length then fillV place (splice cs off v.cells) rest else none

theorem foldl_sets (off : Nat) : ∀ (vs : List Value) (k : Nat) (c : Array Value), off + k + vs.length ≤ c.size →
    ((vs.zipIdx k).foldl (fun (cs : Array Value) (x : Value × Nat) => cs.setIfInBounds (off + x.2) x.1) c).toList = c.toList.take (off + k) ++ vs ++ c.toList.drop (off + k + vs.length)
  | [], k, c, _ => by simp
  | v :: rest, k, c, h => by
    simp only [List.length_cons] at h
    have ih := foldl_sets off rest (k + 1) (c.setIfInBounds (off + k) v) (by simp; omega)
    simp only [List.zipIdx_cons, List.foldl_cons]
    rw [ih]
    have e := splice_step c.toList (off + k) v rest (by simp; omega)
    simp only [Array.toList_setIfInBounds, ← Nat.add_assoc, List.length_cons] at e ⊢
    exact e

theorem fill_run {place : Nat → Option (Nat × Nat)} : ∀ (parts : List (Nat × V)) (cparts : List (Nat × Value)) (cs cs' : List V) (c : Array Value), fillV place cs parts = some cs' → Rels G cs c.toList →
    cparts.map (·.1) = parts.map (·.1) → Rels G (parts.map (·.2)) (cparts.map (·.2)) → ∃ c', Instr.fill place c cparts = some c' ∧ Rels G cs' c'.toList
  | [], cparts, cs, cs', c, h, hr, h1, h2 => by
    have : cparts = [] := by simpa using h1
    subst this
    simp [fillV] at h
    subst h
    exact ⟨c, by simp [Instr.fill], hr⟩
  | (i, v) :: rest, cparts, cs, cs', c, h, hr, h1, h2 => by
    cases cparts with
    | nil => simp at h1
    | cons p cparts =>
      obtain ⟨ci, cv⟩ := p
      simp only [List.map_cons, List.cons.injEq] at h1
      obtain ⟨rfl, h1⟩ := h1
      have hv : VRel G v cv := h2.2 0 v cv (by simp) (by simp)
      have h2' : Rels G (rest.map (·.2)) (cparts.map (·.2)) := by
        have := h2.drop 1
        simpa using this
      simp only [fillV] at h
      split at h
      · cases h
      · rename_i off size hp
        split at h
        · rename_i hc
          obtain ⟨n1, n2, n3⟩ := hc
          have hcl := hv.cells (V.notAny_ne n1)
          have hsz : cv.cells.size = size := by have := hcl.1; simp at this; omega
          have hcsz : c.size = cs.length := by have := hr.1; simpa using this
          have hf := foldl_sets off cv.cells.toList 0 c (by simp [hsz]; omega)
          simp only [Nat.add_zero, Array.length_toList, hsz] at hf
          have hr2 : Rels G (splice cs off v.cells) ((cv.cells.toList.zipIdx 0).foldl (fun (cs : Array Value) (x : Value × Nat) => cs.setIfInBounds (off + x.2) x.1) c).toList := by
            rw [hf]
            unfold splice
            rw [n2]
            exact ((hr.take off).append hcl).append (hr.drop (off + size))
          obtain ⟨c', g1, g2⟩ := fill_run rest cparts _ cs' _ h hr2 h1 h2'
          refine ⟨c', ?_, g2⟩
          have hz : cv.cells.zipIdx.foldl (fun cs (x : Value × Nat) => cs.setIfInBounds (off + x.2) x.1) c = (cv.cells.toList.zipIdx 0).foldl (fun (cs : Array Value) (x : Value × Nat) => cs.setIfInBounds (off + x.2) x.1) c := by
            rw [← Array.foldl_toList]
            simp
          simp only [Instr.fill, hp, hsz]
          rw [if_neg (by simp; omega)]
          rw [← g1]
          exact congrArg (fun z => Instr.fill place z cparts) hz
        · cases h

def partsV (σ : St) (Γ : Nat → Option V) (ps : List (Nat × Operand)) : List (Nat × V) := ps.map fun (i, x) => (i, σ.eval Γ x)
theorem parts_rel {a : Act} (hr : Rel Γ G σ a w) (ps : List (Nat × Operand)) :
    ((ps.map fun (i, x) => (i, a.eval x)).map (·.1)) = (partsV σ Γ ps).map (·.1) ∧ Rels G ((partsV σ Γ ps).map (·.2)) ((ps.map fun (i, x) => (i, a.eval x)).map (·.2)) := by
  induction ps with
  | nil => exact ⟨rfl, Rels.nil G⟩
  | cons p ps ih => exact ⟨by simp [partsV] at ih ⊢, Rels.cons (hr.eval p.2) ih.2⟩

/-- The places of a struct's fields. -/
def tyPlaces (P : Program) (T : TypeId) : Option (List (Nat × Nat)) :=
  match P.underlying T with
  | some (.struct fs) => fs.toList.foldr (fun f r => match tySize P f.type, r with | some s, some l => some ((f.offset, s) :: l) | _, _ => none) (some [])
  | _ => none
theorem run_places {fs : List Field} {l : List (Nat × Nat)} (h : fs.foldr (fun f r => match tySize P f.type, r with | some s, some l => some ((f.offset, s) :: l) | _, _ => none) (some []) = some l) (w : World) :
    (fs.mapM (m := Sem) fun f => do pure (f.offset, ← sizeOf f.type)).run P w = .ok l w := by
  induction fs generalizing l with
  | nil => simp at h; subst h; simp
  | cons f fs ih =>
    simp only [List.foldr_cons] at h
    split at h
    · rename_i s l' hs hl
      cases h
      have := ih hl
      simp only [List.mapM_cons, Sem.run_bind, run_sizeOf hs, Result.andThen_ok, Sem.run_pure, this]
    · cases h
theorem SemV.build_struct {o : Oper} {T : TypeId} {ps : Array (Nat × Operand)} {pl : List (Nat × Nat)} {z : V} {cs : List V} (ho : o.op = .build T ps) (hz : tyZero P T = some z) (hn : z.notAny = true) (hp : tyPlaces P T = some pl)
    (hf : fillV (pl[·]?) z.cells (partsV σ Γ ps.toList) = some cs) : SemV P Γ o σ (.agg cs) σ.ob σ.nm :=
  SemV.of_pure fun G a w hr => by
    obtain ⟨zv, h1, rfl⟩ := run_zero hz w
    have hc := (ofVal_rel G zv).cells (V.notAny_ne hn)
    obtain ⟨q1, q2⟩ := parts_rel hr ps.toList
    obtain ⟨c', g1, g2⟩ := fill_run _ _ _ _ _ hf hc q1 q2
    unfold tyPlaces at hp
    split at hp
    · rename_i fs hu
      have hpl := run_places hp w
      refine ⟨.agg c', ?_, VRel.mk_agg g2⟩
      have hm : (fs.mapM (m := Sem) fun f => do pure (f.offset, ← sizeOf f.type)).run P w = .ok pl.toArray w := by
        rw [Array.mapM_eq_mapM_toList]
        simp only [Sem.run_map, hpl, Result.andThen_ok]
      have hm2 : (ps.map fun (x : Nat × Operand) => (x.1, a.eval x.2)).toList = ps.toList.map fun (x : Nat × Operand) => (x.1, a.eval x.2) := by simp
      have g1' : Instr.fill (fun x => (pl.toArray)[x]?) zv.cells (ps.map fun (x : Nat × Operand) => (x.1, a.eval x.2)).toList = some c' := by rw [hm2]; simpa using g1
      simp only [execOp, ho, Instr.build, Sem.run_bind, h1, Result.andThen_ok, run_underlying hu, hm]
      rw [g1']
      simp
    · cases hp
theorem SemV.build_array {o : Oper} {T e : TypeId} {n sz : Nat} {ps : Array (Nat × Operand)} {z : V} {cs : List V} (ho : o.op = .build T ps) (hz : tyZero P T = some z) (hn : z.notAny = true) (ht : tyElem P T = some (some n, e)) (hs : tySize P e = some sz)
    (hf : fillV (fun i => some (i * sz, sz)) z.cells (partsV σ Γ ps.toList) = some cs) : SemV P Γ o σ (.agg cs) σ.ob σ.nm :=
  SemV.of_pure fun G a w hr => by
    obtain ⟨zv, h1, rfl⟩ := run_zero hz w
    have hc := (ofVal_rel G zv).cells (V.notAny_ne hn)
    obtain ⟨q1, q2⟩ := parts_rel hr ps.toList
    obtain ⟨c', g1, g2⟩ := fill_run _ _ _ _ _ hf hc q1 q2
    refine ⟨.agg c', ?_, VRel.mk_agg g2⟩
    have hm2 : (ps.map fun (x : Nat × Operand) => (x.1, a.eval x.2)).toList = ps.toList.map fun (x : Nat × Operand) => (x.1, a.eval x.2) := by simp
    have g1' : Instr.fill (fun i => some (i * sz, sz)) zv.cells (ps.map fun (x : Nat × Operand) => (x.1, a.eval x.2)).toList = some c' := by rw [hm2]; exact g1
    simp only [execOp, ho, Instr.build, Sem.run_bind, h1, Result.andThen_ok, run_underlying (tyElem_array ht), run_sizeOf hs]
    rw [g1']
    simp

/-! ### Slices -/
theorem flat_length {xs : List V} {sz : Nat} (h : ∀ x ∈ xs, x.cells.length = sz) : (flat xs).length = xs.length * sz := VRel.load.flat_length h
theorem flat_get {xs : List V} {sz : Nat} (h : ∀ x ∈ xs, x.cells.length = sz) {k : Nat} {x : V} (hx : xs[k]? = some x) (j : Nat) (v : V) (hj : x.cells[j]? = some v) : (flat xs)[k * sz + j]? = some v := VRel.load.flat_get h hx j v hj
theorem flat_append (xs ys : List V) : flat (xs ++ ys) = flat xs ++ flat ys := by simp [flat]
theorem flat_cons (x : V) (xs : List V) : flat (x :: xs) = x.cells ++ flat xs := by simp [flat]
theorem flat_set {sz : Nat} : ∀ {xs : List V} (h : ∀ x ∈ xs, x.cells.length = sz) {v : V} (hv : v.cells.length = sz) (i : Nat), i < xs.length → flat (xs.set i v) = splice (flat xs) (i * sz) v.cells
  | [], h, v, hv, i, hi => by simp at hi
  | x :: xs, h, v, hv, 0, hi => by
    simp [flat_cons, splice, hv, ← h x (by simp)]
  | x :: xs, h, v, hv, i + 1, hi => by
    have ih := flat_set (xs := xs) (fun y hy => h y (by simp [hy])) hv i (by simpa using hi)
    have hx := h x (by simp)
    simp only [List.set_cons_succ, flat_cons, ih, splice]
    have e1 : (x.cells ++ flat xs).take ((i + 1) * sz) = x.cells ++ (flat xs).take (i * sz) := by
      rw [List.take_append, hx, Nat.succ_mul, List.take_of_length_le (by rw [hx]; omega)]
      congr 2
      omega
    have e2 : (x.cells ++ flat xs).drop ((i + 1) * sz + v.cells.length) = (flat xs).drop (i * sz + v.cells.length) := by
      rw [List.drop_append, hx, Nat.succ_mul, List.drop_of_length_le (by rw [hx]; omega)]
      simp
      congr 1
      omega
    rw [e1, e2]
    simp
def fillE (sz : Nat) : List V → List (Nat × V) → Option (List V)
  | xs, [] => some xs
  | xs, (i, v) :: rest => if v.notAny ∧ v.cells.length = sz ∧ i < xs.length then fillE sz (xs.set i v) rest else none
theorem fillE_fillV {sz : Nat} : ∀ (parts : List (Nat × V)) (xs xs' : List V), (∀ x ∈ xs, x.cells.length = sz) → fillE sz xs parts = some xs' →
    fillV (fun i => some (i * sz, sz)) (flat xs) parts = some (flat xs') ∧ (∀ x ∈ xs', x.cells.length = sz) ∧ xs'.length = xs.length
  | [], xs, xs', h, hf => by simp [fillE] at hf; subst hf; exact ⟨rfl, h, rfl⟩
  | (i, v) :: rest, xs, xs', h, hf => by
    simp only [fillE] at hf
    split at hf
    · rename_i hc
      obtain ⟨h1, h2, h3⟩ := hc
      have hset : ∀ x ∈ xs.set i v, x.cells.length = sz := fun x hx => by
        rcases List.mem_or_eq_of_mem_set hx with hx | rfl
        · exact h x hx
        · exact h2
      obtain ⟨g1, g2, g3⟩ := fillE_fillV rest _ _ hset hf
      refine ⟨?_, g2, by simpa using g3⟩
      simp only [fillV]
      rw [if_pos ⟨h1, h2, by rw [flat_length h, ← Nat.succ_mul]; exact Nat.mul_le_mul_right _ h3⟩, ← flat_set h h2 i h3]
      exact g1
    · cases hf

theorem flat_replicate_get (x : V) (sz : Nat) (hx : x.cells.length = sz) : ∀ (n j : Nat), j < n * sz → (flat (List.replicate n x))[j]? = x.cells[j % sz]?
  | 0, j, h => by simp at h
  | n + 1, j, h => by
    rw [List.replicate_succ, flat_cons]
    by_cases hj : j < sz
    · rw [List.getElem?_append_left (by omega), Nat.mod_eq_of_lt hj]
    · rw [List.getElem?_append_right (by omega), hx, flat_replicate_get x sz hx n (j - sz) (by rw [Nat.succ_mul] at h; omega)]
      congr 1
      exact (Nat.mod_eq_sub_mod (by omega)).symm
theorem zeros_rel {z : Value} {x : V} {sz : Nat} (h : Rels G x.cells z.cells.toList) (hx : x.cells.length = sz) (n : Nat) : Rels G (flat (List.replicate n x)) ((Array.range (n * sz)).map (z.cells[· % z.cells.size]!)).toList := by
  have hzs : z.cells.size = sz := by have := h.1; simp at this; omega
  have hfl := flat_length (xs := List.replicate n x) (sz := sz) (fun y hy => (congrArg (fun q : V => q.cells.length) (List.eq_of_mem_replicate hy)).trans hx)
  refine ⟨by simp [hfl], fun j v cv h1 h2 => ?_⟩
  simp only [Array.toList_map, Array.toList_range, List.getElem?_map] at h2
  by_cases hj : j < n * sz
  · rw [flat_replicate_get x sz hx n j hj] at h1
    rw [List.getElem?_range hj] at h2
    simp only [Option.map_some, Option.some.injEq, hzs] at h2
    subst h2
    have hpos : 0 < sz := by
      rcases Nat.eq_zero_or_pos sz with h0 | h0
      · subst h0; simp at hj
      · exact h0
    have hlt : j % sz < z.cells.size := by rw [hzs]; exact Nat.mod_lt _ hpos
    rw [getElem!_pos z.cells (j % sz) hlt]
    exact h.2 _ v _ h1 (by rw [Array.getElem?_toList, Array.getElem?_eq_getElem hlt])
  · rw [List.getElem?_eq_none (by simp; omega)] at h2
    cases h2

/-- A row of new cells as a list that never changes. -/
theorem VRel.new_list {xs : List V} {sz : Nat} {c : Array Value} {b : Nat} (h1 : ∀ x ∈ xs, x.cells.length = sz) (h2 : Rels G (flat xs) c.toList) (hm : ∀ off, G.M b off = c[off]?) (t : Tag) (cap : Nat) (hc : xs.length ≤ cap) (ht : TagOk G xs.length b 0 cap sz t) :
    VRel G (.lst t xs) (.slice (some ⟨b, 0, none⟩) xs.length cap) :=
  .lst (cvs := c.toList) h1 h2.1 (fun j cv h => by rw [Nat.zero_add, hm]; simpa using h) h2.2 hc ht
theorem SemV.buildSlice {o : Oper} {T e : TypeId} {len sz : Nat} {ps : Array (Nat × Operand)} {z : V} {xs : List V} (ho : o.op = .buildSlice T len ps) (ht : tyElem P T = some (none, e)) (hs : tySize P e = some sz) (h24 : ¬ len * sz > 2 ^ 24)
    (hz : tyZero P e = some z) (hn : z.notAny = true) (hzs : z.cells.length = sz) (hf : fillE sz (List.replicate len z) (partsV σ Γ ps.toList) = some xs) : SemV P Γ o σ (.lst .full xs) σ.ob σ.nm :=
  SemV.of_val (ob' := σ.ob) (nm' := σ.nm) fun G a w hr => by
    obtain ⟨zv, h1, rfl⟩ := run_zero hz w
    have hc := (ofVal_rel G zv).cells (V.notAny_ne hn)
    obtain ⟨g1, g2, g3⟩ := fillE_fillV _ _ _ (fun y hy => by rw [List.eq_of_mem_replicate hy]; exact hzs) hf
    obtain ⟨q1, q2⟩ := parts_rel hr ps.toList
    obtain ⟨c', g4, g5⟩ := fill_run _ _ _ _ _ g1 (zeros_rel hc hzs len) q1 q2
    obtain ⟨hle, hw⟩ := hr.wr.newRow c' e
    have hxl : xs.length = len := by simpa using g3
    refine ⟨.slice (some ⟨w.heap.size, 0, none⟩) len len, _, _, ?_, hle, ?_, hw⟩
    · have hm2 : (ps.map fun (x : Nat × Operand) => (x.1, a.eval x.2)).toList = ps.toList.map fun (x : Nat × Operand) => (x.1, a.eval x.2) := by simp
      have g4' : ∀ (zs : Array Value), zs = (Array.range (len * sz)).map (zv.cells[· % zv.cells.size]!) → Instr.fill (fun i => some (i * sz, sz)) zs (ps.map fun (x : Nat × Operand) => (x.1, a.eval x.2)).toList = some c' := fun zs e => by rw [e, hm2]; exact g4
      by_cases h0 : len * sz = 0
      · have g5' := g4' ((Array.range (len * sz)).map ((#[] : Array Value)[· % (#[] : Array Value).size]!)) (by simp [h0])
        simp only [execOp, ho, Instr.buildSlice, Sem.run_bind, run_underlying (tyElem_slice ht), Result.andThen_ok, run_sizeOf hs, h24, if_false, Sem.run_ite, h0, if_true, Sem.run_pure]
        simp only [h0] at g5'
        rw [g5']
        simp [Go.newRow, World.alloc_eq]
      · have g5' := g4' _ rfl
        simp only [execOp, ho, Instr.buildSlice, Sem.run_bind, run_underlying (tyElem_slice ht), Result.andThen_ok, run_sizeOf hs, h24, if_false, Sem.run_ite, h0, Sem.run_pure, h1]
        rw [g5']
        simp [Go.newRow, World.alloc_eq]
    · have := VRel.new_list (G := G.addM w.heap.size c') (t := .full) (cap := xs.length) g2 (g5.mono hle) (fun off => addM_new _ _ _ _) (Nat.le_refl _) rfl
      rw [hxl] at this
      exact this
end
end Go.Proofs.Ytnjjkobijjdnbaa

/- Calls: values without objects, the frame of a call, the entry of a body. -/
set_option linter.unusedVariables false
set_option linter.unusedSimpArgs false
namespace Go.Proofs.Ytnjjkobijjdnbaa
open Go

mutual
/-- A value without objects: what becomes of pointers to objects, p says; rooms are forgotten. -/
def V.cl (p : V → Option V) : V → Option V
  | .b x => some (.b x)
  | .i k n => some (.i k n)
  | .s x => some (.s x)
  | .sb x => some (.sb x)
  | .si k n => some (.si k n)
  | .ss x => some (.ss x)
  | .nil => some .nil
  | .ptr o off => p (.ptr o off)
  | .sl o off n => p (.sl o off n)
  | .bs sy n off len => p (.bs sy n off len)
  | .bp n j off => p (.bp n j off)
  | .slst t ty l => some (.slst t ty l)
  | .pel xs k off => match V.clL p xs with | some ys => some (.pel ys k off) | none => none
  | .lst t xs => match V.clL p xs with | some ys => some (.lst t ys) | none => none
  | .fn f a c => match V.clL p a, V.clL p c with | some x, some y => some (.fn f x y) | _, _ => none
  | .nilfn => some .nilfn
  | .ifc t x => match V.cl p x with | some y => some (.ifc t y) | none => none
  | .nilifc => some .nilifc
  | .agg cs => match V.clL p cs with | some ys => some (.agg ys) | none => none
  | .tup cs => match V.clL p cs with | some ys => some (.tup ys) | none => none
  | .yl tm ps as bd => p (.yl tm ps as bd)
  | .any => some .any
def V.clL (p : V → Option V) : List V → Option (List V)
  | [] => some []
  | v :: vs => match V.cl p v, V.clL p vs with | some x, some ys => some (x :: ys) | _, _ => none
end
/-- No objects at all. -/
def noPtr (_ : V) : Option V := none
def V.cln (v : V) : Option V := V.cl noPtr v
def V.clnL (l : List V) : Option (List V) := V.clL noPtr l
/-- Objects and buffers that are lent for reading: a pointer to what an object holds; a list. -/
def lendB (p : V → Option V) : BC → Nat → Nat → Option V
  | .cs _ xs, off, len => match V.clL p xs with | some ys => some (.lst .ro ((ys.drop off).take len)) | none => none
  | .arr ty l, off, len => some (.slst .ro ty ((l.drop off).take len))
/-- So deep. -/
def lendN (ob : Ob) (nm : Nm) : Nat → V → Option V
  | 0, _ => none
  | k + 1, v =>
    match v with
    | .ptr o off =>
      match ob[o]? with
      | some (some cs) => match V.clL (lendN ob nm k) cs with | some ys => some (.pel [.agg ys] 0 off) | none => none
      | _ => none
    | .bs sy n off len =>
      match nm[n]? with
      | some (some (.live c)) => lendB (lendN ob nm k) c off len
      | _ => none
    | _ => none
def lendP (ob : Ob) (nm : Nm) : V → Option V := lendN ob nm 3
def V.lndL (ob : Ob) (nm : Nm) (l : List V) : Option (List V) := V.clL (lendP ob nm) l

theorem clnL_len {p : V → Option V} : ∀ {xs ys : List V}, V.clL p xs = some ys → ys.length = xs.length
  | [], ys, h => by simp [V.clL] at h; subst h; rfl
  | x :: xs, ys, h => by
    simp only [V.clL] at h
    split at h
    · rename_i a b h1 h2; cases h; simp [clnL_len h2]
    · cases h
theorem clnL_get {p : V → Option V} : ∀ {xs ys : List V}, V.clL p xs = some ys → ∀ (j : Nat) (v' : V), ys[j]? = some v' → ∃ v, xs[j]? = some v ∧ v.cl p = some v'
  | [], ys, h, j, v', hj => by simp [V.clL] at h; subst h; simp at hj
  | x :: xs, ys, h, j, v', hj => by
    simp only [V.clL] at h
    split at h
    · rename_i a b h1 h2
      cases h
      cases j with
      | zero => simp at hj; subst hj; exact ⟨x, by simp, h1⟩
      | succ j => simp at hj; simpa using clnL_get h2 j v' hj
    · cases h
theorem clnL_append {p : V → Option V} : ∀ {xs ys zs ws : List V}, V.clL p xs = some ys → V.clL p zs = some ws → V.clL p (xs ++ zs) = some (ys ++ ws)
  | [], ys, zs, ws, h, k => by simp [V.clL] at h; subst h; simpa using k
  | x :: xs, ys, zs, ws, h, k => by
    simp only [V.clL] at h
    split at h
    · rename_i a b h1 h2
      cases h
      simp [V.clL, h1, clnL_append h2 k]
    · cases h
theorem cln_cells {p : V → Option V} (hp : ∀ u q, p u = some q → q.cells = [q]) {v v' : V} (h : v.cl p = some v') : V.clL p v.cells = some v'.cells := by
  cases v with
  | agg cs =>
    simp only [V.cl] at h
    split at h
    · rename_i ys hy; cases h; simpa [V.cells] using hy
    · cases h
  | ptr o off =>
    simp only [V.cl] at h
    rw [hp _ v' h]
    simp only [V.cells, V.clL, V.cl, h]
  | sl o off len =>
    simp only [V.cl] at h
    rw [hp _ v' h]
    simp only [V.cells, V.clL, V.cl, h]
  | bs sy n off len =>
    simp only [V.cl] at h
    rw [hp _ v' h]
    simp only [V.cells, V.clL, V.cl, h]
  | bp n j off =>
    simp only [V.cl] at h
    rw [hp _ v' h]
    simp only [V.cells, V.clL, V.cl, h]
  | yl tm ps as bd =>
    simp only [V.cl] at h
    rw [hp _ v' h]
    simp only [V.cells, V.clL, V.cl, h]
  | _ =>
    have hc : v'.cells = [v'] := by
      simp only [V.cl] at h
      repeat' (split at h)
      all_goals first | (cases h; rfl) | cases h
    rw [hc]
    simp only [V.cells, V.clL, h]
theorem clnL_flat {p : V → Option V} (hp : ∀ u q, p u = some q → q.cells = [q]) : ∀ {xs ys : List V}, V.clL p xs = some ys → V.clL p (flat xs) = some (flat ys)
  | [], ys, h => by simp [V.clL] at h; subst h; rfl
  | x :: xs, ys, h => by
    simp only [V.clL] at h
    split at h
    · rename_i a b h1 h2
      cases h
      rw [flat_cons, flat_cons]
      exact clnL_append (cln_cells hp h1) (clnL_flat hp h2)
    · cases h

mutual
/-- Plain data hang on no object. -/
theorem Ty.cells_cl (p : V → Option V) : ∀ (t : Ty) (x : t.den), V.clL p (t.cells x) = some (t.cells x)
  | .bool, x => rfl
  | .int k, x => rfl
  | .str, x => rfl
  | .agg fs, x => Ty.cellss_cl p fs x
  | .slice e, x => by simp only [Ty.cells, V.clL, V.cl]
theorem Ty.cellss_cl (p : V → Option V) : ∀ (ts : List Ty) (x : Ty.dens ts), V.clL p (Ty.cellss ts x) = some (Ty.cellss ts x)
  | [], x => rfl
  | t :: ts, x => by simp only [Ty.cellss]; exact clnL_append (Ty.cells_cl p t x.1) (Ty.cellss_cl p ts x.2)
end
theorem Ty.val_cl (p : V → Option V) (t : Ty) (x : t.den) : (t.val x).cl p = some (t.val x) := by
  cases t with
  | agg fs => simp only [Ty.val, V.cl, Ty.cellss_cl p fs x]
  | _ => simp only [Ty.val, V.cl]
theorem Ty.map_cl (p : V → Option V) (t : Ty) : ∀ (l : List t.den), V.clL p (l.map t.val) = some (l.map t.val)
  | [] => rfl
  | x :: l => by simp only [List.map_cons, V.clL, Ty.val_cl, Ty.map_cl p t l]
theorem VRel.cl {p : V → Option V} {G G' : Gh} (hp : ∀ u q, p u = some q → q.cells = [q]) (hM : ∀ b off cv, G.M b off = some cv → G'.M b off = some cv) (hpr : ∀ u q cu, VRel G u cu → p u = some q → VRel G' q cu)
    {v : V} {cv : Value} (h : VRel G v cv) : ∀ {v' : V}, v.cl p = some v' → VRel G' v' cv := by
  induction h with
  | b x => intro v' h; simp [V.cl] at h; subst h; exact .b x
  | i k n => intro v' h; simp [V.cl] at h; subst h; exact .i k n
  | s x => intro v' h; simp [V.cl] at h; subst h; exact .s x
  | sb x => intro v' h; simp [V.cl] at h; subst h; exact .sb x
  | si k n => intro v' h; simp [V.cl] at h; subst h; exact .si k n
  | ss x => intro v' h; simp [V.cl] at h; subst h; exact .ss x
  | nil => intro v' h; simp [V.cl] at h; subst h; exact .nil
  | ptr h => intro v' h'; simp only [V.cl] at h'; exact hpr _ _ _ (.ptr h) h'
  | sl h hc => intro v' h'; simp only [V.cl] at h'; exact hpr _ _ _ (.sl h hc) h'
  | bs0 sy n off => intro v' h'; simp only [V.cl] at h'; exact hpr _ _ _ (.bs0 sy n off) h'
  | bs1 sy n off b o => intro v' h'; simp only [V.cl] at h'; exact hpr _ _ _ (.bs1 sy n off b o) h'
  | bs h hl => intro v' h'; simp only [V.cl] at h'; exact hpr _ _ _ (.bs h hl) h'
  | bp h => intro v' h'; simp only [V.cl] at h'; exact hpr _ _ _ (.bp h) h'
  | yl h hs hl ht ih => intro v' h'; simp only [V.cl] at h'; exact hpr _ _ _ (.yl h hs hl ht) h'
  | slst h ih =>
    intro v' h'
    simp only [V.cl] at h'
    cases h'
    exact .slst (ih (by simp only [V.cl, Ty.map_cl]))
  | nilfn => intro v' h; simp [V.cl] at h; subst h; exact .nilfn
  | nilifc => intro v' h; simp [V.cl] at h; subst h; exact .nilifc
  | any v => intro v' h; simp [V.cl] at h; subst h; exact .any v
  | ifc h ih =>
    intro v' h
    simp only [V.cl] at h
    split at h
    · rename_i y hy; cases h; exact .ifc (ih hy)
    · cases h
  | lst0 t =>
    intro v' h
    simp [V.cl, V.clL] at h
    subst h
    exact .lst0 _
  | lst1 p cap =>
    intro v' h
    simp [V.cl, V.clL] at h
    subst h
    exact .lst1 _ _
  | @lst t xs b off cap sz cvs hsz hl hm hv hc ht ih =>
    intro v' h
    simp only [V.cl] at h
    split at h
    · rename_i ys hy
      cases h
      have hlen := clnL_len hy
      have hf := clnL_flat hp hy
      rw [← hlen]
      refine .lst (sz := sz) (cvs := cvs) (fun x hx => ?_) (by rw [hl, clnL_len hf]) (fun j cv h => hM _ _ _ (hm j cv h)) (fun j v cv h1 h2 => ?_) (by omega) ?_
      · obtain ⟨j, hj⟩ := List.getElem?_of_mem hx
        obtain ⟨z, hz, hcz⟩ := clnL_get hy j x hj
        rw [clnL_len (cln_cells hp hcz)]
        exact hsz z (List.mem_of_getElem? hz)
      · obtain ⟨z, hz, hcz⟩ := clnL_get hf j v h1
        exact ih j z cv hz h2 hcz
      · cases t with
        | ro => trivial
        | full => simp only [TagOk] at ht ⊢; omega
    · cases h
  | @pel xs k off b o0 sz cvs hsz hl hm hv ih =>
    intro v' h
    simp only [V.cl] at h
    split at h
    · rename_i ys hy
      cases h
      have hf := clnL_flat hp hy
      refine .pel (sz := sz) (cvs := cvs) (fun x hx => ?_) (by rw [hl, clnL_len hf]) (fun j cv h => hM _ _ _ (hm j cv h)) (fun j v cv h1 h2 => ?_)
      · obtain ⟨j, hj⟩ := List.getElem?_of_mem hx
        obtain ⟨z, hz, hcz⟩ := clnL_get hy j x hj
        rw [clnL_len (cln_cells hp hcz)]
        exact hsz z (List.mem_of_getElem? hz)
      · obtain ⟨z, hz, hcz⟩ := clnL_get hf j v h1
        exact ih j z cv hz h2 hcz
    · cases h
  | @fn f xs ys a c ha hc h1 h2 i1 i2 =>
    intro v' h
    simp only [V.cl] at h
    split at h
    · rename_i x y hx hy
      cases h
      refine .fn (by rw [ha, clnL_len hx]) (by rw [hc, clnL_len hy]) (fun j v cv g1 g2 => ?_) (fun j v cv g1 g2 => ?_)
      · obtain ⟨z, hz, hcz⟩ := clnL_get hx j v g1
        exact i1 j z cv hz g2 hcz
      · obtain ⟨z, hz, hcz⟩ := clnL_get hy j v g1
        exact i2 j z cv hz g2 hcz
    · cases h
  | @agg cs c hl h1 ih =>
    intro v' h
    simp only [V.cl] at h
    split at h
    · rename_i ys hy
      cases h
      refine .agg (by rw [hl, clnL_len hy]) (fun j v cv g1 g2 => ?_)
      obtain ⟨z, hz, hcz⟩ := clnL_get hy j v g1
      exact ih j z cv hz g2 hcz
    · cases h
  | @tup cs c hl h1 ih =>
    intro v' h
    simp only [V.cl] at h
    split at h
    · rename_i ys hy
      cases h
      refine .tup (by rw [hl, clnL_len hy]) (fun j v cv g1 g2 => ?_)
      obtain ⟨z, hz, hcz⟩ := clnL_get hy j v g1
      exact ih j z cv hz g2 hcz
    · cases h
theorem noP {u : V} {q : V} {α : Prop} (h : noPtr u = some q) : α := by cases h
theorem VRel.clean {G : Gh} {v : V} {cv : Value} (h : VRel G v cv) {v' : V} (hc : v.cln = some v') : VRel G.bare v' cv :=
  VRel.cl (p := noPtr) (G := G) (G' := G.bare) (fun _ _ h => noP h) (fun _ _ _ h => h) (fun _ _ _ _ h => noP h) h hc
theorem Rels.cl {p : V → Option V} {G G' : Gh} (hp : ∀ u q, p u = some q → q.cells = [q]) (hM : ∀ b off cv, G.M b off = some cv → G'.M b off = some cv) (hpr : ∀ u q cu, VRel G u cu → p u = some q → VRel G' q cu)
    {vs vs' : List V} {cvs : List Value} (h : Rels G vs cvs) (hc : V.clL p vs = some vs') : Rels G' vs' cvs :=
  ⟨by rw [h.1, clnL_len hc], fun j v cv h1 h2 => by
    obtain ⟨z, hz, hcz⟩ := clnL_get hc j v h1
    exact VRel.cl hp hM hpr (h.2 j z cv hz h2) hcz⟩
theorem Rels.clean {G : Gh} {vs vs' : List V} {cvs : List Value} (h : Rels G vs cvs) (hc : V.clnL vs = some vs') : Rels G.bare vs' cvs :=
  Rels.cl (p := noPtr) (G := G) (G' := G.bare) (fun _ _ h => noP h) (fun _ _ _ h => h) (fun _ _ _ _ h => noP h) h hc
def V.sc : V → Bool
  | .b _ | .i _ _ | .s _ | .sb _ | .si _ _ | .ss _ | .nil | .nilfn | .nilifc => true
  | _ => false
theorem VRel.sc {G : Gh} (G' : Gh) {v : V} {cv : Value} (h : VRel G v cv) (hs : v.sc = true) : VRel G' v cv := by
  cases h <;> first | (simp [V.sc] at hs; done) | constructor
theorem VRel.agg_sc {G : Gh} (G' : Gh) {cs : List V} {cv : Value} (h : VRel G (.agg cs) cv) (hs : cs.all V.sc = true) : VRel G' (.agg cs) cv := by
  obtain ⟨c, rfl, hc⟩ := h.agg_form
  refine VRel.mk_agg ⟨hc.1, fun j v cv h1 h2 => (hc.2 j v cv h1 h2).sc G' ?_⟩
  exact List.all_eq_true.1 hs v (List.mem_of_getElem? h1)
/-- A value that hangs on no memory. -/
def V.flt : V → Bool
  | .agg cs => cs.all V.sc
  | .tup cs => cs.all fun c => match c with | .agg ds => ds.all V.sc | c => c.sc
  | v => v.sc
theorem VRel.flt {G : Gh} (G' : Gh) {v : V} {cv : Value} (h : VRel G v cv) (hs : v.flt = true) : VRel G' v cv := by
  cases v with
  | agg cs => exact h.agg_sc G' hs
  | tup cs =>
    cases h
    rename_i c hl hh
    refine .tup hl fun j v cv h1 h2 => ?_
    have := hh j v cv h1 h2
    have hv := List.all_eq_true.1 hs v (List.mem_of_getElem? h1)
    cases v with
    | agg ds => exact this.agg_sc G' hv
    | _ => exact this.sc G' hv
  | _ => exact h.sc G' hs

section
variable {P : Program} {Γ : Nat → Option V} {G : Gh} {ob : Ob} {nm : Nm} {w : World} {σ : St}

/-- What a function does that is handed no object it does beside any objects. -/
theorem SemF.frame {f : FuncId} {args args' : List V} {res : V} (h : SemF P Γ f args' [] [] res [] []) (hc : V.clnL args = some args') (ob : Ob) (nm : Nm) : SemF P Γ f args ob nm res ob nm := by
  intro G w cargs hw hr
  let G0 : Gh := { M := G.M, H := fun _ => none, T := fun _ => none, D := fun _ => none, kh := 0, kt := 0, w0 := .of w, M0 := G.M, kd := 0 }
  have hb0 : G.bare.sub G0 := ⟨fun _ _ _ h => h, (fun _ _ h => by cases h), (fun _ _ h => by cases h), (fun _ _ h => by cases h)⟩
  have hw0 : WRel Γ G0 [] [] w := {
    m := hw.m
    hob := fun o cs b h1 h2 => by simp at h1
    hlt := fun o b h1 => by cases h1
    habs := fun o h1 => rfl
    inj := fun o o' b h1 h2 => by cases h1
    hnm := fun n c x h1 h2 => by simp at h1
    hno := fun n c h1 => by simp at h1
    nmd := fun n n' c c' x x' _ h1 => by simp at h1
    tabs := fun n _ => rfl
    tlt := fun n t h1 => by cases h1
    dd := fun l o h => by cases h
    kdle := Nat.zero_le _
    gl := fun g v hg => (hw.gl g v hg).mono' hb0.bare
    mold := fun b off _ => rfl
    os := rfl
    tape := rfl
    output := rfl
    size := Nat.le_refl _
    block := fun k _ => rfl }
  refine (h G0 w cargs hw0 ((hr.clean hc).mono' hb0)).mono ?_
  rintro e w' ⟨cv, G1, rfl, hle, hv, hw1⟩
  have hH : ∀ o b, G1.H o ≠ some b := fun o b hh => by have := (hw1.hlt o b hh).1; simp at this
  have hT : ∀ n t, G1.T n ≠ some t := fun n t hh => by have := hw1.tlt n t hh; simp at this
  have hw0e : G1.w0 = .of w := hle.w0
  have hm0e : G1.M0 = G.M := hle.m0
  let G2 : Gh := { M := G1.M, H := G.H, T := G.T, D := fun l => match G.D l with | some o => some o | none => G1.D l, kh := G.kh, kt := G.kt, w0 := G.w0, M0 := G.M0, kd := G.kd }
  have hdn : ∀ l o, G1.D l = some o → w.heap.size ≤ l := fun l o hl => by have := (hw1.dd l o hl).2.2; rw [hw0e] at this; exact W0.own_of this
  have hs : G1.sub G2 := ⟨fun _ _ _ h => h, fun o b hh => absurd hh (hH o b), fun n t hh => absurd hh (hT n t), fun l o hl => by
    show (match G.D l with | some o => some o | none => G1.D l) = _
    rw [hw.dnew (hdn l o hl)]
    exact hl⟩
  have hle2 : G.le G2 := ⟨⟨hle.m, fun _ _ h => h, fun _ _ h => h, fun l o hl => by
    show (match G.D l with | some o => some o | none => G1.D l) = _
    rw [hl]⟩, rfl, rfl, rfl, rfl, rfl⟩
  have hblk : ∀ k, k < w.heap.size → w'.heap[k]? = w.heap[k]? := fun k hk => by
    have := hw1.block k (by rw [hw0e]; exact W0.not_of hk)
    rwa [hw0e] at this
  have hmo : ∀ b off, b < w.heap.size → G1.M b off = G.M b off := fun b off hb => by
    have := hw1.mold b off (by rw [hw0e]; exact W0.not_of hb)
    rwa [hm0e] at this
  have hsz : w.heap.size ≤ w'.heap.size := by have := hw1.size; rwa [hw0e] at this
  refine ⟨cv, G2, rfl, hle2, hv.mono' hs, ?_⟩
  exact {
    m := hw1.m
    hob := fun o cs b h1 h2 => by
      obtain ⟨q1, ⟨q2, q3, q4, q5, q6, q7, q8⟩, q9⟩ := hw.hob o cs b h1 h2
      have hlt := (hw.hlt o b h2).2
      exact ⟨q1, ⟨q2, q3, q4, by rw [hblk b hlt]; exact q5, q6, q7, q8.mono hle2⟩, fun off => by show G1.M b off = none; rw [hmo b off hlt]; exact q9 off⟩
    hlt := fun o b h1 => ⟨(hw.hlt o b h1).1, Nat.lt_of_lt_of_le (hw.hlt o b h1).2 hsz⟩
    habs := hw.habs
    inj := hw.inj
    hnm := fun n c x h1 h2 => (hw.hnm n c x h1 h2).to (hblk _ (hw.hnm n c x h1 h2).lt) (fun _ _ h => h.mono hle2) (fun _ h => h) (fun off h => by show G1.M x.b off = none; rw [hmo _ off (hw.hnm n c x h1 h2).lt]; exact h) (hw.hnm n c x h1 h2).obj
    hno := hw.hno
    nmd := hw.nmd
    tabs := hw.tabs
    tlt := hw.tlt
    dd := fun l o hl => by
      have hl : (match G.D l with | some o => some o | none => G1.D l) = some o := hl
      cases hg : G.D l with
      | some q =>
        rw [hg] at hl
        cases hl
        have hd := hw.dd l _ hg
        exact ⟨(hblk l (hw.dlt hg)).trans hd.1, hd.2⟩
      | none =>
        rw [hg] at hl
        have hd := hw1.dd l _ hl
        exact ⟨hd.1, hd.2.1, .inl (Nat.le_trans hw.size (hdn l o hl))⟩
    kdle := Nat.le_trans hw.kdle hsz
    gl := fun g v hg => (hw.gl g v hg).mono' (hle2.toSub.bare)
    mold := fun b off hb => by
      show G1.M b off = G.M0 b off
      rw [hmo b off (Nat.lt_of_lt_of_le (W0.own_lt hb) hw.size)]
      exact hw.mold b off hb
    os := by have := hw1.os; rw [hw0e] at this; exact this.trans hw.os
    tape := by have := hw1.tape; rw [hw0e] at this; exact this.trans hw.tape
    output := by have := hw1.output; rw [hw0e] at this; exact this.trans hw.output
    size := Nat.le_trans hw.size hsz
    block := fun k hk => (hblk k (Nat.lt_of_lt_of_le (W0.own_lt hk) hw.size)).trans (hw.block k hk) }

theorem lendB_cell (p : V → Option V) (c : BC) (off len : Nat) (q : V) (h : lendB p c off len = some q) : q.cells = [q] := by
  cases c with
  | cs sz xs =>
    simp only [lendB] at h
    split at h
    · cases h; rfl
    · cases h
  | arr ty l => simp only [lendB] at h; cases h; rfl
theorem lendN_cell (ob : Ob) (nm : Nm) : ∀ (k : Nat) (u q : V), lendN ob nm k u = some q → q.cells = [q]
  | 0, u, q, h => by cases h
  | k + 1, u, q, h => by
    simp only [lendN] at h
    split at h
    · split at h
      · split at h
        · cases h; rfl
        · cases h
      · cases h
    · split at h
      · exact lendB_cell _ _ _ _ _ h
      · cases h
    · cases h
theorem lendP_cell (ob : Ob) (nm : Nm) : ∀ u q, lendP ob nm u = some q → q.cells = [q] := lendN_cell ob nm 3
theorem flat_take_drop {sz : Nat} {xs : List V} (h : ∀ x ∈ xs, x.cells.length = sz) (off len : Nat) : flat ((xs.drop off).take len) = ((flat xs).drop (off * sz)).take (len * sz) := by
  have h1 : ∀ (xs : List V) (off : Nat), (∀ x ∈ xs, x.cells.length = sz) → flat (xs.drop off) = (flat xs).drop (off * sz) := by
    intro xs
    induction xs with
    | nil => intro off _; simp [flat]
    | cons x xs ih =>
      intro off hx
      cases off with
      | zero => simp
      | succ off =>
        have hc := hx x (by simp)
        have e1 : x.cells.drop (off * sz + sz) = [] := List.drop_eq_nil_of_le (by omega)
        rw [List.drop_succ_cons, ih off (fun y hy => hx y (by simp [hy])), flat_cons, List.drop_append, Nat.succ_mul, e1, List.nil_append, hc, Nat.add_sub_cancel]
  have h2 : ∀ (xs : List V) (len : Nat), (∀ x ∈ xs, x.cells.length = sz) → flat (xs.take len) = (flat xs).take (len * sz) := by
    intro xs
    induction xs with
    | nil => intro len _; simp [flat]
    | cons x xs ih =>
      intro len hx
      cases len with
      | zero => simp [flat]
      | succ len =>
        have hc := hx x (by simp)
        have e1 : x.cells.take (len * sz + sz) = x.cells := List.take_of_length_le (by omega)
        rw [List.take_succ_cons, flat_cons, ih len (fun y hy => hx y (by simp [hy])), flat_cons, List.take_append, Nat.succ_mul, e1, hc, Nat.add_sub_cancel]
  rw [h2 _ _ (fun x hx => h x (List.mem_of_mem_drop hx)), h1 _ _ h]
/-- A slice of a buffer as a list that never changes, where its cells never change. -/
theorem lend_list {G' : Gh} {x : Tail} {xs ys : List V} {sz off len : Nat} {cvs : Array Value} (hsz : ∀ v ∈ xs, v.cells.length = sz) (hx : x.sz = sz) (hl : off + len ≤ xs.length) (hc : off + len ≤ x.cap)
    (hy : ys.length = xs.length) (hysz : ∀ v ∈ ys, v.cells.length = sz) (hr : Rels G' (flat ys) ((cvs.toList.drop x.lo).take (flat ys).length)) (hm : ∀ j, j < (flat ys).length → G'.M x.b (x.lo + j) = cvs[x.lo + j]?) :
    VRel G' (.lst .ro ((ys.drop off).take len)) (.slice (some ⟨x.b, x.lo + off * x.sz, none⟩) len (x.cap - off)) := by
  · have hl2 : ((ys.drop off).take len).length = len := by simp; omega
    have hfl := flat_length hysz
    have e := flat_take_drop hysz off len
    have key : VRel G' (.lst .ro ((ys.drop off).take len)) (.slice (some ⟨x.b, x.lo + off * x.sz, none⟩) ((ys.drop off).take len).length (x.cap - off)) := by
      refine VRel.lst (sz := sz) (cvs := ((((cvs.toList.drop x.lo).take (flat ys).length).drop (off * sz)).take (len * sz))) (fun v hv => hysz v (List.mem_of_mem_drop (List.mem_of_mem_take hv))) ?_ ?_ ?_ (by rw [hl2]; omega) trivial
      · rw [e]
        have := hr.1
        simp only [List.length_take, List.length_drop] at this ⊢
        omega
      · intro j cv hj
        rw [List.getElem?_take, List.getElem?_drop, List.getElem?_take] at hj
        split at hj
        · split at hj
          · rename_i h1 h2
            rw [hx, Nat.add_assoc, hm _ h2]
            rw [List.getElem?_drop] at hj
            simpa using hj
          · cases hj
        · cases hj
      · intro j v cv h1 h2
        rw [e] at h1
        exact ((hr.drop (off * sz)).take (len * sz)).2 j v cv h1 h2
    rw [hl2] at key
    exact key
/-- The blocks of what is lent. -/
def Lent (G : Gh) (ob : Ob) (nm : Nm) (b : Nat) : Prop := (∃ o cs, ob[o]? = some (some cs) ∧ G.H o = some b) ∨ ∃ n c x, nm[n]? = some (some (.live c)) ∧ G.T n = some x ∧ x.b = b
theorem lendN_rel {G0 : Gh} (hw : WRel Γ G ob nm w) (hM0 : ∀ b, Lent G ob nm b → ∀ off, G0.M b off = w.cell? ⟨b, off, none⟩) (hb0 : G.bare.sub G0) : ∀ (k : Nat) (u q : V) (cu : Value), VRel G u cu → lendN ob nm k u = some q → VRel G0 q cu := by
  intro k
  induction k with
  | zero => intro u q cu hu hq; cases hq
  | succ k ih =>
  intro u q cu hu hq
  have hMM : ∀ b off cv, G.M b off = some cv → G0.M b off = some cv := hb0.m
  simp only [lendN] at hq
  split at hq
  · rename_i o off
    split at hq
    · rename_i cs hcs
      split at hq
      · rename_i ys hys
        cases hq
        cases hu
        rename_i b hH
        obtain ⟨_, ⟨c, E, fr, e1, e2, e3, e4⟩, _⟩ := hw.hob o cs b hcs hH
        have e5 : Rels G0 ys (c.toList.take cs.length) := Rels.cl (lendN_cell ob nm k) hMM ih e4 hys
        have hM1 : ∀ off, G0.M b off = w.cell? ⟨b, off, none⟩ := hM0 b (.inl ⟨o, cs, hcs, hH⟩)
        have := VRel.pel (G := G0) (xs := [.agg ys]) (k := 0) (off := off) (b := b) (o0 := 0) (sz := ys.length) (cvs := c.toList.take cs.length)
          (by simp [V.cells]) (by simpa [flat, V.cells] using e5.1) (fun j cv hj => by
            rw [hM1, Nat.zero_add, cell_row e1]
            rw [List.getElem?_take] at hj
            split at hj
            · simpa using hj
            · cases hj) (fun j v cv q1 q2 => e5.2 j v cv (by simpa [flat, V.cells] using q1) q2)
        simpa using this
      · cases hq
    · cases hq
  · rename_i sy n off len
    split at hq
    · rename_i c hcn
      cases hu with
      | bs0 =>
        cases c with
        | cs sz xs =>
          simp only [lendB] at hq
          split at hq
          · cases hq; simp only [List.take_zero]; exact .lst0 _
          · cases hq
        | arr ty l => simp only [lendB] at hq; cases hq; refine .slst ?_; simp only [List.take_zero, List.map_nil]; exact .lst0 _
      | bs1 =>
        have nil1 : ∀ (b o : Nat), VRel G0 (.lst .ro []) (.slice (some ⟨b, o, none⟩) 0 0) := fun b o => VRel.lst (sz := 0) (xs := []) (cvs := []) (by simp) (by simp [flat]) (fun j cv hj => by simp at hj) (fun j v cv hj => by simp [flat] at hj) (by simp) trivial
        cases c with
        | cs sz xs =>
          simp only [lendB] at hq
          split at hq
          · cases hq; simp only [List.take_zero]; exact nil1 _ _
          · cases hq
        | arr ty l => simp only [lendB] at hq; cases hq; refine .slst ?_; simp only [List.take_zero, List.map_nil]; exact nil1 _ _
      | @bs _ _ _ _ x hT hl =>
        have B := hw.hnm n c x hcn hT
        obtain ⟨cvs, E, fr, e1, e2, e3, e4⟩ := B.row
        have hM1 : ∀ off, G0.M x.b off = cvs[off]? := fun off => (hM0 x.b (.inr ⟨n, c, x, hcn, hT, rfl⟩) off).trans (cell_row e1)
        have hcl := B.len
        have hcap := B.cap
        cases c with
        | cs sz xs =>
          simp only [lendB] at hq
          split at hq
          · rename_i ys hys
            cases hq
            have e5 : Rels G0 (flat ys) ((cvs.toList.drop x.lo).take (flat ys).length) := by
              have := Rels.cl (lendN_cell ob nm k) hMM ih e4 (clnL_flat (lendN_cell ob nm k) hys)
              rwa [clnL_len (clnL_flat (lendN_cell ob nm k) hys)]
            simp only [BC.len] at hcl
            refine lend_list (sz := sz) (xs := xs) B.el B.sz (by omega) (by omega) (clnL_len hys) (fun v hv => ?_) e5 (fun j _ => hM1 _)
            obtain ⟨j, hj⟩ := List.getElem?_of_mem hv
            obtain ⟨z, hz, hcz⟩ := clnL_get hys j v hj
            rw [clnL_len (cln_cells (lendN_cell ob nm k) hcz)]
            exact B.el z (List.mem_of_getElem? hz)
          · cases hq
        | arr ty l =>
          simp only [lendB] at hq
          cases hq
          have hys : V.clnL (l.map ty.val) = some (l.map ty.val) := Ty.map_cl noPtr ty l
          have e5 : Rels G0 (flat (l.map ty.val)) ((cvs.toList.drop x.lo).take (flat (l.map ty.val)).length) := (e4.clean (clnL_flat (p := noPtr) (fun _ _ h => noP h) hys)).mono' hb0
          simp only [BC.len] at hcl
          refine .slst ?_
          rw [List.map_take, List.map_drop]
          exact lend_list (sz := ty.size) (xs := l.map ty.val) B.el B.sz (by simp; omega) (by omega) rfl B.el e5 (fun j _ => hM1 _)
    · cases hq
  · cases hq
theorem lendP_rel {G0 : Gh} (hw : WRel Γ G ob nm w) (hM0 : ∀ b, Lent G ob nm b → ∀ off, G0.M b off = w.cell? ⟨b, off, none⟩) (hb0 : G.bare.sub G0) (u q : V) (cu : Value) (hu : VRel G u cu) (hq : lendP ob nm u = some q) : VRel G0 q cu := lendN_rel hw hM0 hb0 3 u q cu hu hq
open Classical in
theorem SemF.lend {f : FuncId} {args args' : List V} {res : V} (h : SemF P Γ f args' [] [] res [] []) (hc : V.lndL ob nm args = some args') (hf : res.flt = true) : SemF P Γ f args ob nm res ob nm := by
  intro G w cargs hw hr
  let M1 : Nat → Nat → Option Value := fun b off => if Lent G ob nm b then w.cell? ⟨b, off, none⟩ else G.M b off
  have hM : ∀ b off cv, G.M b off = some cv → M1 b off = some cv := fun b off cv hm => by
    show (if _ then _ else _) = _
    split
    · exact hw.m b off cv hm
    · exact hm
  let G0 : Gh := { M := M1, H := fun _ => none, T := fun _ => none, D := fun _ => none, kh := 0, kt := 0, w0 := .of w, M0 := M1, kd := 0 }
  have hb0 : G.bare.sub G0 := ⟨hM, (fun _ _ h => by cases h), (fun _ _ h => by cases h), (fun _ _ h => by cases h)⟩
  have hw0 : WRel Γ G0 [] [] w := {
    m := fun b off cv hm => by
      have hm : (if Lent G ob nm b then w.cell? ⟨b, off, none⟩ else G.M b off) = some cv := hm
      split at hm
      · exact hm
      · exact hw.m b off cv hm
    hob := fun o cs b h1 h2 => by simp at h1
    hlt := fun o b h1 => by cases h1
    habs := fun o h1 => rfl
    inj := fun o o' b h1 h2 => by cases h1
    hnm := fun n c x h1 h2 => by simp at h1
    hno := fun n c h1 => by simp at h1
    nmd := fun n n' c c' x x' _ h1 => by simp at h1
    tabs := fun n _ => rfl
    tlt := fun n t h1 => by cases h1
    dd := fun l o h => by cases h
    kdle := Nat.zero_le _
    gl := fun g v hg => (hw.gl g v hg).mono' hb0.bare
    mold := fun b off _ => rfl
    os := rfl
    tape := rfl
    output := rfl
    size := Nat.le_refl _
    block := fun k _ => rfl }
  have hargs : Rels G0 args' cargs := Rels.cl (G' := G0) (lendP_cell ob nm) hM (lendP_rel hw (fun b hb off => if_pos hb) hb0) hr hc
  refine (h G0 w cargs hw0 hargs).mono ?_
  rintro e w' ⟨cv, G1, rfl, hle, hv, hw1⟩
  have hw0e : G1.w0 = .of w := hle.w0
  have hblk : ∀ k, k < w.heap.size → w'.heap[k]? = w.heap[k]? := fun k hk => by
    have := hw1.block k (by rw [hw0e]; exact W0.not_of hk)
    rwa [hw0e] at this
  have hsz : w.heap.size ≤ w'.heap.size := by have := hw1.size; rwa [hw0e] at this
  refine ⟨cv, G, rfl, .refl G, hv.flt G hf, hw.keep hsz hblk ?_ ?_ ?_⟩
  · have := hw1.os; rwa [hw0e] at this
  · have := hw1.tape; rwa [hw0e] at this
  · have := hw1.output; rwa [hw0e] at this

/-! ### A call in a region -/
theorem SemV.call {o : Oper} {c : Call} {x : Operand} {f : FuncId} {fn : Func} {first cap : List V} {res : V} {ob' : Ob} {nm' : Nm} (ho : o.op = .call c) (hc : c.callee = .value x) (hx : σ.eval Γ x = .fn (.func f) first cap)
    (hf : P.funcs[f]? = some fn) (hb : fn.body.isSome = true) (hn : (fn.name == "runtime.NumGoroutine") = false) (h : SemF P Γ f (first ++ c.args.toList.map (σ.eval Γ) ++ cap) σ.ob σ.nm res ob' nm') :
    SemV P Γ o σ res (ob') (nm') := by
  intro ro G a w K Q hr hk
  have hfx := hr.eval x
  rw [hx] at hfx
  generalize he : a.eval x = cx at hfx
  cases hfx with
  | @fn _ _ _ ca cc ha hcc h1 h2 =>
    have r1 : Rels G first ca.toList := ⟨by simpa using ha, fun j v cv g1 g2 => h1 j v cv g1 (by simpa using g2)⟩
    have r2 : Rels G cap cc.toList := ⟨by simpa using hcc, fun j v cv g1 g2 => h2 j v cv g1 (by simpa using g2)⟩
    have r3 : Rels G (c.args.toList.map (σ.eval Γ)) (c.args.toList.map a.eval) := by
      refine ⟨by simp, fun j v cv g1 g2 => ?_⟩
      simp only [List.getElem?_map, Option.map_eq_some_iff] at g1 g2
      obtain ⟨p, hp, rfl⟩ := g1
      obtain ⟨q, hq, rfl⟩ := g2
      rw [hp] at hq
      cases hq
      exact hr.eval p
    have hcall := h G w _ hr.wr ((r1.append r3).append r2)
    have hargs : (ca.toList ++ c.args.toList.map a.eval ++ cc.toList).toArray = ca ++ c.args.map a.eval ++ cc := by
      apply Array.ext'
      simp
    rw [hargs] at hcall
    have hbn : fn.body.isNone = false := by cases hfb : fn.body <;> simp [hfb] at hb ⊢
    refine ⟨fun _ _ => trivial, ?_⟩
    have hrun : (execOp a.eval o).run P w = .ok (.enter f (ca ++ c.args.map a.eval ++ cc)) w := by
      have hn' : ¬ fn.name = "runtime.NumGoroutine" := by simpa using hn
      have hbn' : ¬ fn.body = none := by intro hh; simp [hh] at hb
      simp [execOp, ho, resolve, hc, he, Deferred.ofValue, invoke, callFunc, hf, hbn', hn']
    rw [semAt_of hrun (fun _ h => by cases h)]
    refine ⟨depthR, callsR.2 (((callsX_fn hf).1 hcall).mono ?_)⟩
    rintro e w' ⟨cv, G1, rfl, hle, hv, hw1⟩
    exact hk G1 _ w' hle hv hw1

/-! ### The entry -/
def resOne (P : Program) (σ : St) : ResultVar → Option V
  | .tmp t => some ((σ.tm[t]?).getD (.tup []))
  | .cell t T => match tyAgg P T, tySize P T with | some a, some s => loadV a s σ.ob ((σ.tm[t]?).getD (.tup [])) | _, _ => none
def resL (P : Program) (σ : St) : List ResultVar → Option (List V)
  | [] => some []
  | r :: rs => match resOne P σ r, resL P σ rs with | some v, some vs => some (v :: vs) | _, _ => none
def resV (P : Program) (σ : St) (rs : List ResultVar) : Option V :=
  match resL P σ rs with
  | some [v] => some v
  | some vs => some (.tup vs)
  | none => none
theorem resOne_run {a : Act} {r : ResultVar} {v : V} (hr : Rel Γ G σ a w) (h : resOne P σ r = some v) :
    ∃ cv, ((match r with | .tmp t => pure (a.tmps.getD t undef) | .cell x t => do loadVar t (← asAddr (a.tmps.getD x undef))) : Sem Value).run P w = .ok cv w ∧ VRel G v cv := by
  cases r with
  | tmp t =>
    simp only [resOne, Option.some.injEq] at h
    subst h
    exact ⟨_, rfl, hr.eval (.tmp t)⟩
  | cell t T =>
    simp only [resOne] at h
    split at h
    · rename_i ag s ha hs
      obtain ⟨ad, cv, h1, h2, h3⟩ := VRel.load ha hs hr.wr (hr.eval (.tmp t)) h
      have h1 : a.tmps.getD t undef = .pointer (some ad) := h1
      exact ⟨cv, by simp only [Sem.run_bind, h1, asAddr, Sem.run_pure, Result.andThen_ok, h2], h3⟩
    · cases h
theorem resL_run {a : Act} (hr : Rel Γ G σ a w) : ∀ {rs : List ResultVar} {vs : List V}, resL P σ rs = some vs →
    ∃ cvs, (rs.mapM (m := Sem) fun r => match r with | .tmp t => pure (a.tmps.getD t undef) | .cell x t => do loadVar t (← asAddr (a.tmps.getD x undef))).run P w = .ok cvs w ∧ Rels G vs cvs
  | [], vs, h => by simp [resL] at h; subst h; exact ⟨[], by simp, Rels.nil G⟩
  | r :: rs, vs, h => by
    simp only [resL] at h
    split at h
    · rename_i v vs' h1 h2
      cases h
      obtain ⟨cv, e1, e2⟩ := resOne_run hr h1
      obtain ⟨cvs, e3, e4⟩ := resL_run hr h2
      refine ⟨cv :: cvs, ?_, Rels.cons e2 e4⟩
      rw [List.mapM_cons, Sem.run_bind, e1, Result.andThen_ok, Sem.run_bind, e3]
      rfl
    · cases h
theorem resV_run {a : Act} {fn : Func} {v : V} (hr : Rel Γ G σ a w) (h : resV P σ fn.results.toList = some v) : ∃ cv, (results fn a.tmps).run P w = .ok cv w ∧ VRel G v cv := by
  unfold resV at h
  split at h
  · rename_i x hx
    cases h
    obtain ⟨cvs, e1, e2⟩ := resL_run hr hx
    obtain ⟨cv, rfl⟩ : ∃ cv, cvs = [cv] := by
      match cvs, e2.1 with
      | [c], _ => exact ⟨c, rfl⟩
    refine ⟨cv, ?_, e2.2 0 _ _ rfl rfl⟩
    unfold results
    rw [Array.mapM_eq_mapM_toList, Sem.run_bind, Sem.run_map]
    exact (congrArg (fun z => Result.andThen (Result.andThen z _) _) e1).trans rfl
  · rename_i vs hne hx
    cases h
    obtain ⟨cvs, e1, e2⟩ := resL_run hr hx
    refine ⟨.tuple cvs.toArray, ?_, .tup (by simpa using e2.1) (fun j v cv g1 g2 => e2.2 j v cv g1 (by simpa using g2))⟩
    unfold results
    rw [Array.mapM_eq_mapM_toList, Sem.run_bind, Sem.run_map]
    refine (congrArg (fun z => Result.andThen (Result.andThen z _) _) e1).trans ?_
    have hl : ¬ cvs.toArray.size = 1 := by
      intro hl
      have : vs.length = 1 := by rw [← e2.1]; simpa using hl
      match vs, this with
      | [y], _ => exact hne y rfl
    simp only [Result.andThen, hl, dif_neg, not_false_eq_true]
    rfl
  · cases h
/-- The state in which a body begins. -/
def St.start (n : Nat) (args : List V) (ob : Ob) (nm : Nm) : St := ⟨args ++ List.replicate (n - args.length) (.tup []), ob, nm, ob.length, nm.length⟩
/-- The same but for blocks that are no cells and were laid since the function began. -/
structure Near (G G' : Gh) : Prop where
  m : G'.M = G.M
  h : G'.H = G.H
  t : G'.T = G.T
  kh : G'.kh = G.kh
  kt : G'.kt = G.kt
  w0 : G'.w0 = G.w0
  m0 : G'.M0 = G.M0
  kd : G'.kd = G.kd
  d : ∀ l, l < G.kd → G'.D l = G.D l
def Gh.setD (G : Gh) (b : Nat) (o : Obj) : Gh := { G with D := fun x => if x = b then some o else G.D x }
theorem VRel.setD {G : Gh} {b : Nat} {o o' : Obj} (hb : G.D b = some o') (hl : ∀ r, o' ≠ .loop r) {v : V} {cv : Value} (h : VRel G v cv) : VRel (G.setD b o) v cv :=
  VRel.mono0 (G := G) (G' := G.setD b o) (fun _ _ _ h => h) (fun _ _ h => h) (fun _ _ h => h) (fun l r _ h => by
    simp only [Gh.setD]
    split
    · rename_i e; subst e; rw [hb] at h; cases h; exact absurd rfl (hl r)
    · exact h) h
theorem heap_putObj_other {w : World} {r k : Nat} {o : Obj} (h : k ≠ r) : (w.putObj r o).heap[k]? = w.heap[k]? := World.putObj_heap_other h
theorem noCells_ne {w : World} {b : Nat} {o : Obj} (hb : w.heap[b]? = some o) (ho : o.isCells = false) {k : Nat} {c : Array Value} {E : TypeId} {fr : Nat × Nat} (hk : w.heap[k]? = some (.cells c E fr)) : k ≠ b := by
  rintro rfl
  rw [hb] at hk
  cases hk
  cases ho
/-- A block that is no cells exchanged; G2: a ghost that says so, under which values mean what they meant. -/
theorem WRel.putD {G2 : Gh} (h : WRel Γ G ob nm w) {b : Nat} {o o' : Obj} (hb : G.D b = some o') (ho : o.isCells = false) (hnew : G.w0.own b) (h2 : G2 = G.setD b o)
    (hv : ∀ v ∈ ob.flatMap (fun x => x.getD []), ∀ cv, VRel G v cv → VRel G2 v cv) (hn : ∀ v ∈ nm.flatMap (fun x => match x with | some (.live c) => flat c.els | _ => []), ∀ cv, VRel G v cv → VRel G2 v cv) : WRel Γ G2 ob nm (w.putObj b o) := by
  subst h2
  obtain ⟨d1, d2, _⟩ := h.dd b _ hb
  exact {
    m := fun x off cv hm => by
      have hx : x ≠ b := by
        rintro rfl
        have := h.m _ _ _ hm
        simp only [World.cell?, d1] at this
        cases o' <;> simp at this
        cases d2
      rw [cell_of_heap (w := w) (by exact heap_putObj_other hx)]
      exact h.m _ _ _ hm
    hob := fun o1 cs x h1 h2 => by
      obtain ⟨q1, ⟨q2, q3, q4, q5, q6, q7, q8⟩, q9⟩ := h.hob o1 cs x h1 h2
      refine ⟨q1, ⟨q2, q3, q4, (heap_putObj_other (noCells_ne d1 d2 q5)).trans q5, q6, q7, q8.1, fun j v cv a1 a2 => hv v ?_ cv (q8.2 j v cv a1 a2)⟩, q9⟩
      exact List.mem_flatMap.2 ⟨_, List.mem_of_getElem? h1, List.mem_of_getElem? a1⟩
    hlt := fun o1 x h1 => by rw [World.putObj_size]; exact h.hlt o1 x h1
    habs := h.habs
    inj := h.inj
    hnm := fun n c x h1 h2 => by
      have B := h.hnm n c x h1 h2
      obtain ⟨cvs, E, fr, e1, e2, e3, e4⟩ := B.row
      exact ⟨B.old, ⟨cvs, E, fr, (heap_putObj_other (noCells_ne d1 d2 e1)).trans e1, e2, e3, e4.1, fun j v cv a1 a2 => hn v (List.mem_flatMap.2 ⟨_, List.mem_of_getElem? h1, List.mem_of_getElem? a1⟩) cv (e4.2 j v cv a1 a2)⟩, B.sz, B.el, B.len, B.cap, B.free, B.obj⟩
    hno := h.hno
    nmd := h.nmd
    tabs := h.tabs
    tlt := h.tlt
    kdle := by rw [World.putObj_size]; exact h.kdle
    dd := fun l q hl => by
      simp only [Gh.setD] at hl
      split at hl
      · rename_i e
        subst e
        cases hl
        exact ⟨World.putObj_heap_same (lt_of_heap d1), ho, hnew⟩
      · rename_i e
        obtain ⟨x1, x2⟩ := h.dd l q hl
        exact ⟨(heap_putObj_other e).trans x1, x2⟩
    gl := h.gl
    mold := h.mold
    os := h.os
    tape := h.tape
    output := h.output
    size := by rw [World.putObj_size]; exact h.size
    block := fun k hk => (heap_putObj_other (W0.own_ne (x := G.w0) hnew hk)).trans (h.block k hk) }
theorem Near.refl (G : Gh) : Near G G := ⟨rfl, rfl, rfl, rfl, rfl, rfl, rfl, rfl, fun _ _ => rfl⟩
theorem Near.trans {A B C : Gh} (h : Near A B) (k : Near B C) : Near A C :=
  ⟨k.m.trans h.m, k.h.trans h.h, k.t.trans h.t, k.kh.trans h.kh, k.kt.trans h.kt, k.w0.trans h.w0, k.m0.trans h.m0, k.kd.trans h.kd, fun l hl => (k.d l (by rw [h.kd]; exact hl)).trans (h.d l hl)⟩
theorem leaves_marks {F : Fence} {n : Nat} {fn : Func} {res : V} {R : Ending → World → Prop} (hres : resV P σ fn.results.toList = some res) : ∀ (ds : List Deferred) (G : Gh) (w : World) {a : Act}, Rel Γ G σ { a with defers := ds } w → G.w0.heap.size ≤ G.kd →
    (∀ G2 cv w2, Near G G2 → VRel G2 res cv → WRel Γ G2 σ.ob σ.nm w2 → R (.returned cv) w2) → LeavesInM F n P fn a.tmps R ds .returning w
  | [], G, w, a, hr, _, hk => by
    obtain ⟨cv, h1, h2⟩ := resV_run (fn := fn) hr hres
    exact ⟨cv, h1, hk G cv w (.refl G) h2 hr.wr⟩
  | d :: ds, G, w, a, hr, h0, hk => by
    obtain ⟨D, rfl, hge, hD⟩ := hr.df.at_ d (by simp)
    have hnl : ∀ r, Obj.deferred (some []) ≠ .loop r := fun r h => by cases h
    have hw2 := hr.wr.putD (o := .deferred none) hD rfl (.inl (by omega)) rfl (fun v _ cv h => h.setD hD hnl) (fun v _ cv h => h.setD hD hnl)
    have hnear : Near G (G.setD D (.deferred none)) := ⟨rfl, rfl, rfl, rfl, rfl, rfl, rfl, rfl, fun l hl => if_neg (by omega)⟩
    refine ⟨by simp, .inl ⟨D, _, rfl, run_takeDeferred (hr.wr.dd _ _ hD).1, ?_⟩⟩
    refine leaves_marks hres ds (G.setD D (.deferred none)) _ (a := a) ⟨⟨hr.tm.1, fun j v cv a b => (hr.tm.2 j v cv a b).setD hD hnl⟩, hw2, ⟨(List.nodup_cons.1 hr.df.nd).2, fun d' hd' => ?_⟩, hr.kh, hr.kt⟩ h0 (fun G2 cv w2 hn hv hw2 => hk G2 cv w2 (hnear.trans hn) hv hw2)
    obtain ⟨D', e, h1, h2⟩ := hr.df.at_ d' (by simp [hd'])
    refine ⟨D', e, h1, ?_⟩
    have : D' ≠ D := by
      rintro rfl
      exact (List.nodup_cons.1 hr.df.nd).1 (e ▸ hd')
    simp [Gh.setD, this, h2]
theorem SemF.of_body {f : FuncId} {fn : Func} {c : Code} {args : List V} {ob : Ob} {nm : Nm} {x : Exit} {σ' : St} {res : V} (hf : P.funcs[f]? = some fn) (hb : fn.body = some c) (hx : x = .ret ∨ x = .normal)
    (hc : SemC P Γ c (St.start fn.ntmps args ob nm) x σ') (hres : resV P σ' fn.results.toList = some res) : SemF P Γ f args ob nm res σ'.ob σ'.nm := by
  intro G w cargs hw hr
  refine (callsX_fn hf).2 (callsIn_wide (n := 0).1 (callsIn_of_wp_marks hf hb trivial (wpIn_mono (hc none ((G.reK ob.length nm.length).reD w.heap.size) _ w ⟨?_, (hw.reK _ _).reD (Nat.le_refl _), .nil _, rfl, rfl⟩ (RoOk.none _)) ?_)))
  · have h1 := ((hr.mono' (G.reK_sub ob.length nm.length)).mono' (Gh.reD_sub _ w.heap.size)).append (Rels.replicate _ (VRel.undef _) (fn.ntmps - args.length))
    have : (cargs.toArray ++ Array.replicate (fn.ntmps - cargs.toArray.size) undef).toList = cargs ++ List.replicate (fn.ntmps - args.length) undef := by simp [hr.1]
    rw [this]
    exact h1
  · rintro e a' w' ⟨rfl, G1, hle, r1⟩
    have hkd : G1.kd = w.heap.size := hle.kd
    have key := leaves_marks (F := Fence.wide) (n := 0) (R := fun e w' => ∃ cv G', e = .returned cv ∧ G.le G' ∧ VRel G' res cv ∧ WRel Γ G' σ'.ob σ'.nm w') hres a'.defers G1 w' r1 (by rw [hkd]; exact (by rw [hle.w0]; exact hw.size)) (fun G2 cv w2 hn hv hw2 => ⟨cv, (G2.reK G.kh G.kt).reD G.kd, rfl,
      ⟨⟨fun b off cv h => by show G2.M b off = _; rw [hn.m]; exact hle.m _ _ _ h, fun o b hh => by show G2.H o = _; rw [hn.h]; exact hle.h o b (hw.hlt o b hh).1 hh, fun n x hh => by show G2.T n = _; rw [hn.t]; exact hle.t n x (hw.tlt n x hh) hh,
        fun l o hh => by show G2.D l = _; rw [hn.d l (by rw [hkd]; exact hw.dlt hh)]; exact hle.d _ _ hh⟩, rfl, rfl, hn.w0.trans hle.w0, hn.m0.trans hle.m0, rfl⟩,
      (hv.mono' (Gh.reK_sub _ _ _)).mono' (Gh.reD_sub _ _), (hw2.reK _ _).reD (Nat.le_trans hw.kdle (by have := hw2.kdle; rw [hn.kd, hkd] at this; exact this))⟩)
    rcases hx with rfl | rfl <;> exact key
end
end Go.Proofs.Ytnjjkobijjdnbaa

/- Types of plain data compared; a list of one as a list of the other. -/
set_option linter.unusedVariables false
set_option linter.unusedSimpArgs false
namespace Go.Proofs.Ytnjjkobijjdnbaa
open Go
mutual
def Ty.eqb : Ty → Ty → Bool
  | .bool, .bool => true
  | .int k, .int k' => decide (k = k')
  | .str, .str => true
  | .agg a, .agg b => Ty.eqbs a b
  | .slice a, .slice b => Ty.eqb a b
  | _, _ => false
def Ty.eqbs : List Ty → List Ty → Bool
  | [], [] => true
  | a :: as, b :: bs => Ty.eqb a b && Ty.eqbs as bs
  | _, _ => false
end
mutual
theorem Ty.eqb_eq : ∀ {a b : Ty}, Ty.eqb a b = true → a = b
  | .bool, b, h => by cases b <;> simp [Ty.eqb] at h; rfl
  | .int k, b, h => by cases b <;> simp [Ty.eqb] at h; rw [h]
  | .str, b, h => by cases b <;> simp [Ty.eqb] at h; rfl
  | .agg x, b, h => by
    cases b <;> simp only [Ty.eqb] at h <;> first | (cases h; done) | rw [Ty.eqbs_eq h]
  | .slice x, b, h => by
    cases b <;> simp only [Ty.eqb] at h <;> first | (cases h; done) | rw [Ty.eqb_eq h]
theorem Ty.eqbs_eq : ∀ {a b : List Ty}, Ty.eqbs a b = true → a = b
  | [], b, h => by cases b <;> simp [Ty.eqbs] at h; rfl
  | x :: xs, b, h => by
    cases b with
    | nil => simp [Ty.eqbs] at h
    | cons y ys =>
      simp only [Ty.eqbs, Bool.and_eq_true] at h
      rw [Ty.eqb_eq h.1, Ty.eqbs_eq h.2]
end
/-- A list of one type as a list of another one that is the same. -/
def listAs {a : Ty} (b : Ty) (l : List a.den) : Option (List b.den) := if h : a.eqb b = true then some (cast (by rw [Ty.eqb_eq h]) l) else none
theorem listAs_eq {a b : Ty} {l : List a.den} {l' : List b.den} (h : listAs b l = some l') : l'.map b.val = l.map a.val := by
  unfold listAs at h
  split at h
  · rename_i he
    obtain rfl := Ty.eqb_eq he
    cases h
    rfl
  · cases h
theorem VRel.lst_ro {G : Gh} {t : Tag} {xs : List V} {cv : Value} (h : VRel G (.lst t xs) cv) : VRel G (.lst .ro xs) cv := by
  cases h with
  | lst0 => exact .lst0 _
  | lst1 p cap => exact .lst1 p cap
  | lst hsz hl hm hv hc ht => exact .lst hsz hl hm hv hc trivial
end Go.Proofs.Ytnjjkobijjdnbaa

/- The evaluator of one operation. -/
set_option linter.unusedVariables false
set_option linter.unusedSimpArgs false
namespace Go.Proofs.Ytnjjkobijjdnbaa
open Go

/-! ### Merging -/
mutual
def mergeV (b : Bool) : V → V → Option V
  | .b x, w => match w.bool? with | some (y, s) => some (if s then .sb (bif b then x else y) else if x = y then .b x else .sb (bif b then x else y)) | none => none
  | .sb x, w => match w.bool? with | some (y, _) => some (.sb (bif b then x else y)) | none => none
  | .i k x, w => match w.int? with | some (k', y, s) => if k = k' then some (if s then .si k (bif b then x else y) else if x = y then .i k x else .si k (bif b then x else y)) else none | none => none
  | .si k x, w => match w.int? with | some (k', y, _) => if k = k' then some (.si k (bif b then x else y)) else none | none => none
  | .s x, w => match w.str? with | some (y, _) => some (.ss (bif b then x else y)) | none => none
  | .ss x, w => match w.str? with | some (y, _) => some (.ss (bif b then x else y)) | none => none
  | .nil, w => match w with | .nil => some .nil | _ => none
  | .nilfn, w => match w with | .nilfn => some .nilfn | _ => none
  | .nilifc, w => match w with | .nilifc => some .nilifc | _ => none
  | .ptr o x, w => match w with | .ptr o' x' => if o = o' ∧ x = x' then some (.ptr o x) else none | _ => none
  | .agg xs, w => match w with | .agg ys => (match mergeL b xs ys with | some zs => some (.agg zs) | none => none) | _ => none
  | .tup xs, w => match w with | .tup ys => (match mergeL b xs ys with | some zs => some (.tup zs) | none => none) | _ => none
  | .lst _ [], w => match w with | .lst _ [] => some (.lst .ro []) | .slst _ ty l => some (.slst .ro ty (bif b then [] else l)) | _ => none
  | .slst _ ty l, w => match w with | .slst _ ty' l' => (match listAs ty l' with | some l2 => some (.slst .ro ty (bif b then l else l2)) | none => none) | .lst _ [] => some (.slst .ro ty (bif b then l else [])) | _ => none
  | .fn f xs ys, w => match w with | .fn g us vs => (match f, g with | .func a, .func c => if a = c then (match mergeL b xs us, mergeL b ys vs with | some p, some q => some (.fn (.func a) p q) | _, _ => none) else none | _, _ => none) | _ => none
  | .bs s n off len, w => match w with | .bs s' n' off' len' => if n = n' then (match s || s' with | true => some (.bs true n (bif b then off else off') (bif b then len else len')) | false => if off = off' ∧ len = len' then some (.bs (s || s') n off len) else some (.bs true n (bif b then off else off') (bif b then len else len'))) else none | _ => none
  | .bp n i off, w => match w with | .bp n' i' off' => if n = n' ∧ i = i' ∧ off = off' then some (.bp n i off) else none | _ => none
  | .sl o off len, w => match w with | .sl o' off' len' => if o = o' ∧ off = off' ∧ len = len' then some (.sl o off len) else none | _ => none
  | .ifc t x, w => match w with | .ifc t' y => if t = t' then (match mergeV b x y with | some z => some (.ifc t z) | none => none) else none | _ => none
  | _, _ => none
def mergeL (b : Bool) : List V → List V → Option (List V)
  | [], ws => match ws with | [] => some [] | _ => none
  | x :: xs, ws =>
    match ws with
    | [] => none
    | w :: ws => match mergeV b x w, mergeL b xs ws with | some z, some zs => some (z :: zs) | _, _ => none
end
def MergeOk (b : Bool) (x y z : V) : Prop := ∀ (G : Gh) (cv : Value), VRel G (bif b then x else y) cv → VRel G z cv
theorem mergeV_ok (b : Bool) : ∀ (x y z : V), mergeV b x y = some z → MergeOk b x y z := by
  have key : ∀ (n : Nat) (x y z : V), SizeOf.sizeOf x ≤ n → mergeV b x y = some z → MergeOk b x y z := by
    intro n
    induction n with
    | zero => intro x y z hn; cases x <;> simp at hn
    | succ n ih =>
      intro x y z hn h G cv hr
      have hL : ∀ (xs ys zs : List V), SizeOf.sizeOf xs ≤ n → mergeL b xs ys = some zs → zs.length = (bif b then xs else ys).length ∧ ∀ (j : Nat) (z : V), zs[j]? = some z → ∃ x y, (bif b then xs else ys)[j]? = some (bif b then x else y) ∧ MergeOk b x y z := by
        intro xs
        induction xs with
        | nil =>
          intro ws zs _ h
          cases ws with
          | nil => simp [mergeL] at h; subst h; cases b <;> exact ⟨rfl, fun j z hj => by simp at hj⟩
          | cons w ws => simp [mergeL] at h
        | cons x xs ihx =>
          intro ws zs hs h
          simp at hs
          cases ws with
          | nil => simp [mergeL] at h
          | cons w ws =>
            simp only [mergeL] at h
            split at h
            · rename_i z zs' h1 h2
              cases h
              obtain ⟨g1, g2⟩ := ihx ws zs' (by omega) h2
              refine ⟨by cases b <;> simpa using g1, fun j v hj => ?_⟩
              cases j with
              | zero => simp at hj; subst hj; exact ⟨x, w, by cases b <;> rfl, ih _ _ _ (by omega) h1⟩
              | succ j =>
                simp at hj
                obtain ⟨p, q, e1, e2⟩ := g2 j v hj
                exact ⟨p, q, by cases b <;> simpa using e1, e2⟩
            · cases h
      cases x with
      | b p =>
        simp only [mergeV] at h
        split at h
        · rename_i q s hq
          have e : cv = .bool (bif b then p else q) := by
            cases b
            · exact bool?_eq hq hr
            · cases hr; rfl
          subst e
          split at h
          · cases h; exact .sb _
          · split at h
            · rename_i hpq; subst hpq; cases h; cases b <;> exact .b _
            · cases h; exact .sb _
        · cases h
      | sb p =>
        simp only [mergeV] at h
        split at h
        · rename_i q s hq
          have e : cv = .bool (bif b then p else q) := by
            cases b
            · exact bool?_eq hq hr
            · cases hr; rfl
          subst e
          cases h; exact .sb _
        · cases h
      | i k p =>
        simp only [mergeV] at h
        split at h
        · rename_i k' q s hq
          split at h
          · rename_i hk
            subst hk
            have e : cv = .int k (bif b then p else q) := by
              cases b
              · exact int?_eq hq hr
              · cases hr; rfl
            subst e
            cases h
            split
            · exact .si _ _
            · split
              · rename_i hpq; subst hpq; cases b <;> exact .i _ _
              · exact .si _ _
          · cases h
        · cases h
      | si k p =>
        simp only [mergeV] at h
        split at h
        · rename_i k' q s hq
          split at h
          · rename_i hk
            subst hk
            have e : cv = .int k (bif b then p else q) := by
              cases b
              · exact int?_eq hq hr
              · cases hr; rfl
            subst e
            cases h; exact .si _ _
          · cases h
        · cases h
      | s p =>
        simp only [mergeV] at h
        split at h
        · rename_i q s hq
          have e : cv = .string (bif b then p else q) := by
            cases b
            · exact str?_eq hq hr
            · cases hr; rfl
          subst e
          cases h; exact .ss _
        · cases h
      | ss p =>
        simp only [mergeV] at h
        split at h
        · rename_i q s hq
          have e : cv = .string (bif b then p else q) := by
            cases b
            · exact str?_eq hq hr
            · cases hr; rfl
          subst e
          cases h; exact .ss _
        · cases h
      | nil => simp only [mergeV] at h; split at h <;> cases h; cases b <;> exact hr
      | nilfn => simp only [mergeV] at h; split at h <;> cases h; cases b <;> exact hr
      | nilifc => simp only [mergeV] at h; split at h <;> cases h; cases b <;> exact hr
      | ptr o p =>
        simp only [mergeV] at h
        split at h
        · split at h
          · rename_i hc; obtain ⟨rfl, rfl⟩ := hc; cases h; cases b <;> exact hr
          · cases h
        · cases h
      | agg xs =>
        simp only [mergeV] at h
        split at h
        · rename_i ys
          split at h
          · rename_i zs hz
            cases h
            obtain ⟨g1, g2⟩ := hL xs ys zs (by simp at hn; omega) hz
            have hr' : VRel G (.agg (bif b then xs else ys)) cv := by cases b <;> exact hr
            obtain ⟨c, rfl, hc⟩ := hr'.agg_form
            refine VRel.mk_agg ⟨by rw [hc.1, g1], fun j v cv h1 h2 => ?_⟩
            obtain ⟨p, q, e1, e2⟩ := g2 j v h1
            exact e2 G cv (hc.2 j _ cv e1 h2)
          · cases h
        · cases h
      | tup xs =>
        simp only [mergeV] at h
        split at h
        · rename_i ys
          split at h
          · rename_i zs hz
            cases h
            obtain ⟨g1, g2⟩ := hL xs ys zs (by simp at hn; omega) hz
            have hr' : VRel G (.tup (bif b then xs else ys)) cv := by cases b <;> exact hr
            cases hr'
            rename_i c hl hh
            refine .tup (by rw [hl, g1]) (fun j v cv h1 h2 => ?_)
            obtain ⟨p, q, e1, e2⟩ := g2 j v h1
            exact e2 G cv (hh j _ cv e1 h2)
          · cases h
        · cases h
      | lst t xs =>
        cases xs with
        | nil =>
          simp only [mergeV] at h
          split at h
          · cases h
            cases b
            · exact VRel.lst_ro hr
            · exact VRel.lst_ro hr
          · rename_i t' ty l
            cases h
            cases b
            · cases hr with | slst q => exact .slst q.lst_ro
            · exact .slst (VRel.lst_ro hr)
          · cases h
        | cons a l => simp [mergeV] at h
      | slst t ty l =>
        simp only [mergeV] at h
        split at h
        · rename_i t' ty' l'
          split at h
          · rename_i l2 hl
            cases h
            cases b
            · cases hr with | slst q => exact .slst (by simp only [cond_false]; rw [listAs_eq hl]; exact q.lst_ro)
            · cases hr with | slst q => exact .slst q.lst_ro
          · cases h
        · cases h
          cases b
          · exact .slst (VRel.lst_ro hr)
          · cases hr with | slst q => exact .slst q.lst_ro
        · cases h
      | fn f xs ys =>
        simp only [mergeV] at h
        split at h
        · rename_i g us vs
          split at h
          · rename_i a c
            split at h
            · rename_i hac
              subst hac
              split at h
              · rename_i p q h1 h2
                cases h
                simp at hn
                obtain ⟨g1, g2⟩ := hL xs us p (by omega) h1
                obtain ⟨k1, k2⟩ := hL ys vs q (by omega) h2
                have hr' : VRel G (.fn (.func a) (bif b then xs else us) (bif b then ys else vs)) cv := by cases b <;> exact hr
                cases hr' with
                | fn ha hc q1 q2 =>
                  refine .fn (by rw [ha, g1]) (by rw [hc, k1]) (fun j v cv e1 e2 => ?_) (fun j v cv e1 e2 => ?_)
                  · obtain ⟨p, q, e3, e4⟩ := g2 j v e1
                    exact e4 G cv (q1 j _ cv e3 e2)
                  · obtain ⟨p, q, e3, e4⟩ := k2 j v e1
                    exact e4 G cv (q2 j _ cv e3 e2)
              · cases h
            · cases h
          · cases h
        · cases h
      | bs s n off len =>
        simp only [mergeV] at h
        split at h
        · rename_i s' n' off' len'
          split at h
          · rename_i hnn
            subst hnn
            have go : ∀ (u v : Bool) (o l : Nat), VRel G (.bs u n o l) cv → VRel G (.bs v n o l) cv := fun u v o l hh => by
              cases hh with
              | bs0 => exact .bs0 _ _ _
              | bs1 => exact .bs1 _ _ _ _ _
              | bs h hl => exact .bs h hl
            split at h
            · cases h
              cases b
              · exact go _ _ _ _ hr
              · exact go _ _ _ _ hr
            · split at h
              · rename_i hc
                obtain ⟨rfl, rfl⟩ := hc
                cases h
                cases b
                · exact go _ _ _ _ hr
                · exact go _ _ _ _ hr
              · cases h
                cases b
                · exact go _ _ _ _ hr
                · exact go _ _ _ _ hr
          · cases h
        · cases h
      | bp n i off =>
        simp only [mergeV] at h
        split at h
        · split at h
          · rename_i hc
            obtain ⟨rfl, rfl, rfl⟩ := hc
            cases h
            cases b <;> exact hr
          · cases h
        · cases h
      | sl o off len =>
        simp only [mergeV] at h
        split at h
        · split at h
          · rename_i hc
            obtain ⟨rfl, rfl, rfl⟩ := hc
            cases h
            cases b <;> exact hr
          · cases h
        · cases h
      | ifc t x =>
        simp only [mergeV] at h
        split at h
        · rename_i t' y
          split at h
          · rename_i ht
            subst ht
            split at h
            · rename_i z hz
              cases h
              have hm := ih x y z (by simp at hn; omega) hz
              have hr' : VRel G (.ifc t (bif b then x else y)) cv := by cases b <;> exact hr
              cases hr' with
              | ifc hh => exact .ifc (hm G _ hh)
            · cases h
          · cases h
        · cases h
      | _ => simp [mergeV] at h
  intro x y z h
  exact key (SizeOf.sizeOf x) x y z (Nat.le_refl _) h
/-- Cell by cell. -/
theorem mergeL_get0 (b : Bool) : ∀ {xs ys zs : List V}, mergeL b xs ys = some zs → zs.length = (bif b then xs else ys).length ∧ xs.length = ys.length ∧ ∀ (j : Nat) (z : V), zs[j]? = some z → ∃ x y, xs[j]? = some x ∧ ys[j]? = some y ∧ mergeV b x y = some z
  | [], ws, zs, h => by
    cases ws with
    | nil => simp [mergeL] at h; subst h; cases b <;> exact ⟨rfl, rfl, fun j z hj => by simp at hj⟩
    | cons w ws => simp [mergeL] at h
  | x :: xs, ws, zs, h => by
    cases ws with
    | nil => simp [mergeL] at h
    | cons w ws =>
      simp only [mergeL] at h
      split at h
      · rename_i z zs' h1 h2
        cases h
        obtain ⟨g1, g0, g2⟩ := mergeL_get0 b h2
        refine ⟨by cases b <;> simpa using g1, by simpa using g0, fun j v hj => ?_⟩
        cases j with
        | zero => simp at hj; subst hj; exact ⟨x, w, rfl, rfl, h1⟩
        | succ j =>
          obtain ⟨p, q, e1, e2, e3⟩ := g2 j v (by simpa using hj)
          exact ⟨p, q, by simpa using e1, by simpa using e2, e3⟩
      · cases h
theorem bool?_cells {w : V} {p : Bool × Bool} (h : w.bool? = some p) : w.cells = [w] := by cases w <;> simp [V.bool?] at h <;> rfl
theorem int?_cells {w : V} {p : IntKind × Int × Bool} (h : w.int? = some p) : w.cells = [w] := by cases w <;> simp [V.int?] at h <;> rfl
theorem str?_cells {w : V} {p : ByteArray × Bool} (h : w.str? = some p) : w.cells = [w] := by cases w <;> simp [V.str?] at h <;> rfl
theorem mergeV_cells (b : Bool) {x y z : V} (h : mergeV b x y = some z) : mergeL b x.cells y.cells = some z.cells := by
  have one : ∀ {x y z : V}, mergeV b x y = some z → x.cells = [x] → y.cells = [y] → z.cells = [z] → mergeL b x.cells y.cells = some z.cells := fun h h1 h2 h3 => by
    rw [h1, h2, h3]; simp [mergeL, h]
  cases x with
  | agg xs =>
    simp only [mergeV] at h
    split at h
    · split at h
      · rename_i hz; cases h; exact hz
      · cases h
    · cases h
  | tup xs =>
    have h' := h
    simp only [mergeV] at h
    split at h
    · split at h
      · cases h; exact one h' rfl rfl rfl
      · cases h
    · cases h
  | lst t xs =>
    cases xs with
    | nil =>
      have h' := h
      simp only [mergeV] at h
      split at h <;> first | (cases h; done) | (cases h; exact one h' rfl rfl rfl)
    | cons a l => simp [mergeV] at h
  | any => simp [mergeV] at h
  | pel xs k off => simp [mergeV] at h
  | yl tm ps as bd => simp [mergeV] at h
  | _ =>
    have h' := h
    simp only [mergeV] at h
    repeat' (split at h)
    all_goals first
      | (cases h; done)
      | (cases h; refine one h' rfl ?_ ?_ <;> first | rfl | (exact bool?_cells (by assumption)) | (exact int?_cells (by assumption)) | (exact str?_cells (by assumption)) | (repeat' split) <;> rfl)
end Go.Proofs.Ytnjjkobijjdnbaa

/- The evaluator of one operation: its value, what must hold, its effect. -/
set_option linter.unusedVariables false
set_option linter.unusedSimpArgs false
namespace Go.Proofs.Ytnjjkobijjdnbaa
open Go

/-- What an operation does to the memory beside its value: the objects and buffers it looks at, those it writes, those it lays behind the others. -/
structure Eff where
  ro : List Nat := []
  rn : List Nat := []
  wo : List (Nat × List V) := []
  wn : List (Nat × Bf) := []
  xo : List (Option (List V)) := []
  xn : List (Option Bf) := []
  blk : Option (Ob × Nm) := none   -- it looks at all that there is, and leaves this
  bl : Nat × Nat := (0, 0)   -- of the first ones it leaves all but these as they are
  ko : List Nat := []
  kn : List Nat := []
def Eff.pure : Eff := {}
def Eff.rd (o : Nat) : Eff := { ro := [o] }
def Eff.rds (os ns : List Nat) : Eff := { ro := os, rn := ns }
def Eff.wr (o : Nat) (cs : List V) : Eff := { ro := [o], wo := [(o, cs)] }
def Eff.mkO (o : Nat) (cs : List V) : Eff := { wo := [(o, cs)] }
def setsO : List (Nat × List V) → Ob → Ob
  | [], ob => ob
  | p :: ps, ob => setsO ps (ob.set p.1 (some p.2))
def setsN : List (Nat × Bf) → Nm → Nm
  | [], nm => nm
  | p :: ps, nm => setsN ps (nm.set p.1 (some p.2))
def Eff.ob (e : Eff) (ob : Ob) : Ob := match e.blk with | some p => p.1 | none => match e.xo with | [] => setsO e.wo ob | x :: xs => setsO e.wo ob ++ (x :: xs)
def Eff.nm (e : Eff) (nm : Nm) : Nm := match e.blk with | some p => p.2 | none => match e.xn with | [] => setsN e.wn nm | x :: xs => setsN e.wn nm ++ (x :: xs)
structure Out where
  chk : Bool
  sy : Bool
  v : V
  eff : Eff
def outP (v : V) : Option Out := some ⟨true, false, v, .pure⟩
def outO : Option V → Option Out
  | some v => some ⟨true, false, v, .pure⟩
  | none => none

section
variable {P : Program} {Γ : Nat → Option V} {G : Gh} {ob : Ob} {nm : Nm} {w : World} {σ : St}

/-- A new object at a place that is kept for it. -/
theorem WRel.newObjAt (h : WRel Γ G ob nm w) {s : Nat} (hs : ob[s]? = some none) {cs : List V} {cvs : Array Value} {E : TypeId} (hr : Rels G cs cvs.toList) :
    G.le (G.addH s w.heap.size) ∧ WRel Γ (G.addH s w.heap.size) (ob.set s (some cs)) nm (w.alloc (.cells cvs E)) := by
  have hnone : G.H s = none := h.habs s hs
  have hlt : s < ob.length := by
    rcases Nat.lt_or_ge s ob.length with h' | h'
    · exact h'
    · simp [List.getElem?_eq_none h'] at hs
  have hle := Gh.le_addH (b := w.heap.size) hnone
  have k := h.alloc (.cells cvs E)
  refine ⟨hle, ?_⟩
  exact {
    m := k.m
    hob := fun o cs' b h1 h2 => by
      by_cases ho : o = s
      · subst ho
        simp only [Gh.addH, if_true, Option.some.injEq] at h2
        subst h2
        rw [List.getElem?_set_self hlt] at h1
        have h1 : cs = cs' := by simpa using h1
        subst h1
        refine ⟨.inl h.size, ⟨cvs, E, (0, 0), heap_alloc_self w _, .inl rfl, by have := hr.1; simp at this; omega, ?_⟩, h.mnew⟩
        have hl : cvs.toList.take cs.length = cvs.toList := List.take_of_length_le (by rw [hr.1]; exact Nat.le_refl _)
        rw [hl]
        exact hr.mono hle
      · have h2' : G.H o = some b := by simpa [Gh.addH, ho] using h2
        rw [List.getElem?_set_ne (Ne.symm ho)] at h1
        obtain ⟨a1, ⟨c, E', fr, e1, e2, e3, e4⟩, a3⟩ := k.hob o cs' b h1 h2'
        exact ⟨a1, ⟨c, E', fr, e1, e2, e3, e4.mono hle⟩, a3⟩
    hlt := fun o b h1 => by
      by_cases ho : o = s
      · subst ho
        simp only [Gh.addH, if_true, Option.some.injEq] at h1
        subst h1
        simp; exact hlt
      · have h2' : G.H o = some b := by simpa [Gh.addH, ho] using h1
        have := h.hlt o b h2'
        simp; omega
    habs := fun o h1 => by
      by_cases ho : o = s
      · subst ho; rw [List.getElem?_set_self hlt] at h1; simp at h1
      · rw [List.getElem?_set_ne (Ne.symm ho)] at h1
        simpa [Gh.addH, ho] using h.habs o h1
    inj := fun o o' b h1 h2 => by
      simp only [Gh.addH] at h1 h2
      split at h1 <;> split at h2
      · omega
      · have := (h.hlt _ _ h2).2; have he : w.heap.size = b := Option.some.inj h1; omega
      · have := (h.hlt _ _ h1).2; have he : w.heap.size = b := Option.some.inj h2; omega
      · exact h.inj _ _ _ h1 h2
    hnm := fun n c x h1 h2 => (k.hnm n c x h1 h2).to rfl (fun _ _ h => h.mono hle) (fun _ h => h) (fun _ h => h) (fun o ho => by
      have hx := (h.hnm n c x h1 h2).lt
      simp only [Gh.addH] at ho
      split at ho
      · have he : w.heap.size = x.b := Option.some.inj ho
        omega
      · exact (h.hnm n c x h1 h2).obj o ho)
    hno := k.hno
    nmd := k.nmd
    tabs := k.tabs
    tlt := k.tlt
    dd := k.dd
    kdle := k.kdle
    gl := fun g v hg => (k.gl g v hg).mono' hle.toSub.bare
    mold := k.mold
    os := k.os
    tape := k.tape
    output := k.output
    size := k.size
    block := k.block }
theorem SemV.allocAt {o : Oper} {T : TypeId} {z : V} {s : Nat} (ho : o.op = .alloc T) (hz : tyZero P T = some z) (hn : z.notAny = true) (hs : σ.ob[s]? = some none) : SemV P Γ o σ (.ptr s 0) (σ.ob.set s (some z.cells)) σ.nm :=
  SemV.of_val fun G a w hr => by
    obtain ⟨zv, h1, rfl⟩ := run_zero hz w
    have hc := (ofVal_rel G zv).cells (V.notAny_ne hn)
    obtain ⟨hle, hw⟩ := hr.wr.newObjAt hs (E := T) (cvs := zv.cells) hc
    refine ⟨.pointer (some ⟨w.heap.size, 0, none⟩), _, _, ?_, hle, .ptr (addH_new _ _ _), hw⟩
    simp [execOp, ho, Instr.alloc, h1, newVar, Go.newRow, World.alloc_eq]
theorem SemV.boxAt {o : Oper} {T : TypeId} {x : Operand} {s : Nat} (ho : o.op = .box T x) (hn : (σ.eval Γ x).notAny = true) (hs : σ.ob[s]? = some none) : SemV P Γ o σ (.ptr s 0) (σ.ob.set s (some (σ.eval Γ x).cells)) σ.nm :=
  SemV.of_val fun G a w hr => by
    have hc := (hr.eval x).cells (V.notAny_ne hn)
    obtain ⟨hle, hw⟩ := hr.wr.newObjAt hs (E := T) (cvs := (a.eval x).cells) hc
    refine ⟨.pointer (some ⟨w.heap.size, 0, none⟩), _, _, ?_, hle, .ptr (addH_new _ _ _), hw⟩
    simp [execOp, ho, Instr.box, newVar, Go.newRow, World.alloc_eq]

/-! ### Elements by an index that is not known -/
def selV : List V → Int → Option V
  | [], _ => none
  | [x], _ => some x
  | x :: y :: rest, i => match selV (y :: rest) (i - 1) with | some r => mergeV (decide (i = 0)) x r | none => none
theorem selV_ok : ∀ (xs : List V) (i : Int) (z : V), selV xs i = some z → 0 ≤ i → ∀ x, xs[i.toNat]? = some x → ∀ (G : Gh) (cv : Value), VRel G x cv → VRel G z cv
  | [], i, z, h, _, x, hx, _, _, _ => by simp at hx
  | [y], i, z, h, h0, x, hx, G, cv, hr => by
    simp [selV] at h
    subst h
    have : i.toNat = 0 := by
      rcases Nat.eq_zero_or_pos i.toNat with h' | h'
      · exact h'
      · rw [List.getElem?_eq_none (by simp; omega)] at hx; cases hx
    rw [this] at hx
    simp at hx
    subst hx
    exact hr
  | y :: y' :: rest, i, z, h, h0, x, hx, G, cv, hr => by
    simp only [selV] at h
    split at h
    · rename_i r hsel
      have hm := mergeV_ok _ _ _ _ h G cv
      by_cases hi : i = 0
      · subst hi
        simp at hx
        subst hx
        exact hm (by simpa using hr)
      · have e : i.toNat = (i - 1).toNat + 1 := by omega
        rw [e] at hx
        simp only [List.getElem?_cons_succ] at hx
        have := selV_ok (y' :: rest) (i - 1) r hsel (by omega) x hx G cv hr
        exact hm (by simpa [hi] using this)
    · cases h

def V.isAgg : V → Bool
  | .agg _ => true
  | _ => false
/-- The address of an element: what must hold, whether that is known, and the address. -/
def idxX (sz : Nat) (n : Option Nat) (p : V) (i : Int) (s : Bool) : Option (Bool × Bool × V) :=
  match s with
  | false => match idxV sz n p i with | some q => some (true, false, q) | none => none
  | true =>
    match n, p with
    | none, .lst t xs =>
      match xs with
      | [] => none
      | x :: rest =>
        match selV (x :: rest) i with
        | some z => if (x :: rest).all (fun y => y.cells.length == sz) && (z.cells.length == sz && ((x :: rest).all V.one && z.one || (x :: rest).all V.isAgg && z.isAgg)) then some (decide (0 ≤ i ∧ i < ((x :: rest).length : Int)), true, .pel [z] 0 0) else none
        | none => none
    | some (m + 1), .pel ys k off =>
      match ys[k]? with
      | some y =>
        match selV ((List.range (m + 1)).map fun j => V.agg ((y.cells.drop (off + j * sz)).take sz)) i with
        | some z => if z.isAgg && z.cells.length == sz && decide (off + (m + 1) * sz ≤ y.cells.length) then some (decide (0 ≤ i ∧ i < ((m + 1 : Nat) : Int)), true, .pel [z] 0 0) else none
        | none => none
      | none => none
    | _, _ => none
theorem SemV.indexX {o : Oper} {T e : TypeId} {x y : Operand} {n : Option Nat} {sz : Nat} {k : IntKind} {i : Int} {s c : Bool} {q : V} (ho : o.op = .indexAddr T x y) (ht : tyElem P T = some (n, e)) (hs : tySize P e = some sz) (hy : (σ.eval Γ y).int? = some (k, i, s))
    (hq : idxX sz n (σ.eval Γ x) i s = some (true, c, q)) : SemV P Γ o σ q σ.ob σ.nm := by
  cases s with
  | false =>
    simp only [idxX] at hq
    split at hq
    · rename_i q' hq'
      cases hq
      refine SemV.indexAddr (k := k) ho ht hs ?_ hq'
      generalize σ.eval Γ y = v at hy
      cases v <;> simp [V.int?] at hy
      obtain ⟨rfl, rfl⟩ := hy
      rfl
    · cases hq
  | true =>
    simp only [idxX] at hq
    split at hq <;> try cases hq
    case h_2 m ys k' off hxl =>
      split at hq <;> try cases hq
      rename_i yv hyv
      split at hq <;> try cases hq
      rename_i z hz
      split at hq
      · rename_i hall
        simp only [Bool.and_eq_true, beq_iff_eq, decide_eq_true_eq] at hall
        simp only [Option.some.injEq, Prod.mk.injEq, decide_eq_true_eq] at hq
        obtain ⟨⟨h0, h1⟩, _, rfl⟩ := hq
        refine SemV.of_pure fun G a w hr => ?_
        have hiy := int?_eq hy (hr.eval y)
        have hx := hr.eval x
        rw [hxl] at hx
        have hu := tyElem_array ht
        generalize he : a.eval x = c at hx
        cases hx with
        | @pel _ _ _ b o0 sz0 cvs g1 g2 g3 g4 =>
          have hym : yv ∈ ys := List.mem_of_getElem? hyv
          have hi : i.toNat < m + 1 := by omega
          have hfl : ∀ j v, yv.cells[j]? = some v → (flat ys)[k' * sz0 + j]? = some v := flat_get g1 hyv
          have hlen2 : (flat ys).length = ys.length * sz0 := flat_length g1
          have hk' : k' < ys.length := by
            rcases Nat.lt_or_ge k' ys.length with h' | h'
            · exact h'
            · simp [List.getElem?_eq_none h'] at hyv
          have hkk : k' * sz0 + sz0 ≤ ys.length * sz0 := by rw [← Nat.succ_mul]; exact Nat.mul_le_mul_right _ hk'
          have hys : yv.cells.length = sz0 := g1 _ hym
          have hoff : off + (m + 1) * sz ≤ yv.cells.length := hall.2
          have his : i.toNat * sz + sz ≤ (m + 1) * sz := by rw [← Nat.succ_mul]; exact Nat.mul_le_mul_right _ hi
          generalize hE : i.toNat * sz = E at *
          have hwhole : VRel G (.agg ((yv.cells.drop (off + E)).take sz)) (.agg ((cvs.drop (k' * sz0 + (off + E))).take sz).toArray) := by
            refine VRel.mk_agg ⟨by simp [g2, hlen2]; omega, fun j v cv q1 q2 => ?_⟩
            simp only [List.getElem?_take] at q1 q2
            split at q1
            · rename_i hj
              simp only [hj, if_true] at q2
              rw [List.getElem?_drop] at q1 q2
              have := hfl _ _ q1
              rw [← Nat.add_assoc] at this
              exact g4 _ _ _ this q2
            · cases q1
          have hget : ((List.range (m + 1)).map fun j => V.agg ((yv.cells.drop (off + j * sz)).take sz))[i.toNat]? = some (V.agg ((yv.cells.drop (off + E)).take sz)) := by
            rw [List.getElem?_map, List.getElem?_range hi, ← hE]
            rfl
          have hz' := selV_cells hz h0 hget (.inr ⟨rfl, hall.1.1⟩) hwhole
          refine ⟨.pointer (some ⟨b, o0 + (k' * sz0 + off) + E, none⟩), ?_, ?_⟩
          · have h1' : i < (m : Int) + 1 := by omega
            simp [execOp, ho, Instr.indexAt, hiy, asIntOf, run_underlying hu, he, Instr.sureAddr, h0, h1', run_sizeOf hs, add_none, hE]
          · have := VRel.pel (G := G) (xs := [z]) (k := 0) (off := 0) (b := b) (o0 := o0 + (k' * sz0 + off) + E) (sz := sz) (cvs := (cvs.drop (k' * sz0 + (off + E))).take sz)
              (by simpa using hall.1.2) (by rw [List.length_take, List.length_drop, g2, hlen2, show flat [z] = z.cells by simp [flat], hall.1.2]; omega)
              (fun j cv q1 => by
                rw [List.getElem?_take] at q1
                split at q1
                · rw [List.getElem?_drop] at q1
                  have := g3 _ _ q1
                  rw [← this]
                  congr 1
                  omega
                · cases q1)
              (fun j v cv q1 q2 => by
                have q1 : z.cells[j]? = some v := by simpa [flat] using q1
                exact hz'.2 j v cv q1 q2)
            simpa using this
      · cases hq
    rename_i t xs hxl
    split at hq <;> try cases hq
    rename_i x0 rest
    split at hq <;> try cases hq
    rename_i z hz
    split at hq
    · rename_i hall
      simp only [Option.some.injEq, Prod.mk.injEq, decide_eq_true_eq] at hq
      obtain ⟨⟨h0, h1⟩, _, rfl⟩ := hq
      refine SemV.of_pure fun G a w hr => ?_
      have hiy := int?_eq hy (hr.eval y)
      have hx := hr.eval x
      rw [hxl] at hx
      have hu := tyElem_slice ht
      generalize he : a.eval x = c at hx
      simp only [Bool.and_eq_true, Bool.or_eq_true, beq_iff_eq] at hall
      have hall1 := hall.1
      simp only [List.all_eq_true, beq_iff_eq] at hall1
      generalize hL : (x0 :: rest) = L at *
      have hlt : i.toNat < L.length := by omega
      cases hx with
      | lst0 => simp at hlt
      | lst1 => simp at hlt
      | @lst _ _ b off cap sz0 cvs g1 g2 g3 g4 g5 g6 =>
        have hget : L[i.toNat]? = some L[i.toNat] := List.getElem?_eq_getElem hlt
        have hmem : L[i.toNat] ∈ L := List.getElem_mem hlt
        have hsz : sz0 = sz := (g1 _ hmem).symm.trans (hall1 _ hmem)
        subst hsz
        refine ⟨.pointer (some ⟨b, off + i.toNat * sz0, none⟩), ?_, ?_⟩
        · simp [execOp, ho, Instr.indexAt, hiy, asIntOf, run_underlying hu, he, h0, h1, run_sizeOf hs, add_none]
        · -- the element alone is a row of its own
          have hfl : ∀ j v, (L[i.toNat]).cells[j]? = some v → (flat L)[i.toNat * sz0 + j]? = some v := flat_get g1 hget
          have hlen2 : (flat L).length = L.length * sz0 := flat_length g1
          have hkk : i.toNat * sz0 + sz0 ≤ L.length * sz0 := by rw [← Nat.succ_mul]; exact Nat.mul_le_mul_right _ hlt
          have hwhole : VRel G (.agg (L[i.toNat]).cells) (.agg ((cvs.drop (i.toNat * sz0)).take sz0).toArray) := by
            refine VRel.mk_agg ⟨by simp [g2, hlen2, hall1 _ hmem]; omega, fun j v cv q1 q2 => ?_⟩
            simp only [List.getElem?_take] at q2
            split at q2
            · rw [List.getElem?_drop] at q2
              exact g4 _ _ _ (hfl j v q1) q2
            · cases q2
          have hz' := selV_cells hz h0 hget (hall.2.2.imp (fun q => ⟨List.all_eq_true.1 q.1 _ hmem, q.2⟩) (fun q => ⟨List.all_eq_true.1 q.1 _ hmem, q.2⟩)) hwhole
          have := VRel.pel (G := G) (xs := [z]) (k := 0) (off := 0) (b := b) (o0 := off + i.toNat * sz0) (sz := sz0) (cvs := (cvs.drop (i.toNat * sz0)).take sz0)
            (by simpa using hall.2.1) (by rw [List.length_take, List.length_drop, g2, hlen2, show flat [z] = z.cells by simp [flat], hall.2.1]; omega)
            (fun j cv q1 => by
              rw [List.getElem?_take] at q1
              split at q1
              · rw [List.getElem?_drop] at q1
                have := g3 _ _ q1
                rwa [← Nat.add_assoc] at this
              · cases q1)
            (fun j v cv q1 q2 => by
              have q1 : z.cells[j]? = some v := by simpa [flat] using q1
              exact hz'.2 j v cv q1 q2)
          simpa using this
    · cases hq
where
  selV_cells {xs : List V} {i : Int} {z x : V} {cvs : List Value} {G : Gh} (h : selV xs i = some z) (h0 : 0 ≤ i) (hx : xs[i.toNat]? = some x) (hk : (x.one = true ∧ z.one = true) ∨ (x.isAgg = true ∧ z.isAgg = true)) (hr : VRel G (.agg x.cells) (.agg cvs.toArray)) : Rels G z.cells cvs := by
    obtain ⟨c, e, hc⟩ := hr.agg_form
    have e : cvs.toArray = c := by cases e; rfl
    subst e
    have hc : Rels G x.cells cvs := by simpa using hc
    rcases hk with ⟨k1, k2⟩ | ⟨k1, k2⟩
    · have e1 : x.cells = [x] := by cases x <;> simp [V.one, V.cells] at k1 ⊢
      have e2 : z.cells = [z] := by cases z <;> simp [V.one, V.cells] at k2 ⊢
      rw [e1] at hc
      rw [e2]
      match cvs, hc.1 with
      | [cv], _ => exact Rels.cons (selV_ok xs i z h h0 x hx G cv (hc.2 0 x cv rfl rfl)) (Rels.nil G)
    · obtain ⟨cs, rfl⟩ : ∃ cs, x = .agg cs := by cases x <;> simp [V.isAgg] at k1 ⊢
      obtain ⟨zs, rfl⟩ : ∃ cs, z = .agg cs := by cases z <;> simp [V.isAgg] at k2 ⊢
      have hv : VRel G (.agg cs) (.agg cvs.toArray) := VRel.mk_agg (by simpa [V.cells] using hc)
      have := selV_ok xs i _ h h0 _ hx G _ hv
      obtain ⟨c, e, hc⟩ := this.agg_form
      have e : cvs.toArray = c := by cases e; rfl
      subst e
      simpa [V.cells] using hc
end
end Go.Proofs.Ytnjjkobijjdnbaa

/- Plain data read off values; lists and buffers: elements, parts. -/
set_option linter.unusedVariables false
set_option linter.unusedSimpArgs false
namespace Go.Proofs.Ytnjjkobijjdnbaa
open Go

def optMap {α β : Type} (f : α → Option β) : List α → Option (List β)
  | [] => some []
  | a :: as => match f a, optMap f as with | some b, some bs => some (b :: bs) | _, _ => none
def boolC : List V → Option (Bool × List V)
  | .b x :: vs => some (x, vs)
  | .sb x :: vs => some (x, vs)
  | _ => none
def intC (k : IntKind) : List V → Option (Int × List V)
  | .i k' n :: vs => if k' = k then some (n, vs) else none
  | .si k' n :: vs => if k' = k then some (n, vs) else none
  | _ => none
def strC : List V → Option (ByteArray × List V)
  | .s x :: vs => some (x, vs)
  | .ss x :: vs => some (x, vs)
  | _ => none
def whole {α : Type} (f : List V → Option (α × List V)) (v : V) : Option α := match f v.cells with | some (x, []) => some x | _ => none
def sliceC (e : Ty) (f : List V → Option (e.den × List V)) : List V → Option (List e.den × List V)
  | .slst _ ty l :: vs => match listAs e l with | some l' => some (l', vs) | none => none
  | .lst _ xs :: vs => match optMap (whole f) xs with | some l' => some (l', vs) | none => none
  | _ => none
mutual
/-- Cells read as plain data, and what is left of them. -/
def Ty.ofC : (t : Ty) → List V → Option (t.den × List V)
  | .bool => boolC
  | .int k => intC k
  | .str => strC
  | .agg fs => Ty.ofCs fs
  | .slice e => sliceC e (Ty.ofC e)
def Ty.ofCs : (ts : List Ty) → List V → Option (Ty.dens ts × List V)
  | [] => fun cs => some ((), cs)
  | t :: ts => fun cs => match Ty.ofC t cs with | some (x, r) => (match Ty.ofCs ts r with | some (y, r') => some ((x, y), r') | none => none) | none => none
end
/-- A value read as plain data. -/
def Ty.isAgg : Ty → Bool
  | .agg _ => true
  | _ => false
def V.isAggV : V → Bool
  | .agg _ => true
  | _ => false
def Ty.ofV (t : Ty) (v : V) : Option t.den := if t.isAgg == v.isAggV then whole t.ofC v else none
def Ty.ofVs : (ts : List Ty) → List V → Option (Ty.dens ts)
  | [], [] => some ()
  | t :: ts, v :: vs => match t.ofV v, Ty.ofVs ts vs with | some x, some y => some (x, y) | _, _ => none
  | _, _ => none

/-! ### What is read stands for the same -/
mutual
theorem Ty.cells_len : ∀ (t : Ty) (x : t.den), (t.cells x).length = t.size
  | .bool, x => rfl
  | .int k, x => rfl
  | .str, x => rfl
  | .agg fs, x => Ty.cellss_len fs x
  | .slice e, x => rfl
theorem Ty.cellss_len : ∀ (ts : List Ty) (x : Ty.dens ts), (Ty.cellss ts x).length = Ty.sizes ts
  | [], x => rfl
  | t :: ts, x => by simp only [Ty.cellss, List.length_append, Ty.sizes, Ty.cells_len t x.1, Ty.cellss_len ts x.2]
end
theorem Ty.val_cells (t : Ty) (x : t.den) : (t.val x).cells = t.cells x := by cases t <;> rfl
theorem Ty.val_len (t : Ty) (x : t.den) : (t.val x).cells.length = t.size := by rw [Ty.val_cells, Ty.cells_len]
theorem Rels.split {G : Gh} {a b : List V} {c : List Value} (h : Rels G (a ++ b) c) : Rels G a (c.take a.length) ∧ Rels G b (c.drop a.length) := by
  constructor
  · have := h.take a.length
    rwa [List.take_left'] at this
    rfl
  · have := h.drop a.length
    rwa [List.drop_left'] at this
    rfl
theorem Rels.join {G : Gh} {a b : List V} {c : List Value} (n : Nat) (h : Rels G a (c.take n)) (k : Rels G b (c.drop n)) : Rels G (a ++ b) c := by
  have := h.append k
  rwa [List.take_append_drop] at this
/-- Cells that stand for the same. -/
def CellsOk (e : Ty) (f : List V → Option (e.den × List V)) : Prop := ∀ cs x r, f cs = some (x, r) → cs.length = e.size + r.length ∧ ∀ (G : Gh) (cvs : List Value), Rels G cs cvs → Rels G (e.cells x ++ r) cvs
theorem whole_ok {e : Ty} {f : List V → Option (e.den × List V)} (hf : CellsOk e f) {v : V} {x : e.den} (h : whole f v = some x) : v.cells.length = e.size ∧ ∀ (G : Gh) (cvs : List Value), Rels G v.cells cvs → Rels G (e.cells x) cvs := by
  unfold whole at h
  split at h
  · rename_i y hy
    cases h
    obtain ⟨h1, h2⟩ := hf _ _ _ hy
    refine ⟨by simpa using h1, fun G cvs hr => ?_⟩
    have := h2 G cvs hr
    rwa [List.append_nil] at this
  · cases h
theorem optMap_ok {e : Ty} {f : List V → Option (e.den × List V)} (hf : CellsOk e f) : ∀ {xs : List V} {l : List e.den}, optMap (whole f) xs = some l → l.length = xs.length ∧ (∀ v ∈ xs, v.cells.length = e.size) ∧ ∀ (G : Gh) (cvs : List Value), Rels G (flat xs) cvs → Rels G (flat (l.map e.val)) cvs
  | [], l, h => by simp [optMap] at h; subst h; exact ⟨rfl, (fun v hv => by cases hv), (fun G cvs hr => hr)⟩
  | v :: vs, l, h => by
    simp only [optMap] at h
    split at h
    · rename_i x l' h1 h2
      cases h
      obtain ⟨a1, a2⟩ := whole_ok hf h1
      obtain ⟨b1, b2, b3⟩ := optMap_ok hf h2
      refine ⟨by simp [b1], fun u hu => ?_, fun G cvs hr => ?_⟩
      · rcases List.mem_cons.1 hu with rfl | hu
        · exact a1
        · exact b2 u hu
      · rw [flat_cons] at hr
        rw [List.map_cons, flat_cons, Ty.val_cells]
        exact Rels.join v.cells.length (a2 G _ hr.split.1) (b3 G _ hr.split.2)
    · cases h
theorem lst_as {e : Ty} {f : List V → Option (e.den × List V)} (hf : CellsOk e f) {xs : List V} {l : List e.den} (h : optMap (whole f) xs = some l) {G : Gh} {t : Tag} {cv : Value} (hr : VRel G (.lst t xs) cv) : VRel G (.lst t (l.map e.val)) cv := by
  obtain ⟨h1, h2, h3⟩ := optMap_ok hf h
  cases hr with
  | lst0 =>
    have : l = [] := List.length_eq_zero_iff.1 (by simpa using h1)
    subst this
    exact .lst0 _
  | lst1 p cap =>
    have : l = [] := List.length_eq_zero_iff.1 (by simpa using h1)
    subst this
    exact .lst1 p cap
  | lst hsz hl hm hv hc ht =>
    have hrel := h3 G _ ⟨hl, hv⟩
    have hlen : (l.map e.val).length = xs.length := by simpa using h1
    rw [← hlen]
    rw [← hlen] at hc ht
    refine .lst (sz := e.size) (fun v hv => ?_) hrel.1 hm hrel.2 hc (by cases t <;> exact ht)
    obtain ⟨x, _, rfl⟩ := List.mem_map.1 hv
    exact Ty.val_len e x
theorem sliceC_ok {e : Ty} {f : List V → Option (e.den × List V)} (hf : CellsOk e f) : CellsOk (.slice e) (sliceC e f) := by
  intro cs x r h
  unfold sliceC at h
  split at h
  · split at h
    · rename_i l' hl
      cases h
      refine ⟨by simp [Ty.size]; omega, fun G cvs hr => ⟨hr.1, fun j v cv h1 h2 => ?_⟩⟩
      cases j with
      | zero =>
        simp [Ty.cells] at h1
        subst h1
        have := hr.2 0 _ cv rfl h2
        cases this with
        | slst q => exact .slst (by rw [listAs_eq hl]; exact q.lst_ro)
      | succ j => exact hr.2 (j + 1) v cv (by simpa [Ty.cells] using h1) h2
    · cases h
  · split at h
    · rename_i l' hl
      cases h
      refine ⟨by simp [Ty.size]; omega, fun G cvs hr => ⟨hr.1, fun j v cv h1 h2 => ?_⟩⟩
      cases j with
      | zero =>
        simp [Ty.cells] at h1
        subst h1
        exact .slst (lst_as hf hl (hr.2 0 _ cv rfl h2).lst_ro)
      | succ j => exact hr.2 (j + 1) v cv (by simpa [Ty.cells] using h1) h2
    · cases h
  · cases h
mutual
theorem Ty.ofC_ok : ∀ (t : Ty), CellsOk t t.ofC
  | .bool => by
    intro cs x r h
    simp only [Ty.ofC] at h
    unfold boolC at h
    split at h
    · cases h
      refine ⟨by simp [Ty.size]; omega, fun G cvs hr => ⟨hr.1, fun j v cv h1 h2 => ?_⟩⟩
      cases j with
      | zero => simp [Ty.cells] at h1; subst h1; have := hr.2 0 _ cv rfl h2; cases this; exact .sb _
      | succ j => exact hr.2 (j + 1) v cv (by simpa [Ty.cells] using h1) h2
    · cases h
      exact ⟨by simp [Ty.size]; omega, fun G cvs hr => hr⟩
    · cases h
  | .int k => by
    intro cs x r h
    simp only [Ty.ofC] at h
    unfold intC at h
    split at h
    · split at h
      · rename_i hk
        subst hk
        cases h
        refine ⟨by simp [Ty.size]; omega, fun G cvs hr => ⟨hr.1, fun j v cv h1 h2 => ?_⟩⟩
        cases j with
        | zero => simp [Ty.cells] at h1; subst h1; have := hr.2 0 _ cv rfl h2; cases this; exact .si _ _
        | succ j => exact hr.2 (j + 1) v cv (by simpa [Ty.cells] using h1) h2
      · cases h
    · split at h
      · rename_i hk
        subst hk
        cases h
        exact ⟨by simp [Ty.size]; omega, fun G cvs hr => hr⟩
      · cases h
    · cases h
  | .str => by
    intro cs x r h
    simp only [Ty.ofC] at h
    unfold strC at h
    split at h
    · cases h
      refine ⟨by simp [Ty.size]; omega, fun G cvs hr => ⟨hr.1, fun j v cv h1 h2 => ?_⟩⟩
      cases j with
      | zero => simp [Ty.cells] at h1; subst h1; have := hr.2 0 _ cv rfl h2; cases this; exact .ss _
      | succ j => exact hr.2 (j + 1) v cv (by simpa [Ty.cells] using h1) h2
    · cases h
      exact ⟨by simp [Ty.size]; omega, fun G cvs hr => hr⟩
    · cases h
  | .agg fs => fun cs x r h => Ty.ofCs_ok fs cs x r h
  | .slice e => sliceC_ok (Ty.ofC_ok e)
theorem Ty.ofCs_ok : ∀ (ts : List Ty) (cs : List V) (x : Ty.dens ts) (r : List V), Ty.ofCs ts cs = some (x, r) → cs.length = Ty.sizes ts + r.length ∧ ∀ (G : Gh) (cvs : List Value), Rels G cs cvs → Rels G (Ty.cellss ts x ++ r) cvs
  | [], cs, x, r, h => by simp [Ty.ofCs] at h; obtain ⟨_, rfl⟩ := h; exact ⟨by simp [Ty.sizes], fun G cvs hr => hr⟩
  | t :: ts, cs, x, r, h => by
    simp only [Ty.ofCs] at h
    split at h
    · rename_i y r1 h1
      split at h
      · rename_i z r2 h2
        cases h
        obtain ⟨a1, a2⟩ := Ty.ofC_ok t _ _ _ h1
        obtain ⟨b1, b2⟩ := Ty.ofCs_ok ts _ _ _ h2
        refine ⟨by simp only [Ty.sizes]; omega, fun G cvs hr => ?_⟩
        have q := a2 G cvs hr
        simp only [Ty.cellss, List.append_assoc]
        exact Rels.join (t.cells y).length q.split.1 (b2 G _ q.split.2)
      · cases h
    · cases h
end
theorem Ty.ofV_ok {t : Ty} {v : V} {x : t.den} (h : t.ofV v = some x) {G : Gh} {cv : Value} (hr : VRel G v cv) : VRel G (t.val x) cv := by
  unfold Ty.ofV at h
  split at h
  · rename_i hb
    obtain ⟨h1, h2⟩ := whole_ok (Ty.ofC_ok t) h
    have hany : v ≠ .any := by
      rintro rfl
      unfold whole at h
      cases t <;> simp [V.cells, Ty.ofC, boolC, intC, strC, sliceC, Ty.isAgg, V.isAggV] at h hb
    have hc := h2 G _ (hr.cells hany)
    cases t with
    | agg fs =>
      cases v <;> simp [Ty.isAgg, V.isAggV] at hb
      cases hr with
      | agg hl hh => exact VRel.mk_agg hc
    | _ =>
      have hone : v.cells = [v] := by cases v <;> first | rfl | (simp [Ty.isAgg, V.isAggV] at hb)
      have hcv : cv.cells.toList = [cv] := by
        have := hr.cells hany
        rw [hone] at this
        obtain ⟨l1, l2⟩ := this
        cases cv <;> first | rfl | (cases v <;> first | (cases hr; done) | (simp [Ty.isAgg, V.isAggV] at hb; done) | (exact absurd rfl hany) | (cases hr; rename_i q; obtain ⟨_, _, e⟩ := q.slice_form; cases e))
      rw [hcv] at hc
      exact hc.2 0 _ cv rfl rfl
  · cases h
theorem Ty.ofVs_ok : ∀ {ts : List Ty} {vs : List V} {x : Ty.dens ts}, Ty.ofVs ts vs = some x → ∀ {G : Gh} {cvs : List Value}, Rels G vs cvs → Rels G (Ty.vals ts x) cvs
  | [], [], x, h, G, cvs, hr => hr
  | [], v :: vs, x, h, G, cvs, hr => by cases h
  | t :: ts, [], x, h, G, cvs, hr => by cases h
  | t :: ts, v :: vs, x, h, G, cvs, hr => by
    simp only [Ty.ofVs] at h
    split at h
    · rename_i y z h1 h2
      cases h
      match cvs, hr.1 with
      | c :: cs, _ => exact Rels.cons (Ty.ofV_ok h1 (hr.2 0 v c rfl rfl)) (Ty.ofVs_ok h2 (by simpa using hr.drop 1))
    · cases h
end Go.Proofs.Ytnjjkobijjdnbaa

