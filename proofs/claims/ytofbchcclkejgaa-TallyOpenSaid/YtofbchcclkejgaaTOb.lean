/- Parts of the library of texts, one after the other: Ev2, Ev3, Ev4, Ev5, Ev6. -/
import Derived.Test.YtofbchcclkejgaaTOa
import Derived.RangeFuncNested
import Derived.RangeFuncRecord
import Derived.OrdersIn
import Derived.LoopNIn
/- States of the abstract values, their relation to the machine's state, and the judgements. -/
set_option linter.unusedVariables false
namespace Go.Proofs.Ytofbchcclkejgaa
open Go
abbrev Ob := List (Option (List V))
inductive BC where
 | cs (sz : Nat) (l : List V)
 | arr (ty : Ty) (l : List ty.den)
 | u8 (sy : Bool) (E : TypeId) (l : List Int)   -- bytes, in a row whose type is known
def BC.els : BC → List V
 | .cs _ l => l
 | .arr ty l => l.map ty.val
 | .u8 sy _ l => l.map fun n => match sy with | true => .si .u8 n | false => .i .u8 n
def BC.sz : BC → Nat
 | .cs sz _ => sz
 | .arr ty _ => ty.size
 | .u8 _ _ _ => 1
def BC.len : BC → Nat
 | .cs _ l => l.length
 | .arr _ l => l.length
 | .u8 _ _ l => l.length
def BC.u8E : BC → Option TypeId
 | .u8 _ E _ => some E
 | _ => none
theorem BC.els_len (c : BC) : c.els.length = c.len := by cases c <;> simp [BC.els, BC.len]
inductive Bf where
 | dead
 | live (c : BC)
abbrev Nm := List (Option Bf)
structure St where
 tm : List V
 ob : Ob
 nm : Nm
 kh : Nat   -- how many objects and buffers the function began with
 kt : Nat
structure BufOk (G : Gh) (w : World) (x : Tail) (c : BC) : Prop where
 old : G.w0.own x.b
 row : ∃ (cvs : Array Value) (E : TypeId) (fr : Nat × Nat), w.heap[x.b]? = some (.cells cvs E fr) ∧ (fr = (0, 0) ∨ cvs.size ≤ fr.1) ∧ x.lo + x.cap * x.sz ≤ cvs.size ∧ Rels G (flat c.els) ((cvs.toList.drop x.lo).take (flat c.els).length)
 sz : x.sz = c.sz
 el : ∀ v ∈ c.els, v.cells.length = c.sz
 len : c.len = x.len
 cap : x.len ≤ x.cap
 free : ∀ off, x.lo ≤ off → off < x.lo + x.cap * x.sz → G.M x.b off = none
 obj : ∀ o, G.H o ≠ some x.b
 u8 : ∀ E, c.u8E = some E → ∃ cvs fr, w.heap[x.b]? = some (.cells cvs E fr)
def DOk (w : World) (l : Nat) : Obj → Prop
 | .cells c E fr => ∃ n c' fr', (.cells c E fr : Obj) = tyFact E n ∧ w.heap[l]? = some (.cells c' E fr') ∧ c'.size = n
 | o => w.heap[l]? = some o
theorem DOk.heap {w : World} {l : Nat} {o : Obj} (h : DOk w l o) (hc : o.isCells = false) : w.heap[l]? = some o := by
 cases o <;> first | exact h | cases hc
theorem DOk.of_heap {w : World} {l : Nat} {o : Obj} (h : w.heap[l]? = some o) (hc : o.isCells = false) : DOk w l o := by
 cases o <;> first | exact h | cases hc
theorem DOk.has {w : World} {l : Nat} {o : Obj} (h : DOk w l o) : ∃ o', w.heap[l]? = some o' := by
 cases o <;> first | exact ⟨_, h⟩ | (obtain ⟨_, _, _, _, h, _⟩ := h; exact ⟨_, h⟩)
theorem DOk.to {w w' : World} {l : Nat} {o : Obj} (h : DOk w l o) (hb : w'.heap[l]? = w.heap[l]?) : DOk w' l o := by
 cases o <;> first | exact hb.trans h | (obtain ⟨n, c, fr, h1, h2, h3⟩ := h; exact ⟨n, c, fr, h1, hb.trans h2, h3⟩)
theorem DOk.row {w w' : World} {l : Nat} {o : Obj} (h : DOk w l o) {c c' : Array Value} {E : TypeId} {fr fr' : Nat × Nat} (hw : w.heap[l]? = some (.cells c E fr)) (hw' : w'.heap[l]? = some (.cells c' E fr')) (hs : c'.size = c.size) : DOk w' l o := by
 cases o with
 | cells x F f =>
  obtain ⟨n, d, fr2, h1, h2, h3⟩ := h
  rw [hw] at h2
  cases h2
  exact ⟨n, c', fr', h1, hw', hs.trans h3⟩
 | _ =>
  have h : w.heap[l]? = _ := h
  rw [hw] at h
  cases h
theorem DOk.inj {w : World} {l : Nat} {o o' : Obj} (h : DOk w l o) (k : DOk w l o') : o = o' := by
 cases o with
 | cells x F f =>
  obtain ⟨n, d, fr, h1, h2, h3⟩ := h
  cases o' with
  | cells x' F' f' =>
   obtain ⟨n', d', fr', k1, k2, k3⟩ := k
   rw [h2] at k2
   cases k2
   rw [h1, k1, ← h3, ← k3]
  | _ => have k : w.heap[l]? = _ := k; rw [h2] at k; cases k
 | _ =>
  have h : w.heap[l]? = _ := h
  cases o' with
  | cells x' F' f' => obtain ⟨n', d', fr', k1, k2, k3⟩ := k; rw [h] at k2; cases k2
  | _ => have k : w.heap[l]? = _ := k; rw [h] at k; first | (cases k; rfl) | cases k
structure WRel (Γ : Nat → Option V) (G : Gh) (ob : Ob) (nm : Nm) (w : World) : Prop where
 m : ∀ b off cv, G.M b off = some cv → w.cell? ⟨b, off, none⟩ = some cv
 hob : ∀ (o : Nat) (cs : List V) (b : Nat), ob[o]? = some (some cs) → G.H o = some b → G.w0.own b ∧ (∃ (cvs : Array Value) (E : TypeId) (fr : Nat × Nat), w.heap[b]? = some (.cells cvs E fr) ∧ (fr = (0, 0) ∨ cvs.size ≤ fr.1) ∧ cs.length ≤ cvs.size ∧ Rels G cs (cvs.toList.take cs.length)) ∧ ∀ off, G.M b off = none
 hlt : ∀ o b, G.H o = some b → o < ob.length ∧ b < w.heap.size
 habs : ∀ (o : Nat), ob[o]? = some none → G.H o = none
 inj : ∀ o o' b, G.H o = some b → G.H o' = some b → o = o'
 hnm : ∀ (n : Nat) (c : BC) (x : Tail), nm[n]? = some (some (.live c)) → G.T n = some x → BufOk G w x c
 hno : ∀ (n : Nat) (c : BC), nm[n]? = some (some (.live c)) → G.T n = none → c.len = 0
 nmd : ∀ (n n' : Nat) (c c' : BC) (x x' : Tail), n ≠ n' → nm[n]? = some (some (.live c)) → nm[n']? = some (some (.live c')) → G.T n = some x → G.T n' = some x' → x.b ≠ x'.b
 tabs : ∀ (n : Nat), nm[n]? = some none → G.T n = none
 tlt : ∀ n x, G.T n = some x → n < nm.length
 dd : ∀ l o, G.D l = some o → DOk w l o ∧ (o.isCells = false → G.w0.own l)
 kdle : G.kd ≤ w.heap.size
 gl : ∀ g v, Γ g = some v → VRel G.bare v (.pointer (some ⟨g, 0, none⟩))
 mold : ∀ b off, ¬ G.w0.own b → G.M b off = G.M0 b off
 os : w.os = G.w0.os
 tape : w.tape = G.w0.tape
 output : w.output = G.w0.output
 size : G.w0.heap.size ≤ w.heap.size
 block : ∀ k, ¬ G.w0.own k → w.heap[k]? = G.w0.heap[k]?
structure MarksL (G : Gh) (ds : List Deferred) : Prop where
 nd : ds.Nodup
 at_ : ∀ d ∈ ds, ∃ D, d = { target := .collected D, args := #[] } ∧ G.kd ≤ D ∧ G.D D = some (.deferred (some []))
theorem MarksL.nil (G : Gh) : MarksL G [] := ⟨.nil, fun _ h => by cases h⟩
theorem MarksL.mono {G G' : Gh} (hd : ∀ l o, G.D l = some o → G'.D l = some o) (hk : G'.kd = G.kd) {ds : List Deferred} (h : MarksL G ds) : MarksL G' ds :=
 ⟨h.nd, fun d hd' => let ⟨D, e, h1, h2⟩ := h.at_ d hd'; ⟨D, e, hk ▸ h1, hd _ _ h2⟩⟩
def Marks (G : Gh) (ds : List Deferred) : Prop := ∃ ms, ds = ms ++ G.w0.bd ∧ MarksL G ms
theorem Marks.nil (G : Gh) (h : G.w0.bd = []) : Marks G [] := ⟨[], by simp [h], .nil G⟩
theorem Marks.mono {G G' : Gh} (hd : ∀ l o, G.D l = some o → G'.D l = some o) (hk : G'.kd = G.kd) (hw : G'.w0 = G.w0) {ds : List Deferred} (h : Marks G ds) : Marks G' ds :=
 let ⟨ms, e, h⟩ := h; ⟨ms, by rw [hw]; exact e, h.mono hd hk⟩
structure Rel (Γ : Nat → Option V) (G : Gh) (σ : St) (a : Act) (w : World) : Prop where
 tm : Rels G σ.tm a.tmps.toList
 wr : WRel Γ G σ.ob σ.nm w
 df : Marks G a.defers
 kh : G.kh = σ.kh
 kt : G.kt = σ.kt
abbrev wideR (ro : Option Nat) : Fence := { Fence.wide with round := ro }
theorem callsR {ro : Option Nat} {n : Nat} {P : Program} {f : FuncId} {args : Array Value} {w : World} {R : Ending → World → Prop} : CallsIn (wideR ro) n P f args w R ↔ Calls P f args w R :=
 callsIn_wide (n := n)
theorem depthR {ro : Option Nat} {n : Nat} : (wideR ro).depth.isSome = true → 1 ≤ n := fun h => by cases h
def RoOk (G : Gh) (ro : Option Nat) : Prop := ∀ l, ro = some l → ∃ r, G.D l = some (.loop r)
theorem RoOk.leW {G G' : Gh} {ro : Option Nat} (h : RoOk G ro) (k : G.leW G') : RoOk G' ro := fun l e => let ⟨r, hr⟩ := h l e; ⟨r, k.d _ _ hr⟩
theorem RoOk.none (G : Gh) : RoOk G none := fun _ h => by cases h
def SemC (P : Program) (Γ : Nat → Option V) (c : Code) (σ : St) (x : Exit) (σ' : St) : Prop :=
 ∀ (ro : Option Nat) G a w, Rel Γ G σ a w → RoOk G ro → c.wpIn (wideR ro) 0 P (fun e a' w' => e = x ∧ ∃ G', G.leW G' ∧ Rel Γ G' σ' a' w') a w
def YCalls (P : Program) (cargs : List Value) (w : World) (R : Ending → World → Prop) : Prop :=
 ∃ (l : Nat) (rest : List Value), cargs = .func (.yield l) #[] #[] :: rest ∧ ∃ fn tmps as bd, (Instr.yield l rest.toArray).run P w = .ok (.round l fn tmps as bd) w ∧ RoundIn Fence.wide 0 P l fn tmps as bd w R
def CallsX (P : Program) (f : FuncId) (cargs : Array Value) (w : World) (R : Ending → World → Prop) : Prop :=
 match P.funcs[f]? with
 | none => YCalls P cargs.toList w R
 | some _ => Calls P f cargs w R
theorem CallsX.mono {P : Program} {f : FuncId} {cargs : Array Value} {w : World} {R R' : Ending → World → Prop} (h : CallsX P f cargs w R) (hr : ∀ e w', R e w' → R' e w') : CallsX P f cargs w R' := by
 unfold CallsX at *
 split at h
 · obtain ⟨l, rest, e, fn, tmps, as, bd, h1, h2⟩ := h
   exact ⟨l, rest, e, fn, tmps, as, bd, h1, h2.mono hr⟩
 · exact Calls.mono h hr
theorem callsX_fn {P : Program} {f : FuncId} {fn : Func} (hf : P.funcs[f]? = some fn) {cargs : Array Value} {w : World} {R : Ending → World → Prop} : CallsX P f cargs w R ↔ Calls P f cargs w R := by
 unfold CallsX; rw [hf]
theorem callsX_yield {P : Program} {f : FuncId} (hf : P.funcs[f]? = none) {cargs : Array Value} {w : World} {R : Ending → World → Prop} : CallsX P f cargs w R ↔ YCalls P cargs.toList w R := by
 unfold CallsX; rw [hf]
def yid : FuncId := 4000000000
def SemF (P : Program) (Γ : Nat → Option V) (f : FuncId) (args : List V) (ob : Ob) (nm : Nm) (res : V) (ob' : Ob) (nm' : Nm) : Prop :=
 ∀ (G : Gh) (w : World) (cargs : List Value), WRel Γ G ob nm w → Rels G args cargs →
  CallsX P f cargs.toArray w fun e w' => ∃ cv G', e = .returned cv ∧ G.le G' ∧ VRel G' res cv ∧ WRel Γ G' ob' nm' w'
def SemR (P : Program) (Γ : Nat → Option V) (ops : Array Oper) (l : List Nat) (σ σ' : St) : Prop :=
 ∀ (ro : Option Nat) G a w, Rel Γ G σ a w → wpOpsIn (wideR ro) 0 P ops (fun e a' w' => e = .normal ∧ ∃ G', G.le G' ∧ Rel Γ G' σ' a' w') l a w
def SemV (P : Program) (Γ : Nat → Option V) (o : Oper) (σ : St) (v : V) (ob' : Ob) (nm' : Nm) : Prop :=
 ∀ (ro : Option Nat) G a w (K : Act → World → Prop) (Q : Exit → Act → World → Prop), Rel Γ G σ a w → (∀ G' cv w', G.le G' → VRel G' v cv → WRel Γ G' ob' nm' w' → K (a.put o.dst cv) w') → o.wpIn (wideR ro) 0 P a w K Q
section
variable {P : Program} {Γ : Nat → Option V} {σ σ1 σ2 : St} {x : Exit}
theorem SemC.skip : SemC P Γ .skip σ .normal σ := fun ro G a w h _ => wpIn_skip ⟨rfl, G, .refl G, h⟩
theorem SemC.ret : SemC P Γ .ret σ .ret σ := fun ro G a w h _ => wpIn_ret ⟨rfl, G, .refl G, h⟩
theorem SemC.exit {id : Nat} : SemC P Γ (.exit id) σ (.exit id) σ := fun ro G a w h _ => wpIn_exit ⟨rfl, G, .refl G, h⟩
theorem SemC.seq {c d : Code} (h : SemC P Γ c σ .normal σ1) (k : SemC P Γ d σ1 x σ2) : SemC P Γ (.seq c d) σ x σ2 := by
 intro ro G a w hr ho
 refine wpIn_seq (wpIn_mono (h ro G a w hr ho) ?_)
 rintro e a' w' ⟨rfl, G1, h1, r1⟩
 refine wpIn_mono (k ro G1 a' w' r1 (ho.leW h1)) ?_
 rintro e a'' w'' ⟨rfl, G2, h2, r2⟩
 exact ⟨rfl, G2, h1.trans h2, r2⟩
theorem SemC.seq_out {c d : Code} (hx : x ≠ .normal) (h : SemC P Γ c σ x σ1) : SemC P Γ (.seq c d) σ x σ1 := by
 intro ro G a w hr ho
 refine wpIn_seq (wpIn_mono (h ro G a w hr ho) ?_)
 rintro e a' w' ⟨rfl, G1, h1, r1⟩
 cases e <;> first | exact absurd rfl hx | exact ⟨rfl, G1, h1, r1⟩
theorem SemC.block {id : Nat} {c : Code} (hx : x ≠ .exit id) (h : SemC P Γ c σ x σ1) : SemC P Γ (.block id c) σ x σ1 := by
 intro ro G a w hr ho
 refine wpIn_block (wpIn_mono (h ro G a w hr ho) ?_)
 rintro e a' w' ⟨rfl, G1, h1, r1⟩
 cases e with
 | exit i =>
  have : i ≠ id := fun hh => hx (by rw [hh])
  simp only [Exit.inBlock, this, if_false]
  exact ⟨trivial, G1, h1, r1⟩
 | _ => exact ⟨rfl, G1, h1, r1⟩
theorem SemC.block_exit {id : Nat} {c : Code} (h : SemC P Γ c σ (.exit id) σ1) : SemC P Γ (.block id c) σ .normal σ1 := by
 intro ro G a w hr ho
 refine wpIn_block (wpIn_mono (h ro G a w hr ho) ?_)
 rintro e a' w' ⟨rfl, G1, h1, r1⟩
 simp only [Exit.inBlock, if_true]
 exact ⟨trivial, G1, h1, r1⟩
def SemLn (P : Program) (Γ : Nat → Option V) (c : Code) (n : Nat) (σ : St) (x : Exit) (σ' : St) : Prop :=
 ∀ (ro : Option Nat) G a w, Rel Γ G σ a w → RoOk G ro → Code.roundsIn (wideR ro) 0 P c (fun e a' w' => e = x ∧ ∃ G', G.leW G' ∧ Rel Γ G' σ' a' w') n a w
def SemL (P : Program) (Γ : Nat → Option V) (c : Code) (σ : St) (x : Exit) (σ' : St) : Prop := ∃ n, SemLn P Γ c n σ x σ'
theorem rounds_mono {ro : Option Nat} {c : Code} {Q Q' : Exit → Act → World → Prop} (hq : ∀ e a w, Q e a w → Q' e a w) : ∀ (n : Nat) (a : Act) (w : World), Code.roundsIn (wideR ro) 0 P c Q n a w → Code.roundsIn (wideR ro) 0 P c Q' n a w
 | 0, _, _, h => h
 | n + 1, a, w, h => by
  rw [roundsIn_succ] at h ⊢
  refine wpIn_mono h ?_
  intro e a' w' h'
  cases e <;> first | exact rounds_mono hq n _ _ h' | exact hq _ _ _ h'
theorem SemL.next {c : Code} (h : SemC P Γ c σ .normal σ1) (k : SemL P Γ c σ1 x σ2) : SemL P Γ c σ x σ2 := by
 obtain ⟨n, k⟩ := k
 refine ⟨n + 1, fun ro G a w hr ho => ?_⟩
 rw [roundsIn_succ]
 refine wpIn_mono (h ro G a w hr ho) ?_
 rintro e a' w' ⟨rfl, G1, h1, r1⟩
 refine rounds_mono ?_ n _ _ (k ro G1 a' w' r1 (ho.leW h1))
 rintro e a'' w'' ⟨rfl, G2, h2, r2⟩
 exact ⟨rfl, G2, h1.trans h2, r2⟩
theorem SemL.out {c : Code} (hx : x ≠ .normal) (h : SemC P Γ c σ x σ1) : SemL P Γ c σ x σ1 := by
 refine ⟨1, fun ro G a w hr ho => ?_⟩
 rw [roundsIn_succ]
 refine wpIn_mono (h ro G a w hr ho) ?_
 rintro e a' w' ⟨rfl, G1, h1, r1⟩
 cases e <;> first | exact absurd rfl hx | exact ⟨rfl, G1, h1, r1⟩
theorem SemC.loop {c : Code} (h : SemL P Γ c σ x σ1) : SemC P Γ (.loop c) σ x σ1 := by
 obtain ⟨n, h⟩ := h
 exact fun ro G a w hr ho => wpIn_loop_rounds n (h ro G a w hr ho)
theorem LetsOut_mono {Q Q' : Exit → Act → World → Prop} (hq : ∀ e a w, Q e a w → Q' e a w) (h : LetsOut Q) : LetsOut Q' := let ⟨a, w, h⟩ := h; ⟨a, w, hq _ _ _ h⟩
theorem CallsIn_mono {F : Fence} {n : Nat} {f : FuncId} {args : Array Value} {w : World} {R R' : Ending → World → Prop} (h : CallsIn F n P f args w R) (hr : ∀ e w', R e w' → R' e w') : CallsIn F n P f args w R' :=
 ⟨h.1, fun cs hroom => let ⟨e, w', fr, r, s⟩ := h.2 cs hroom; ⟨e, w', fr, hr _ _ r, s⟩⟩
theorem Oper_wp_mono2 {F : Fence} {o : Oper} {a : Act} {w : World} {K K' : Act → World → Prop} {Q Q' : Exit → Act → World → Prop} (h : ∀ a w, K a w → K' a w) (hq : ∀ e a w, Q e a w → Q' e a w)
 (hh : o.wpIn F 0 P a w K Q) : o.wpIn F 0 P a w K' Q' := by
 unfold Oper.wpIn at *
 refine ⟨hh.1, ?_⟩
 have hh := hh.2
 generalize (o.semAt F.round a.eval).run P w = r at *
 cases r with
 | ok n w' =>
  cases n <;> simp only [Oper.uponIn] at hh ⊢ <;>
   first
    | exact h _ _ hh
    | exact ⟨hh.1, CallsIn_mono hh.2 (fun e w'' he => by cases e <;> first | exact h _ _ he | exact hq _ _ _ he | exact LetsOut_mono hq he)⟩
    | exact ⟨hh.1, RoundIn.mono hh.2 (fun e w'' he => by cases e <;> first | exact h _ _ he | exact hq _ _ _ he | exact LetsOut_mono hq he)⟩
    | exact ⟨hh.1, RowsIn.mono hh.2 (fun _ _ he => h _ _ he)⟩
 | halt x w' => cases x <;> simp only [Oper.uponIn] at hh ⊢ <;> first | exact hq _ _ _ hh | exact hh
theorem wpOps_mono {F : Fence} {ops : Array Oper} {Q Q' : Exit → Act → World → Prop} (hq : ∀ e a w, Q e a w → Q' e a w) : ∀ (l : List Nat) (a : Act) (w : World), wpOpsIn F 0 P ops Q l a w → wpOpsIn F 0 P ops Q' l a w
 | [], _, _, h => hq _ _ _ h
 | i :: l, a, w, h => by
  simp only [wpOpsIn] at h ⊢
  split
  · rename_i ho; simp only [ho] at h; exact wpOps_mono hq l _ _ h
  · rename_i o ho
    simp only [ho] at h
    split
    · rename_i hw
      simp only [hw, if_true] at h
      exact Oper_wp_mono2 (fun a w => wpOps_mono hq l a w) hq h
    · rename_i hw
      simp only [hw] at h
      exact ⟨h.1, wpOps_mono hq l _ _ h.2⟩
theorem SemC.region {id : Nat} {ops : Array Oper} (h : SemR P Γ ops (List.range ops.size) σ σ1) : SemC P Γ (.region id ops false) σ .normal σ1 :=
 fun ro G a w hr _ => wpIn_region (wpOps_mono (fun e a' w' ⟨h1, G', h2, h3⟩ => ⟨h1, G', h2.weak, h3⟩) _ _ _ (h ro G a w hr))
theorem SemR.nil {ops : Array Oper} : SemR P Γ ops [] σ σ := fun ro G a w hr => ⟨rfl, G, .refl G, hr⟩
def wantedV (ops : Array Oper) (tm : List V) (o : Oper) : Option Bool :=
 match o.guard with
 | none => some true
 | some (j, want) =>
  match (ops[j]?).bind (·.dst) with
  | none => some false
  | some d =>
   match tm[d]? with
   | some (.b x) => some (x == want)
   | some (.sb x) => some (x == want)
   | some (.tup _) => some false
   | _ => none
theorem wanted_of {G : Gh} {ops : Array Oper} {tm : List V} {a : Act} {o : Oper} {t : Bool} (hr : Rels G tm a.tmps.toList) (h : wantedV ops tm o = some t) : Region.wanted o (yielded ops a.tmps) = t := by
 unfold wantedV at h
 unfold Region.wanted
 split at h
 · rename_i hg; simp [hg] at h ⊢; exact h
 · rename_i j want hg
   simp only [hg]
   unfold yielded
   split at h
   · rename_i hd; simp [hd] at h ⊢; exact h
   · rename_i d hd
     simp only [hd, Option.bind_some]
     split at h
     · rename_i x hx
       obtain ⟨cv, hc, hv⟩ := hr.of_get hx
       cases hv
       have : a.tmps[d]? = some (.bool x) := by simpa using hc
       simp only [this]
       simp at h
       subst h
       cases x <;> cases want <;> rfl
     · rename_i x hx
       obtain ⟨cv, hc, hv⟩ := hr.of_get hx
       cases hv
       have : a.tmps[d]? = some (.bool x) := by simpa using hc
       simp only [this]
       simp at h
       subst h
       cases x <;> cases want <;> rfl
     · rename_i xs hx
       obtain ⟨cv, hc, hv⟩ := hr.of_get hx
       cases hv
       rename_i c _ _
       have : a.tmps[d]? = some (.tuple c) := by simpa using hc
       simp only [this]
       simp at h
       subst h
       rfl
     · cases h
def St.put (σ : St) (d : Option Nat) (v : V) : St :=
 match d with
 | some t => { σ with tm := σ.tm.set t v }
 | none => σ
theorem Rel.put {G : Gh} {a : Act} {w : World} (h : Rel Γ G σ a w) (d : Option Nat) {v : V} {cv : Value} (hv : VRel G v cv) : Rel Γ G (σ.put d v) (a.put d cv) w := by
 cases d with
 | none => exact h
 | some t => exact ⟨by simpa [St.put, Act.put] using h.tm.set hv t, h.wr, h.df, h.kh, h.kt⟩
theorem VRel.undef (G : Gh) : VRel G (.tup []) Go.undef := .tup (by simp) (fun j v cv h => by simp at h)
end
end Go.Proofs.Ytofbchcclkejgaa

/- Operations, one by one. -/
set_option linter.unusedVariables false
namespace Go.Proofs.Ytofbchcclkejgaa
open Go
def ofCell : Value → V
 | .bool x => .b x
 | .int k n => .i k n
 | .string s => .s s
 | .pointer p => match p with | none => .nil | some _ => .any
 | .slice p l c => match p, l, c with | none, 0, 0 => .lst .full [] | _, _, _ => .any
 | .func f x c => if x.size = 0 ∧ c.size = 0 then .fn f [] [] else .any
 | .nilFunc => .nilfn
 | .nilIface => .nilifc
 | .float _ _ => .any
 | .complex _ _ _ => .any
 | .map _ => .any
 | .chan _ => .any
 | .iface _ _ => .any
 | .agg _ => .any
 | .tuple vs => if vs.size = 0 then .tup [] else .any
def ofVal : Value → V
 | .agg cs => .agg (cs.toList.map ofCell)
 | v => ofCell v
theorem ofCell_rel (G : Gh) (v : Value) : VRel G (ofCell v) v := by
 cases v with
 | bool x => exact .b _
 | int k n => exact .i _ _
 | string s => exact .s _
 | pointer p => cases p with | none => exact .nil | some _ => exact .any _
 | slice p l c => simp only [ofCell]; split <;> first | exact .lst0 _ _ | exact .any _
 | func f x c =>
  simp only [ofCell]
  split
  · rename_i h
    exact .fn (by simpa using h.1) (by simpa using h.2) (fun j v cv h => by simp at h) (fun j v cv h => by simp at h)
  · exact .any _
 | nilFunc => exact .nilfn
 | nilIface => exact .nilifc
 | tuple vs =>
  simp only [ofCell]
  split
  · rename_i h; exact .tup (by simpa using h) (fun j v cv h => by simp at h)
  · exact .any _
 | _ => exact .any _
theorem ofVal_rel (G : Gh) (v : Value) : VRel G (ofVal v) v := by
 cases v with
 | agg cs =>
  refine .agg (by simp) (fun j v cv h k => ?_)
  simp only [List.getElem?_map, Array.getElem?_toList, k, Option.map_some, Option.some.injEq] at h
  subst h
  exact ofCell_rel G cv
 | _ => simp only [ofVal]; exact ofCell_rel G _
def St.eval (Γ : Nat → Option V) (σ : St) : Operand → V
 | .tmp t => (σ.tm[t]?).getD (.tup [])
 | .const v => ofVal v
 | .global g => (Γ g).getD .any
 | .func f => .fn (.func f) [] []
theorem VRel.int_eq {G : Gh} {k : IntKind} {n : Int} {cv : Value} (h : VRel G (.i k n) cv) : cv = .int k n := by cases h; rfl
def V.bool? : V → Option (Bool × Bool)
 | .b x => some (x, false)
 | .sb x => some (x, true)
 | _ => none
def V.int? : V → Option (IntKind × Int × Bool)
 | .i k n => some (k, n, false)
 | .si k n => some (k, n, true)
 | _ => none
def V.str? : V → Option (ByteArray × Bool)
 | .s x => some (x, false)
 | .ss x => some (x, true)
 | _ => none
def mkB (s x : Bool) : V := match s with | true => .sb x | false => .b x
def mkI (s : Bool) (k : IntKind) (n : Int) : V := match s with | true => .si k n | false => .i k n
def mkS (s : Bool) (x : ByteArray) : V := match s with | true => .ss x | false => .s x
theorem mkB_rel (G : Gh) (s x : Bool) : VRel G (mkB s x) (.bool x) := by cases s <;> constructor
theorem mkI_rel (G : Gh) (s : Bool) (k : IntKind) (n : Int) : VRel G (mkI s k n) (.int k n) := by cases s <;> constructor
theorem mkS_rel (G : Gh) (s : Bool) (x : ByteArray) : VRel G (mkS s x) (.string x) := by cases s <;> constructor
theorem bool?_eq {G : Gh} {v : V} {cv : Value} {x s : Bool} (h : v.bool? = some (x, s)) (hr : VRel G v cv) : cv = .bool x := by
 cases v <;> simp [V.bool?] at h <;> obtain ⟨rfl, rfl⟩ := h <;> cases hr <;> rfl
theorem int?_eq {G : Gh} {v : V} {cv : Value} {k : IntKind} {n : Int} {s : Bool} (h : v.int? = some (k, n, s)) (hr : VRel G v cv) : cv = .int k n := by
 cases v <;> simp [V.int?] at h <;> obtain ⟨rfl, rfl, rfl⟩ := h <;> cases hr <;> rfl
theorem str?_eq {G : Gh} {v : V} {cv : Value} {x : ByteArray} {s : Bool} (h : v.str? = some (x, s)) (hr : VRel G v cv) : cv = .string x := by
 cases v <;> simp [V.str?] at h <;> obtain ⟨rfl, rfl⟩ := h <;> cases hr <;> rfl
section
variable {P : Program} {Γ : Nat → Option V} {σ : St} {G : Gh} {a : Act} {w : World}
theorem Rel.eval (h : Rel Γ G σ a w) (x : Operand) : VRel G (σ.eval Γ x) (a.eval x) := by
 cases x with
 | tmp t =>
  simp only [St.eval, Act.eval]
  cases hv : σ.tm[t]? with
  | none =>
   have hl := h.tm.1
   have : σ.tm.length ≤ t := by
    rcases Nat.lt_or_ge t σ.tm.length with h' | h'
    · simp [List.getElem?_eq_getElem h'] at hv
    · exact h'
   have : a.tmps.size ≤ t := by simp at hl; omega
   simp only [Option.getD_none, Array.getD_eq_getD_getElem?, Array.getElem?_eq_none this]
   exact VRel.undef G
  | some v =>
   obtain ⟨cv, hc, hr⟩ := h.tm.of_get hv
   have : a.tmps[t]? = some cv := by simpa using hc
   simpa [Array.getD_eq_getD_getElem?, this] using hr
 | const v => exact ofVal_rel G v
 | global g =>
  simp only [St.eval, Act.eval]
  cases hv : Γ g with
  | none => exact .any _
  | some v => exact (h.wr.gl g v hv).mono' G.bare_sub
 | func f => exact .fn rfl rfl (fun j v cv h => by simp at h) (fun j v cv h => by simp at h)
theorem semAt_of {ro : Option Nat} {o : Oper} {ρ : Operand → Value} {n : Next} {w w' : World} (h : (execOp ρ o).run P w = .ok n w') (hn : ∀ d, n ≠ .defer d) : (o.semAt ro ρ).run P w = .ok n w' := by
 rw [Oper.semAt_eq ro ρ o ?_]
 · exact h
 · intro c hc
   simp only [execOp, hc, Sem.run_bind] at h
   cases hr : (resolve ρ c o.type).run P w with
   | ok d w1 => rw [hr] at h; simp [Result.andThen] at h; exact hn _ h.1.symm
   | halt x w1 => rw [hr] at h; simp [Result.andThen] at h
theorem semAt_val {ro : Option Nat} {o : Oper} {ρ : Operand → Value} {cv : Value} {w w' : World} (h : (execOp ρ o).run P w = .ok (.value cv) w') : (o.semAt ro ρ).run P w = .ok (.value cv) w' :=
 semAt_of h (fun _ h => by cases h)
theorem semAt_skip {ro : Option Nat} {o : Oper} {ρ : Operand → Value} {w w' : World} (h : (execOp ρ o).run P w = .ok .skip w') : (o.semAt ro ρ).run P w = .ok .skip w' :=
 semAt_of h (fun _ h => by cases h)
theorem SemV.of_val {o : Oper} {v : V} {ob' : Ob} {nm' : Nm} (h : ∀ G a w, Rel Γ G σ a w → ∃ cv w' G', (execOp a.eval o).run P w = .ok (.value cv) w' ∧ G.le G' ∧ VRel G' v cv ∧ WRel Γ G' ob' nm' w') :
 SemV P Γ o σ v (ob') (nm') := by
 intro ro G a w K Q hr hk
 obtain ⟨cv, w', G', hrun, hle, hv, hw⟩ := h G a w hr
 refine ⟨fun _ _ => trivial, ?_⟩
 rw [semAt_val hrun]
 exact hk G' _ w' hle hv hw
theorem SemV.of_pure {o : Oper} {v : V} (h : ∀ G a w, Rel Γ G σ a w → ∃ cv, (execOp a.eval o).run P w = .ok (.value cv) w ∧ VRel G v cv) : SemV P Γ o σ v σ.ob σ.nm :=
 SemV.of_val (ob' := σ.ob) (nm' := σ.nm) fun G a w hr => let ⟨cv, h1, h2⟩ := h G a w hr; ⟨cv, w, G, h1, .refl G, h2, hr.wr⟩
theorem SemV.move {o : Oper} {x : Operand} (ho : o.op = .move x) : SemV P Γ o σ (σ.eval Γ x) σ.ob σ.nm :=
 SemV.of_pure fun G a w hr => ⟨_, by simp [execOp, ho], hr.eval x⟩
theorem SemV.assign {o : Oper} {x : Operand} (ho : o.op = .assign x) : SemV P Γ o σ (σ.eval Γ x) σ.ob σ.nm :=
 SemV.of_pure fun G a w hr => ⟨_, by simp [execOp, ho], hr.eval x⟩
theorem SemV.makeFunc {o : Oper} {fn : Fn} {first cap : Array Operand} (ho : o.op = .makeFunc fn first cap) :
 SemV P Γ o σ (.fn fn (first.toList.map (σ.eval Γ)) (cap.toList.map (σ.eval Γ))) σ.ob σ.nm :=
 SemV.of_pure fun G a w hr => by
  refine ⟨_, by simp [execOp, ho, Instr.makeFunc]; rfl, ?_⟩
  refine .fn (by simp) (by simp) (fun j v cv h k => ?_) (fun j v cv h k => ?_) <;>
  · simp only [List.getElem?_map, Array.getElem?_toList, Array.getElem?_map, Option.map_eq_some_iff] at h k
    obtain ⟨x, hx, rfl⟩ := h
    obtain ⟨y, hy, rfl⟩ := k
    rw [hx] at hy
    cases hy
    exact hr.eval x
theorem SemV.makeInterface {o : Oper} {T : TypeId} {x : Operand} {d : TypeDesc} (ho : o.op = .makeInterface T x) (hd : P.underlying T = some d) (hn : ∀ m, d ≠ .interface m) :
 SemV P Γ o σ (.ifc T (σ.eval Γ x)) σ.ob σ.nm :=
 SemV.of_pure fun G a w hr => by
  refine ⟨.iface T (a.eval x), ?_, .ifc (hr.eval x)⟩
  cases d with
  | interface m => exact absurd rfl (hn m)
  | _ => simp [execOp, ho, Instr.makeInterface, run_underlying hd]
theorem SemV.extract {o : Oper} {x : Operand} {ix : Nat} {vs : List V} {v : V} (ho : o.op = .extract x ix) (hx : σ.eval Γ x = .tup vs) (hv : vs[ix]? = some v) : SemV P Γ o σ v σ.ob σ.nm :=
 SemV.of_pure fun G a w hr => by
  have h := hr.eval x
  rw [hx] at h
  cases he : a.eval x <;> rw [he] at h <;> cases h
  rename_i c hl hh
  have hlt : ix < c.size := by
   rw [hl]
   rcases Nat.lt_or_ge ix vs.length with h' | h'
   · exact h'
   · simp [List.getElem?_eq_none h'] at hv
  exact ⟨c[ix], by simp [execOp, ho, Instr.extract, he, Array.getElem?_eq_getElem hlt], hh ix v _ hv (Array.getElem?_eq_getElem hlt)⟩
def intOpV (op : BinOp) (k : IntKind) (x : Int) (k' : IntKind) (y : Int) (sx sy : Bool) : Option (Bool × Bool × V) :=
 match op with
 | .shl => some (decide (0 ≤ y), sy, mkI (sx || sy) k (k.wrap (x * 2 ^ (min y.toNat k.bits))))
 | .shr => some (decide (0 ≤ y), sy, mkI (sx || sy) k (x.fdiv (2 ^ (min y.toNat k.bits))))
 | _ =>
  if k ≠ k' then none else
  match op with
  | .add => some (true, false, mkI (sx || sy) k (k.wrap (x + y)))
  | .sub => some (true, false, mkI (sx || sy) k (k.wrap (x - y)))
  | .mul => some (true, false, mkI (sx || sy) k (k.wrap (x * y)))
  | .quo => some (decide (y ≠ 0), sy, mkI (sx || sy) k (k.wrap (x.tdiv y)))
  | .rem => some (decide (y ≠ 0), sy, mkI (sx || sy) k (x.tmod y))
  | .and => some (true, false, mkI (sx || sy) k (k.wrap (BitVec.ofInt k.bits x &&& BitVec.ofInt k.bits y).toNat))
  | .or => some (true, false, mkI (sx || sy) k (k.wrap (BitVec.ofInt k.bits x ||| BitVec.ofInt k.bits y).toNat))
  | .xor => some (true, false, mkI (sx || sy) k (k.wrap (BitVec.ofInt k.bits x ^^^ BitVec.ofInt k.bits y).toNat))
  | .andNot => some (true, false, mkI (sx || sy) k (k.wrap (BitVec.ofInt k.bits x &&& ~~~BitVec.ofInt k.bits y).toNat))
  | .eql => some (true, false, mkB (sx || sy) (x == y))
  | .neq => some (true, false, mkB (sx || sy) (x != y))
  | .lss => some (true, false, mkB (sx || sy) (x < y))
  | .leq => some (true, false, mkB (sx || sy) (x ≤ y))
  | .gtr => some (true, false, mkB (sx || sy) (x > y))
  | .geq => some (true, false, mkB (sx || sy) (x ≥ y))
  | _ => none
def strOpV (op : BinOp) (x y : ByteArray) (s : Bool) : Option (Bool × Bool × V) :=
 match op with
 | .add => some (decide (((x.size + y.size : Nat) : Int) ≤ 9223372036854775807), s, mkS s (x ++ y))
 | .eql => some (true, false, mkB s (x.toList == y.toList))
 | .neq => some (true, false, mkB s (!(x.toList == y.toList)))
 | .lss => some (true, false, mkB s (Op.bytesLess x.toList y.toList))
 | .leq => some (true, false, mkB s (Op.bytesLess x.toList y.toList || x.toList == y.toList))
 | .gtr => some (true, false, mkB s (!(Op.bytesLess x.toList y.toList || x.toList == y.toList)))
 | .geq => some (true, false, mkB s (!Op.bytesLess x.toList y.toList))
 | _ => none
def binX (op : BinOp) (x y : V) : Option (Bool × Bool × V) :=
 match x.int?, y.int? with
 | some (k, a, s), some (k', b, s') => intOpV op k a k' b s s'
 | _, _ =>
  match x.str?, y.str? with
  | some (a, s), some (b, s') => strOpV op a b (s || s')
  | _, _ => none
theorem i64_max : IntKind.i64.max = 9223372036854775807 := rfl
theorem binX_run {op : BinOp} {x y r : V} {c : Bool} {cx cy : Value} (T : TypeId) (hx : VRel G x cx) (hy : VRel G y cy) (h : binX op x y = some (true, c, r)) (w : World) :
    (∃ cv, (Go.binOp op T cx cy).run P w = .ok cv w ∧ VRel G r cv) ∧ ((∀ a b, ¬ (cx = .agg a ∧ cy = .agg b)) ∧ ¬ (cx = .nilIface ∧ cy = .nilIface)) := by
  unfold binX at h
  split at h
  · rename_i k x' s k' y' s' hix hiy
    have := int?_eq hix hx; have := int?_eq hiy hy; subst_vars
    refine ⟨?_, (fun a b hh => by cases hh.1), fun hh => by cases hh.1⟩
    unfold intOpV at h
    split at h
    · simp only [Option.some.injEq, Prod.mk.injEq, decide_eq_true_eq] at h
      obtain ⟨h1, _, rfl⟩ := h
      exact ⟨_, by simp only [Go.binOp, Op.shift, Int.not_lt.2 h1, ↓reduceIte]; rfl, mkI_rel _ _ _ _⟩
    · simp only [Option.some.injEq, Prod.mk.injEq, decide_eq_true_eq] at h
      obtain ⟨h1, _, rfl⟩ := h
      exact ⟨_, by simp only [Go.binOp, Op.shift, Int.not_lt.2 h1, ↓reduceIte]; rfl, mkI_rel _ _ _ _⟩
    · split at h
      · cases h
      · rename_i hk
        have hk : k = k' := by simpa using hk
        subst hk
        split at h <;> first
          | (cases h; done)
          | (simp only [Option.some.injEq, Prod.mk.injEq, decide_eq_true_eq] at h
             obtain ⟨h1, _, rfl⟩ := h
             first
              | exact ⟨_, by simp only [Go.binOp, ne_eq, not_true_eq_false, ↓reduceIte, Op.intArith, Op.intBits, Op.intCmp]; rfl, by first | exact mkI_rel _ _ _ _ | exact mkB_rel _ _ _⟩
              | exact ⟨_, by simp only [Go.binOp, ne_eq, not_true_eq_false, ↓reduceIte, Op.intDiv, h1]; rfl, mkI_rel _ _ _ _⟩)
  · split at h
    · rename_i a s b s' hix hiy
      have := str?_eq hix hx; have := str?_eq hiy hy; subst_vars
      refine ⟨?_, (fun a b hh => by cases hh.1), fun hh => by cases hh.1⟩
      unfold strOpV at h
      split at h <;> first
        | (cases h; done)
        | (simp only [Option.some.injEq, Prod.mk.injEq, decide_eq_true_eq] at h
           obtain ⟨h1, _, rfl⟩ := h
           first
            | exact ⟨_, by simp only [Go.binOp, Op.stringOp]; rfl, mkB_rel _ _ _⟩
            | exact ⟨_, by simp only [Go.binOp, Op.stringOp, i64_max, Int.not_lt.2 h1, ↓reduceIte]; rfl, mkS_rel _ _ _⟩)
    · cases h
end
end Go.Proofs.Ytofbchcclkejgaa

/- Memory: new blocks, loads, stores, addresses. -/
set_option linter.unusedVariables false
namespace Go.Proofs.Ytofbchcclkejgaa
open Go
section
variable {P : Program} {Γ : Nat → Option V} {G : Gh} {ob : Ob} {nm : Nm} {w : World}
theorem heap_alloc_lt {w : World} {k : Nat} (o : Obj) (h : k < w.heap.size) : (w.alloc o).heap[k]? = w.heap[k]? := by
 simp only [World.alloc, Array.getElem?_push]
 rw [if_neg (by omega)]
theorem heap_alloc_self (w : World) (o : Obj) : (w.alloc o).heap[w.heap.size]? = some o := heap_alloc_new w o
theorem lt_of_heap {w : World} {k : Nat} {o : Obj} (h : w.heap[k]? = some o) : k < w.heap.size := by
 rcases Nat.lt_or_ge k w.heap.size with h' | h'
 · exact h'
 · simp [Array.getElem?_eq_none h'] at h
theorem cell_of_heap {w w' : World} {a : Addr} (h : w'.heap[a.block]? = w.heap[a.block]?) : w'.cell? a = w.cell? a := by simp [World.cell?, h]
theorem lt_of_cell {w : World} {a : Addr} {v : Value} (h : w.cell? a = some v) : a.block < w.heap.size := by
 unfold World.cell? at h
 split at h
 · rename_i hh; exact lt_of_heap hh
 · cases h
theorem cell_row {w : World} {b off : Nat} {cvs : Array Value} {E : TypeId} {fr : Nat × Nat} (h : w.heap[b]? = some (.cells cvs E fr)) : w.cell? ⟨b, off, none⟩ = cvs[off]? := by simp [World.cell?, h]
theorem add_none (b off j : Nat) : (⟨b, off, none⟩ : Addr).add j = ⟨b, off + j, none⟩ := by unfold Addr.add; split <;> simp_all
theorem WRel.mlt (h : WRel Γ G ob nm w) {b off : Nat} {cv : Value} (hm : G.M b off = some cv) : b < w.heap.size := lt_of_cell (h.m _ _ _ hm)
theorem WRel.mnew (h : WRel Γ G ob nm w) (off : Nat) : G.M w.heap.size off = none := by
 cases hm : G.M w.heap.size off with
 | none => rfl
 | some cv => have := h.mlt hm; omega
theorem WRel.dlt (h : WRel Γ G ob nm w) {l : Nat} {o : Obj} (hl : G.D l = some o) : l < w.heap.size := let ⟨_, e⟩ := (h.dd l o hl).1.has; lt_of_heap e
theorem WRel.dnew (h : WRel Γ G ob nm w) {l : Nat} (hl : w.heap.size ≤ l) : G.D l = none := by
 cases hd : G.D l with
 | none => rfl
 | some o => have := h.dlt hd; omega
theorem WRel.dne (h : WRel Γ G ob nm w) {l b : Nat} {o : Obj} (hl : G.D l = some o) {c : Array Value} {E : TypeId} {fr : Nat × Nat} (hw : w.heap[b]? = some (.cells c E fr)) (hc : o.isCells = false) : l ≠ b := by
 rintro rfl
 have h1 := (h.dd _ _ hl).1.heap hc
 rw [hw] at h1
 cases h1
 cases hc
theorem WRel.dset {w' : World} (h : WRel Γ G ob nm w) {b : Nat} {c : Array Value} {E : TypeId} {fr : Nat × Nat} (hw : w.heap[b]? = some (.cells c E fr)) {c' : Array Value} {fr' : Nat × Nat} (hw' : w'.heap[b]? = some (.cells c' E fr')) (hsz : c'.size = c.size) (hs : ∀ k, k ≠ b → w'.heap[k]? = w.heap[k]?) :
 ∀ l o, G.D l = some o → DOk w' l o ∧ (o.isCells = false → G.w0.own l) :=
 fun l o hl => ⟨by
  by_cases e : l = b
  · subst e; exact (h.dd l o hl).1.row hw hw' hsz
  · exact (h.dd l o hl).1.to (hs l e), (h.dd l o hl).2⟩
theorem BufOk.lt {G : Gh} {w : World} {x : Tail} {c : BC} (h : BufOk G w x c) : x.b < w.heap.size := by
 obtain ⟨_, _, _, e, _⟩ := h.row
 exact lt_of_heap e
theorem BufOk.to {G G' : Gh} {w w' : World} {x : Tail} {c : BC} (h : BufOk G w x c) (hb : w'.heap[x.b]? = w.heap[x.b]?) (hs : ∀ v cv, VRel G v cv → VRel G' v cv) (h0 : ∀ b, G.w0.own b → G'.w0.own b)
 (hm : ∀ off, G.M x.b off = none → G'.M x.b off = none) (ho : ∀ o, G'.H o ≠ some x.b) : BufOk G' w' x c := by
 obtain ⟨cvs, E, fr, e1, e2, e3, e4⟩ := h.row
 exact ⟨h0 _ h.old, ⟨cvs, E, fr, hb.trans e1, e2, e3, ⟨e4.1, fun j v cv a b => hs _ _ (e4.2 j v cv a b)⟩⟩, h.sz, h.el, h.len, h.cap, fun off a b => hm off (h.free off a b), ho, fun E hE => let ⟨cvs, fr, e⟩ := h.u8 E hE; ⟨cvs, fr, hb.trans e⟩⟩
def Gh.reK (G : Gh) (a b : Nat) : Gh := { G with kh := a, kt := b }
theorem Gh.reK_sub (G : Gh) (a b : Nat) : G.sub (G.reK a b) := ⟨fun _ _ _ h => h, fun _ _ h => h, fun _ _ h => h, fun _ _ h => h⟩
theorem WRel.reK (h : WRel Γ G ob nm w) (a b : Nat) : WRel Γ (G.reK a b) ob nm w where
 m := h.m
 hob o cs x h1 h2 := by
  obtain ⟨q1, ⟨q2, q3, q4, q5, q6, q7, q8⟩, q9⟩ := h.hob o cs x h1 h2
  exact ⟨q1, ⟨q2, q3, q4, q5, q6, q7, q8.mono' (G.reK_sub a b)⟩, q9⟩
 hlt := h.hlt
 habs := h.habs
 inj := h.inj
 hnm n c x h1 h2 := (h.hnm n c x h1 h2).to rfl (fun _ _ h => h.mono' (G.reK_sub a b)) (fun _ h => h) (fun _ h => h) (h.hnm n c x h1 h2).obj
 hno := h.hno
 nmd := h.nmd
 tabs := h.tabs
 tlt := h.tlt
 dd := h.dd
 kdle := h.kdle
 gl g v hg := VRel.mono' (G := G.bare) (G' := (G.reK a b).bare) ⟨fun _ _ _ h => h, (fun _ _ h => by cases h), (fun _ _ h => by cases h), (fun _ _ h => by cases h)⟩ (h.gl g v hg)
 mold := h.mold
 os := h.os
 tape := h.tape
 output := h.output
 size := h.size
 block := h.block
def Gh.reD (G : Gh) (d : Nat) : Gh := { G with kd := d }
theorem Gh.reD_sub (G : Gh) (d : Nat) : G.sub (G.reD d) := ⟨fun _ _ _ h => h, fun _ _ h => h, fun _ _ h => h, fun _ _ h => h⟩
theorem WRel.reD (h : WRel Γ G ob nm w) {d : Nat} (hd : d ≤ w.heap.size) : WRel Γ (G.reD d) ob nm w where
 m := h.m
 hob o cs x h1 h2 := by
  obtain ⟨q1, ⟨q2, q3, q4, q5, q6, q7, q8⟩, q9⟩ := h.hob o cs x h1 h2
  exact ⟨q1, ⟨q2, q3, q4, q5, q6, q7, q8.mono' (G.reD_sub d)⟩, q9⟩
 hlt := h.hlt
 habs := h.habs
 inj := h.inj
 hnm n c x h1 h2 := (h.hnm n c x h1 h2).to rfl (fun _ _ h => h.mono' (G.reD_sub d)) (fun _ h => h) (fun _ h => h) (h.hnm n c x h1 h2).obj
 hno := h.hno
 nmd := h.nmd
 tabs := h.tabs
 tlt := h.tlt
 dd := h.dd
 kdle := hd
 gl g v hg := VRel.mono' (G := G.bare) (G' := (G.reD d).bare) ⟨fun _ _ _ h => h, (fun _ _ h => by cases h), (fun _ _ h => by cases h), (fun _ _ h => by cases h)⟩ (h.gl g v hg)
 mold := h.mold
 os := h.os
 tape := h.tape
 output := h.output
 size := h.size
 block := h.block
def Gh.reB (G : Gh) (d : List Deferred) : Gh := { G with w0 := { G.w0 with bd := d } }
theorem Gh.reB_sub (G : Gh) (d : List Deferred) : G.sub (G.reB d) := ⟨fun _ _ _ h => h, fun _ _ h => h, fun _ _ h => h, fun _ _ h => h⟩
theorem WRel.reB (h : WRel Γ G ob nm w) {d : List Deferred} : WRel Γ (G.reB d) ob nm w where
 m := h.m
 hob o cs x h1 h2 := by
  obtain ⟨q1, ⟨q2, q3, q4, q5, q6, q7, q8⟩, q9⟩ := h.hob o cs x h1 h2
  exact ⟨q1, ⟨q2, q3, q4, q5, q6, q7, q8.mono' (G.reB_sub d)⟩, q9⟩
 hlt := h.hlt
 habs := h.habs
 inj := h.inj
 hnm n c x h1 h2 := (h.hnm n c x h1 h2).to rfl (fun _ _ h => h.mono' (G.reB_sub d)) (fun _ h => h) (fun _ h => h) (h.hnm n c x h1 h2).obj
 hno := h.hno
 nmd := h.nmd
 tabs := h.tabs
 tlt := h.tlt
 dd := h.dd
 kdle := h.kdle
 gl g v hg := VRel.mono' (G := G.bare) (G' := (G.reB d).bare) ⟨fun _ _ _ h => h, (fun _ _ h => by cases h), (fun _ _ h => by cases h), (fun _ _ h => by cases h)⟩ (h.gl g v hg)
 mold := h.mold
 os := h.os
 tape := h.tape
 output := h.output
 size := h.size
 block := h.block
theorem WRel.keep {w' : World} (h : WRel Γ G ob nm w) (hs : w.heap.size ≤ w'.heap.size) (hb : ∀ k, k < w.heap.size → w'.heap[k]? = w.heap[k]?) (ho : w'.os = w.os) (ht : w'.tape = w.tape) (hu : w'.output = w.output) : WRel Γ G ob nm w' where
 m b off cv hm := by rw [cell_of_heap (w := w) (by exact hb _ (h.mlt hm))]; exact h.m _ _ _ hm
 hob o cs b h1 h2 := by rw [hb b (h.hlt o b h2).2]; exact h.hob o cs b h1 h2
 hlt o b h1 := ⟨(h.hlt o b h1).1, Nat.lt_of_lt_of_le (h.hlt o b h1).2 hs⟩
 habs := h.habs
 inj := h.inj
 hnm n c x h1 h2 := (h.hnm n c x h1 h2).to (hb _ (h.hnm n c x h1 h2).lt) (fun _ _ h => h) (fun _ h => h) (fun _ h => h) (h.hnm n c x h1 h2).obj
 hno := h.hno
 nmd := h.nmd
 tabs := h.tabs
 tlt := h.tlt
 kdle := Nat.le_trans h.kdle hs
 dd l o hl := ⟨(h.dd l o hl).1.to (hb l (h.dlt hl)), (h.dd l o hl).2⟩
 gl := h.gl
 mold := h.mold
 os := ho.trans h.os
 tape := ht.trans h.tape
 output := hu.trans h.output
 size := Nat.le_trans h.size hs
 block k hk := (hb k (Nat.lt_of_lt_of_le (W0.own_lt hk) h.size)).trans (h.block k hk)
theorem WRel.drew (h : WRel Γ G ob nm w) : WRel Γ G ob nm w.drew := h.keep (Nat.le_refl _) (fun _ _ => rfl) rfl rfl rfl
theorem WRel.alloc (h : WRel Γ G ob nm w) (o : Obj) : WRel Γ G ob nm (w.alloc o) := h.keep (by simp) (fun k hk => heap_alloc_lt o hk) rfl rfl rfl
def Gh.addH (G : Gh) (o b : Nat) : Gh := { G with H := fun x => if x = o then some b else G.H x }
def Gh.addM (G : Gh) (b : Nat) (c : Array Value) : Gh := { G with M := fun x off => if x = b then c[off]? else G.M x off }
theorem Gh.le_addH {G : Gh} {o b : Nat} (h : G.H o = none) : G.le (G.addH o b) :=
 ⟨⟨fun _ _ _ h => h, fun x y k => by
  by_cases hx : x = o
  · subst hx; rw [h] at k; cases k
  · simpa [Gh.addH, hx] using k, fun _ _ h => h, fun _ _ h => h⟩, rfl, rfl, rfl, rfl, rfl⟩
theorem Gh.le_addM {G : Gh} {b : Nat} {c : Array Value} (h : ∀ off, G.M b off = none) : G.le (G.addM b c) :=
 ⟨⟨fun x off cv k => by
  by_cases hx : x = b
  · subst hx; rw [h] at k; cases k
  · simpa [Gh.addM, hx] using k, fun _ _ h => h, fun _ _ h => h, fun _ _ h => h⟩, rfl, rfl, rfl, rfl, rfl⟩
theorem WRel.newRow (h : WRel Γ G ob nm w) (cvs : Array Value) (E : TypeId) :
 G.le (G.addM w.heap.size cvs) ∧ WRel Γ (G.addM w.heap.size cvs) ob nm (w.alloc (.cells cvs E)) := by
 have hle := Gh.le_addM (c := cvs) h.mnew
 have k := h.alloc (.cells cvs E)
 refine ⟨hle, ?_⟩
 exact {
  m := fun b off cv hm => by
   by_cases hb : b = w.heap.size
   · subst hb
     rw [cell_row (heap_alloc_self w _)]
     simpa [Gh.addM] using hm
   · exact k.m b off cv (by simpa [Gh.addM, hb] using hm)
  hob := fun o cs b h1 h2 => by
   obtain ⟨a1, ⟨c, E', fr, e1, e2, e3, e4⟩, a3⟩ := k.hob o cs b h1 h2
   have hb : b ≠ w.heap.size := by have := (h.hlt o b h2).2; omega
   exact ⟨a1, ⟨c, E', fr, e1, e2, e3, e4.mono hle⟩, fun off => by simpa [Gh.addM, hb] using a3 off⟩
  hlt := k.hlt
  habs := k.habs
  inj := k.inj
  hnm := fun n c x h1 h2 => by
   have hx := (h.hnm n c x h1 h2).lt
   have hb : x.b ≠ w.heap.size := by omega
   exact (k.hnm n c x h1 h2).to rfl (fun _ _ h => h.mono hle) (fun _ h => h) (fun off h => by simpa [Gh.addM, hb] using h) (k.hnm n c x h1 h2).obj
  hno := k.hno
  nmd := k.nmd
  tabs := k.tabs
  tlt := k.tlt
  dd := k.dd
  kdle := k.kdle
  gl := fun g v hg => (k.gl g v hg).mono' hle.toSub.bare
  mold := fun b off hb => by
   have hne : b ≠ w.heap.size := by have := W0.own_lt (x := G.w0) hb; have := h.size; omega
   simpa [Gh.addM, hne] using k.mold b off hb
  os := k.os
  tape := k.tape
  output := k.output
  size := k.size
  block := k.block }
theorem addM_new (G : Gh) (b : Nat) (c : Array Value) (off : Nat) : (G.addM b c).M b off = c[off]? := by simp [Gh.addM]
theorem addH_new (G : Gh) (o b : Nat) : (G.addH o b).H o = some b := by simp [Gh.addH]
def tySize (P : Program) (T : TypeId) : Option Nat := (P.info? T).map (·.size)
def tyZero (P : Program) (T : TypeId) : Option V := ((P.info? T).bind (·.zero)).map ofVal
def tyAgg (P : Program) (T : TypeId) : Option Bool := (P.underlying T).map fun | .struct _ | .array _ _ => true | _ => false
theorem run_sizeOf {T : TypeId} {n : Nat} (h : tySize P T = some n) (w : World) : (sizeOf T).run P w = .ok n w := by
 unfold tySize at h
 cases hi : P.info? T with
 | none => simp [hi] at h
 | some i => simp [hi] at h; subst h; simp [sizeOf, typeInfo, hi]
theorem run_isAgg {T : TypeId} {t : Bool} (h : tyAgg P T = some t) (w : World) : (isAgg T).run P w = .ok t w := by
 unfold tyAgg at h
 cases hi : P.underlying T with
 | none => simp [hi] at h
 | some d =>
  simp [hi] at h
  subst h
  cases d <;> simp [isAgg, run_underlying hi]
theorem run_zero {T : TypeId} {v : V} (h : tyZero P T = some v) (w : World) : ∃ z, (zeroValue T).run P w = .ok z w ∧ v = ofVal z := by
 unfold tyZero at h
 cases hi : P.info? T with
 | none => simp [hi] at h
 | some i =>
  simp [hi] at h
  obtain ⟨z, hz, rfl⟩ := h
  exact ⟨z, by simp [zeroValue, typeInfo, hi, hz], rfl⟩
def getV (agg : Bool) (sz : Nat) (cs : List V) (off : Nat) : Option V :=
 if agg then if off + sz ≤ cs.length then some (.agg ((cs.drop off).take sz)) else none else cs[off]?
def loadV (agg : Bool) (sz : Nat) (ob : Ob) : V → Option V
 | .ptr o off =>
  match ob[o]? with
  | some (some cs) => getV agg sz cs off
  | _ => none
 | .pel xs k off =>
  match xs[k]? with
  | some x => getV agg sz x.cells off
  | none => none
 | _ => none
theorem run_loadVar_at {T : TypeId} {agg : Bool} {sz : Nat} (ha : tyAgg P T = some agg) (hs : tySize P T = some sz) {cs : List V} {cvs : List Value} {off : Nat} {v : V} (h : getV agg sz cs off = some v)
 (hr : Rels G cs cvs) (b o0 : Nat) (w : World) (hc : ∀ j cv, cvs[j]? = some cv → w.cell? ⟨b, o0 + j, none⟩ = some cv) :
 ∃ cv, (loadVar T ⟨b, o0 + off, none⟩).run P w = .ok cv w ∧ VRel G v cv := by
 unfold getV at h
 cases agg with
 | false =>
  simp at h
  obtain ⟨cv, h1, h2⟩ := hr.of_get h
  exact ⟨cv, by simp [loadVar, run_isAgg ha, hc off cv h1], h2⟩
 | true =>
  simp at h
  obtain ⟨hle, rfl⟩ := h
  have hr' := (hr.drop off).take sz
  have hlen : ((cvs.drop off).take sz).length = sz := by simp [hr.1]; omega
  have := run_loadCells_list (P := P) w ⟨b, o0 + off, none⟩ ((cvs.drop off).take sz) (fun j v hj => by
   rw [add_none]
   rw [List.getElem?_take] at hj
   split at hj
   · rw [List.getElem?_drop] at hj
     have := hc _ _ hj
     rwa [← Nat.add_assoc] at this
   · cases hj)
  rw [hlen] at this
  refine ⟨.agg ((cvs.drop off).take sz).toArray, by simp [loadVar, run_isAgg ha, run_sizeOf hs, this], ?_⟩
  exact .agg (by simpa using hr'.1) (fun j v cv h1 h2 => hr'.2 j v cv h1 (by simpa using h2))
theorem VRel.load {T : TypeId} {agg : Bool} {sz : Nat} (ha : tyAgg P T = some agg) (hs : tySize P T = some sz) (h : WRel Γ G ob nm w) {p v : V} {cp : Value} (hp : VRel G p cp) (hl : loadV agg sz ob p = some v) :
 ∃ a cv, cp = .pointer (some a) ∧ (loadVar T a).run P w = .ok cv w ∧ VRel G v cv := by
 cases hp <;> simp only [loadV] at hl <;> try cases hl
 case ptr o off b hb =>
  split at hl
  · rename_i cs hcs
    obtain ⟨_, ⟨cvs, E, fr, e1, e2, e3, e4⟩, _⟩ := h.hob o cs b hcs hb
    obtain ⟨cv, h1, h2⟩ := run_loadVar_at ha hs hl e4 b 0 w (fun j cv hj => by
     rw [Nat.zero_add, cell_row e1]
     rw [List.getElem?_take] at hj
     split at hj
     · simpa using hj
     · cases hj)
    rw [Nat.zero_add] at h1
    exact ⟨_, cv, rfl, h1, h2⟩
  · cases hl
 case pel xs k off b o0 sz0 cvs hsz hlen hm hv =>
  split at hl
  · rename_i x hx
    have hxm : x ∈ xs := List.mem_of_getElem? hx
    -- the k-th element's cells inside the flat row
    have hfl : ∀ j v, x.cells[j]? = some v → (flat xs)[k * sz0 + j]? = some v := flat_get hsz hx
    have hr : Rels G x.cells ((cvs.drop (k * sz0)).take sz0) := by
     have hlen2 : (flat xs).length = xs.length * sz0 := flat_length hsz
     have hk : k < xs.length := by
      rcases Nat.lt_or_ge k xs.length with h' | h'
      · exact h'
      · simp [List.getElem?_eq_none h'] at hx
     have hkk : k * sz0 + sz0 ≤ xs.length * sz0 := by rw [← Nat.succ_mul]; exact Nat.mul_le_mul_right _ hk
     refine ⟨by simp [hlen, hlen2, hsz x hxm]; omega, fun j v cv h1 h2 => ?_⟩
     rw [List.getElem?_take] at h2
     split at h2
     · rw [List.getElem?_drop] at h2
       exact hv _ _ _ (hfl j v h1) h2
     · cases h2
    obtain ⟨cv, h1, h2⟩ := run_loadVar_at ha hs hl hr b (o0 + k * sz0) w (fun j cv hj => by
     rw [List.getElem?_take] at hj
     split at hj
     · rw [List.getElem?_drop] at hj
       have := h.m _ _ _ (hm _ _ hj)
       rwa [← Nat.add_assoc] at this
     · cases hj)
    rw [Nat.add_assoc] at h1
    exact ⟨_, cv, rfl, h1, h2⟩
  · cases hl
where
 flat_length {xs : List V} {sz : Nat} (h : ∀ x ∈ xs, x.cells.length = sz) : (flat xs).length = xs.length * sz := by
  induction xs with
  | nil => simp [flat]
  | cons x xs ih =>
   have := ih (fun y hy => h y (by simp [hy]))
   simp only [flat, List.flatMap_cons, List.length_append, List.length_cons] at this ⊢
   rw [this, h x (by simp), Nat.succ_mul]
   omega
 flat_get {xs : List V} {sz : Nat} (h : ∀ x ∈ xs, x.cells.length = sz) {k : Nat} {x : V} (hx : xs[k]? = some x) (j : Nat) (v : V) (hj : x.cells[j]? = some v) : (flat xs)[k * sz + j]? = some v := by
  induction xs generalizing k with
  | nil => simp at hx
  | cons y ys ih =>
   simp only [flat, List.flatMap_cons]
   cases k with
   | zero =>
    simp at hx
    subst hx
    have hlt : j < y.cells.length := by
     rcases Nat.lt_or_ge j y.cells.length with h' | h'
     · exact h'
     · simp [List.getElem?_eq_none h'] at hj
    rw [Nat.zero_mul, Nat.zero_add, List.getElem?_append_left hlt]
    exact hj
   | succ k =>
    simp at hx
    have hy := h y (by simp)
    rw [List.getElem?_append_right (by rw [hy, Nat.succ_mul]; omega)]
    have e : (k + 1) * sz + j - y.cells.length = k * sz + j := by rw [hy, Nat.succ_mul]; omega
    rw [e]
    exact ih (fun z hz => h z (by simp [hz])) hx
theorem SemV.load {σ : St} {o : Oper} {T : TypeId} {x : Operand} {agg : Bool} {sz : Nat} {v : V} (ho : o.op = .load T x) (ha : tyAgg P T = some agg) (hs : tySize P T = some sz) (hl : loadV agg sz σ.ob (σ.eval Γ x) = some v) :
 SemV P Γ o σ v σ.ob σ.nm :=
 SemV.of_pure fun G a w hr => by
  obtain ⟨ad, cv, h1, h2, h3⟩ := VRel.load ha hs hr.wr (hr.eval x) hl
  exact ⟨cv, by simp [execOp, ho, Instr.loadAt, Instr.sureAddr, h1, h2], h3⟩
end
end Go.Proofs.Ytofbchcclkejgaa

/- Stores, addresses, parts. -/
set_option linter.unusedVariables false
set_option linter.unusedSimpArgs false
namespace Go.Proofs.Ytofbchcclkejgaa
open Go
section
variable {P : Program} {Γ : Nat → Option V} {G : Gh} {ob : Ob} {nm : Nm} {w : World} {σ : St}
structure RowSet (w w' : World) (b : Nat) (c : Array Value) (E : TypeId) (fr : Nat × Nat) : Prop where
 row : w'.heap[b]? = some (.cells c E fr)
 other : ∀ k, k ≠ b → w'.heap[k]? = w.heap[k]?
 size : w'.heap.size = w.heap.size
 os : w'.os = w.os
 tape : w'.tape = w.tape
 output : w'.output = w.output
theorem rowSet_setCell {w : World} {b off : Nat} {c : Array Value} {E : TypeId} {fr : Nat × Nat} (h : w.heap[b]? = some (.cells c E fr)) (v : Value) :
 RowSet w (w.setCell ⟨b, off, none⟩ v) b (c.setIfInBounds off v) E fr where
 row := by simp [World.setCell, Array.getElem?_modify, h]
 other k hk := by simp only [World.setCell, Array.getElem?_modify]; rw [if_neg (by simpa using (Ne.symm hk))]
 size := by simp [World.setCell]
 os := rfl
 tape := rfl
 output := rfl
theorem run_store_row {w : World} {b off : Nat} {c : Array Value} {E : TypeId} {fr : Nat × Nat} (h : w.heap[b]? = some (.cells c E fr)) (hf : fr = (0, 0) ∨ c.size ≤ fr.1) (hl : off < c.size) {v : Value} (h1 : v.oneCell' = true) :
 (store ⟨b, off, none⟩ v).run P w = .ok () (w.setCell ⟨b, off, none⟩ v) := by
 rw [run_store P w _ v _ h1, cell_row h, Array.getElem?_eq_getElem hl]
 have hfr : w.frozen? ⟨b, off, none⟩ = false := by
  simp only [World.frozen?, h]
  rcases hf with rfl | hf
  · simp
  · have : ¬ fr.1 ≤ off := by omega
    simp [this]
 simp [hfr]
theorem splice_step (l : List Value) (k : Nat) (v : Value) (rest : List Value) (h : k + (rest.length + 1) ≤ l.length) :
 (l.set k v).take (k + 1) ++ rest ++ (l.set k v).drop (k + 1 + rest.length) = l.take k ++ (v :: rest) ++ l.drop (k + (rest.length + 1)) := by
 have h1 : (l.set k v).take (k + 1) = l.take k ++ [v] := by
  apply List.ext_getElem?
  intro j
  simp only [List.getElem?_take, List.getElem?_set, List.getElem?_append, List.length_take]
  by_cases hj : j < k
  · have : j < min k l.length := by omega
    have h3 : j < k + 1 := by omega
    have h4 : ¬ k = j := by omega
    simp [this, h3, h4, hj]
  · by_cases hj2 : j = k
    · subst hj2
      have : min j l.length = j := by omega
      have hjl : j < l.length := by omega
      simp [this, hjl]
    · have : min k l.length = k := by omega
      have h3 : ¬ j < k + 1 := by omega
      simp [hj, this, h3]
      omega
 have h2 : (l.set k v).drop (k + 1 + rest.length) = l.drop (k + (rest.length + 1)) := by
  apply List.ext_getElem?
  intro j
  simp only [List.getElem?_drop, List.getElem?_set]
  have : ¬ k = k + 1 + rest.length + j := by omega
  simp [this]
  congr 1
  omega
 rw [h1, h2]
 simp
theorem run_storeCells_row {b off : Nat} {E : TypeId} {fr : Nat × Nat} : ∀ (vs : List Value) (i : Nat) (c : Array Value) (w : World), w.heap[b]? = some (.cells c E fr) → (fr = (0, 0) ∨ c.size ≤ fr.1) → off + i + vs.length ≤ c.size → (∀ v ∈ vs, v.oneCell' = true) →
 ∃ w', (storeCells ⟨b, off, none⟩ vs i).run P w = .ok () w' ∧ RowSet w w' b (c.toList.take (off + i) ++ vs ++ c.toList.drop (off + i + vs.length)).toArray E fr
 | [], i, c, w, h, _, _, _ => ⟨w, by simp [storeCells], ⟨by simpa using h, fun _ _ => rfl, rfl, rfl, rfl, rfl⟩⟩
 | v :: rest, i, c, w, h, hf, hl, h1 => by
  simp only [List.length_cons] at hl
  have hs := run_store_row (P := P) (off := off + i) h hf (by omega) (h1 v (by simp))
  have hr := rowSet_setCell (off := off + i) h v
  obtain ⟨w', e1, e2⟩ := run_storeCells_row (b := b) (off := off) rest (i + 1) (c.setIfInBounds (off + i) v) _ hr.row (by simpa using hf) (by simp; omega) (fun x hx => h1 x (by simp [hx]))
  refine ⟨w', by simp only [storeCells, add_none, Sem.run_bind, hs, Result.andThen_ok, e1], ?_⟩
  have e := splice_step c.toList (off + i) v rest (by simp; omega)
  have e3 := e2.row
  simp only [Array.toList_setIfInBounds, ← Nat.add_assoc, List.length_cons] at e3 e
  rw [e] at e3
  exact ⟨by simpa [← Nat.add_assoc] using e3, fun k hk => (e2.other k hk).trans (hr.other k hk), e2.size.trans hr.size, e2.os.trans hr.os, e2.tape.trans hr.tape, e2.output.trans hr.output⟩
theorem WRel.setObj {w' : World} (h : WRel Γ G ob nm w) {o b : Nat} {cs cs' : List V} {c c' : Array Value} {E : TypeId} {fr : Nat × Nat} (ho : ob[o]? = some (some cs)) (hb : G.H o = some b)
 (hw : w.heap[b]? = some (.cells c E fr)) (hs : RowSet w w' b c' E fr) (hsz : c'.size = c.size) (hl : cs'.length ≤ cs.length) (hr : Rels G cs' (c'.toList.take cs'.length)) : WRel Γ G (ob.set o (some cs')) nm w' := by
 obtain ⟨a1, ⟨c2, E2, fr2, e1, e2, e3, e4⟩, a3⟩ := h.hob o cs b ho hb
 have he : c2 = c ∧ E2 = E ∧ fr2 = fr := by rw [hw] at e1; simp at e1; exact ⟨e1.1.symm, e1.2.1.symm, e1.2.2.symm⟩
 obtain ⟨rfl, rfl, rfl⟩ := he
 have hlen : o < ob.length := (h.hlt o b hb).1
 exact {
  m := fun x off cv hm => by
   have hx : x ≠ b := fun hx => by rw [hx, a3] at hm; cases hm
   rw [cell_of_heap (w := w) (by exact hs.other x hx)]
   exact h.m _ _ _ hm
  hob := fun o' ds x h1 h2 => by
   by_cases hoo : o' = o
   · subst hoo
     rw [hb] at h2
     cases h2
     rw [List.getElem?_set_self hlen] at h1
     have h1 : cs' = ds := by simpa using h1
     subst h1
     exact ⟨a1, ⟨c', E2, fr2, hs.row, by rw [hsz]; exact e2, by rw [hsz]; omega, hr⟩, a3⟩
   · rw [List.getElem?_set_ne (Ne.symm hoo)] at h1
     have hx : x ≠ b := fun hx => hoo (h.inj o' o b (by rw [← hx]; exact h2) hb)
     obtain ⟨q1, ⟨q2, q3, q4, q5, q6⟩, q7⟩ := h.hob o' ds x h1 h2
     exact ⟨q1, ⟨q2, q3, q4, by rw [hs.other x hx]; exact q5, q6⟩, q7⟩
  hlt := fun o' x h1 => by simp [hs.size]; exact h.hlt o' x h1
  habs := fun o' h1 => by
   by_cases hoo : o' = o
   · subst hoo; rw [List.getElem?_set_self hlen] at h1; simp at h1
   · rw [List.getElem?_set_ne (Ne.symm hoo)] at h1; exact h.habs o' h1
  inj := h.inj
  hnm := fun n c x h1 h2 => (h.hnm n c x h1 h2).to (hs.other _ fun hx => (h.hnm n c x h1 h2).obj o (by rw [hx]; exact hb)) (fun _ _ h => h) (fun _ h => h) (fun _ h => h) (h.hnm n c x h1 h2).obj
  hno := h.hno
  nmd := h.nmd
  tabs := h.tabs
  tlt := h.tlt
  dd := h.dset hw hs.row hsz hs.other
  kdle := by rw [hs.size]; exact h.kdle
  gl := h.gl
  mold := h.mold
  os := hs.os.trans h.os
  tape := hs.tape.trans h.tape
  output := hs.output.trans h.output
  size := by rw [hs.size]; exact h.size
  block := fun k hk => (hs.other k (W0.own_ne (by assumption) hk)).trans (h.block k hk) }
def V.allOne (v : V) : Bool := v.cells.all V.one
theorem V.ne_any {v : V} (h : v.allOne = true) : v ≠ .any := fun e => by subst e; simp [V.allOne, V.cells, V.one] at h
theorem VRel.cells_one {v : V} {cv : Value} (h : VRel G v cv) (h1 : v.allOne = true) : ∀ x ∈ cv.cells.toList, x.oneCell' = true := by
 intro x hx
 obtain ⟨j, hj⟩ := List.getElem?_of_mem hx
 have hr := h.cells (V.ne_any h1)
 have hlt : j < cv.cells.toList.length := by
  rcases Nat.lt_or_ge j cv.cells.toList.length with h' | h'
  · exact h'
  · simp [List.getElem?_eq_none h'] at hj
 have hv : v.cells[j]? = some (v.cells[j]'(by rw [← hr.1]; exact hlt)) := List.getElem?_eq_getElem _
 refine (hr.2 j _ x hv hj).oneCell ?_
 simp only [V.allOne, List.all_eq_true] at h1
 exact h1 _ (List.mem_of_getElem? hv)
def storeV (sz : Nat) (ob : Ob) : V → V → Option Ob
 | .ptr o off, v =>
  match ob[o]? with
  | some (some cs) => if v.allOne ∧ v.cells.length = sz ∧ off + sz ≤ cs.length then some (ob.set o (some (cs.take off ++ v.cells ++ cs.drop (off + sz)))) else none
  | _ => none
 | _, _ => none
theorem VRel.store {T : TypeId} {sz : Nat} (hs : tySize P T = some sz) (h : WRel Γ G ob nm w) {p v : V} {cp cv : Value} {ob' : Ob} (hp : VRel G p cp) (hv : VRel G v cv) (he : storeV sz ob p v = some ob') :
 ∃ a w', cp = .pointer (some a) ∧ (storeVar T a cv).run P w = .ok () w' ∧ WRel Γ G ob' nm w' := by
 cases p <;> simp only [storeV] at he <;> try cases he
 rename_i o off
 cases hp
 rename_i b hb
 split at he
 · rename_i cs hcs
   split at he
   · rename_i hc
     obtain ⟨h1, h2, h3⟩ := hc
     cases he
     obtain ⟨a1, ⟨c, E, fr, e1, e2, e3, e4⟩, a3⟩ := h.hob o cs b hcs hb
     have hr := hv.cells (V.ne_any h1)
     have hcl : cv.cells.size = sz := by have := hr.1; simp at this; omega
     obtain ⟨w', g1, g2⟩ := run_storeCells_row (P := P) (off := off) cv.cells.toList 0 c w e1 e2 (by simp [hcl]; omega) (hv.cells_one h1)
     refine ⟨_, w', rfl, ?_, ?_⟩
     · simp only [storeVar, Sem.run_bind, run_sizeOf hs, Result.andThen_ok, hcl, ne_eq, not_true_eq_false, ↓reduceIte]
       exact g1
     · simp only [Nat.add_zero, Array.length_toList, hcl] at g2
       refine h.setObj hcs hb e1 g2 (by simp [hcl]; omega) (by simp [h2]; omega) ?_
       have hlen : (cs.take off ++ v.cells ++ cs.drop (off + sz)).length = cs.length := by simp [h2]; omega
       rw [hlen]
       have e5 : (c.toList.take off ++ cv.cells.toList ++ c.toList.drop (off + sz)).take cs.length = (c.toList.take cs.length).take off ++ cv.cells.toList ++ (c.toList.take cs.length).drop (off + sz) := by
        rw [List.append_assoc, List.take_append, List.take_append, List.append_assoc]
        have l1 : (c.toList.take off).length = off := by simp; omega
        have l2 : cv.cells.toList.length = sz := by simp [hcl]
        rw [l1, l2, List.take_take, List.take_take, List.take_of_length_le (show cv.cells.toList.length ≤ cs.length - off by rw [l2]; omega), List.drop_take,
         show min cs.length off = off by omega, show min off cs.length = off by omega, show cs.length - off - sz = cs.length - (off + sz) by omega]
       simp only [List.toList_toArray]
       rw [e5]
       exact ((e4.take off).append hr).append (e4.drop (off + sz))
   · cases he
 · cases he
theorem SemV.store {o : Oper} {T : TypeId} {x y : Operand} {sz : Nat} {ob' : Ob} (ho : o.op = .store T x y) (hs : tySize P T = some sz) (he : storeV sz σ.ob (σ.eval Γ x) (σ.eval Γ y) = some ob') :
 SemV P Γ o σ (.tup []) (ob') σ.nm := by
 intro ro G a w K Q hr hk
 obtain ⟨ad, w', h1, h2, h3⟩ := VRel.store hs hr.wr (hr.eval x) (hr.eval y) he
 refine ⟨fun _ _ => trivial, ?_⟩
 have hrun : (execOp a.eval o).run P w = .ok .skip w' := by simp [execOp, ho, Instr.storeAt, h1, Instr.sureAddr, h2]
 rw [semAt_skip hrun]
 exact hk G _ w' (.refl G) (VRel.undef G) h3
def V.shift (d : Nat) : V → Option V
 | .ptr o off => some (.ptr o (off + d))
 | .pel xs k off => some (.pel xs k (off + d))
 | .bp k r off => some (.bp k r (off + d))
 | .tp _ _ o => some (.ptr o d)
 | _ => none
theorem VRel.shift {p q : V} {cp : Value} {d : Nat} (hp : VRel G p cp) (h : p.shift d = some q) : ∃ b off, cp = .pointer (some ⟨b, off, none⟩) ∧ VRel G q (.pointer (some ⟨b, off + d, none⟩)) := by
 cases hp <;> simp only [V.shift] at h <;> try cases h
 case ptr o off b hb => exact ⟨_, _, rfl, .ptr hb⟩
 case tp E n o b hb hd => exact ⟨_, _, rfl, by rw [Nat.zero_add]; exact .ptr hb⟩
 case bp n r off x hx => exact ⟨_, _, rfl, by rw [Nat.add_assoc, Nat.add_assoc]; exact VRel.bp (i := r) (off := off + d) hx⟩
 case pel xs k off b o0 sz cvs h1 h2 h3 h4 => exact ⟨_, _, rfl, by rw [Nat.add_assoc, Nat.add_assoc]; exact VRel.pel (k := k) (off := off + d) h1 h2 h3 h4⟩
def fieldOff (P : Program) (T : TypeId) (f : Nat) : Option (Nat × Field) :=
 match P.underlying T with
 | some (.struct fs) => (fs[f]?).map fun x => (x.offset, x)
 | _ => none
theorem SemV.fieldAddr {o : Oper} {T : TypeId} {x : Operand} {f d sz : Nat} {fl : Field} {q : V} (ho : o.op = .fieldAddr T x f) (hf : fieldOff P T f = some (d, fl)) (hs : tySize P fl.type = some sz) (hz : sz ≠ 0) (hq : (σ.eval Γ x).shift d = some q) :
 SemV P Γ o σ q σ.ob σ.nm :=
 SemV.of_pure fun G a w hr => by
  obtain ⟨b, off, h1, h2⟩ := (hr.eval x).shift hq
  unfold fieldOff at hf
  split at hf
  · rename_i fs hu
    simp only [Option.map_eq_some_iff] at hf
    obtain ⟨y, hy, hy2⟩ := hf
    simp only [Prod.mk.injEq] at hy2
    obtain ⟨rfl, rfl⟩ := hy2
    refine ⟨_, ?_, h2⟩
    simp [execOp, ho, Instr.fieldAt, run_underlying hu, hy, h1, Instr.sureAddr, fieldPlace, run_sizeOf hs, hz, add_none]
  · cases hf
end
end Go.Proofs.Ytofbchcclkejgaa

/- Elements, parts, comparisons, conversions. -/
set_option linter.unusedVariables false
set_option linter.unusedSimpArgs false
namespace Go.Proofs.Ytofbchcclkejgaa
open Go
section
variable {P : Program} {Γ : Nat → Option V} {G : Gh} {ob : Ob} {nm : Nm} {w : World} {σ : St}
theorem VRel.agg_form {cs : List V} {cv : Value} (h : VRel G (.agg cs) cv) : ∃ c, cv = .agg c ∧ Rels G cs c.toList := by
 cases h
 rename_i c hl h
 exact ⟨c, rfl, by simpa using hl, fun j v cv h1 h2 => h j v cv h1 (by simpa using h2)⟩
theorem VRel.mk_agg {cs : List V} {c : Array Value} (h : Rels G cs c.toList) : VRel G (.agg cs) (.agg c) := .agg (by simpa using h.1) (fun j v cv h1 h2 => h.2 j v cv h1 (by simpa using h2))
theorem run_part {T : TypeId} {agg : Bool} {sz off : Nat} {cs : List V} {c : Array Value} {v : V} (ha : tyAgg P T = some agg) (hs : tySize P T = some sz) (hr : Rels G cs c.toList) (h : getV agg sz cs off = some v) (w : World) :
 ∃ cv, (part T c off).run P w = .ok cv w ∧ VRel G v cv := by
 unfold getV at h
 cases agg with
 | false =>
  simp at h
  obtain ⟨cv, h1, h2⟩ := hr.of_get h
  have h1 : c[off]? = some cv := by simpa using h1
  exact ⟨cv, by simp [part, run_isAgg ha, h1], h2⟩
 | true =>
  simp at h
  obtain ⟨hle, rfl⟩ := h
  refine ⟨.agg (c.extract off (off + sz)), by simp [part, run_isAgg ha, run_sizeOf hs], VRel.mk_agg ?_⟩
  have : (c.extract off (off + sz)).toList = (c.toList.drop off).take sz := by
   rw [Array.toList_extract, List.extract_eq_take_drop]
   congr 1
   omega
  rw [this]
  exact (hr.drop off).take sz
def tyField (P : Program) (T : TypeId) (f : Nat) : Option Field :=
 match P.underlying T with
 | some (.struct fs) => fs[f]?
 | _ => none
theorem run_tyField {T : TypeId} {f : Nat} {fl : Field} (h : tyField P T f = some fl) : ∃ fs, P.underlying T = some (.struct fs) ∧ fs[f]? = some fl := by
 unfold tyField at h
 split at h
 · rename_i fs hu; exact ⟨fs, hu, h⟩
 · cases h
theorem SemV.field {o : Oper} {T : TypeId} {x : Operand} {f sz : Nat} {fl : Field} {agg : Bool} {cs : List V} {v : V} (ho : o.op = .field T x f) (hf : tyField P T f = some fl) (ha : tyAgg P fl.type = some agg) (hs : tySize P fl.type = some sz)
 (hx : σ.eval Γ x = .agg cs) (hv : getV agg sz cs fl.offset = some v) : SemV P Γ o σ v σ.ob σ.nm :=
 SemV.of_pure fun G a w hr => by
  obtain ⟨fs, hu, hfs⟩ := run_tyField hf
  have h := hr.eval x
  rw [hx] at h
  obtain ⟨c, he, hc⟩ := h.agg_form
  obtain ⟨cv, h1, h2⟩ := run_part ha hs hc hv w
  exact ⟨cv, by simp [execOp, ho, Instr.field, run_underlying hu, hfs, he, asAgg, h1], h2⟩
def tyElem (P : Program) (T : TypeId) : Option (Option Nat × TypeId) :=
 match P.underlying T with
 | some (.slice e) => some (none, e)
 | some (.array n e) => some (some n, e)
 | _ => none
theorem tyElem_slice {T e : TypeId} (h : tyElem P T = some (none, e)) : P.underlying T = some (.slice e) := by
 unfold tyElem at h
 split at h <;> simp at h
 subst h
 assumption
theorem tyElem_array {T e : TypeId} {n : Nat} (h : tyElem P T = some (some n, e)) : P.underlying T = some (.array n e) := by
 unfold tyElem at h
 split at h <;> simp at h
 obtain ⟨rfl, rfl⟩ := h
 assumption
def idxV (sz : Nat) : Option Nat → V → Int → Option V
 | some n, p, i => if 0 ≤ i ∧ i < (n : Int) then p.shift (i.toNat * sz) else none
 | none, .lst _ xs, i =>
  if 0 ≤ i then
   match xs[i.toNat]? with
   | some x => if x.cells.length = sz then some (.pel xs i.toNat 0) else none
   | none => none
  else none
 | none, .sl o off len, i => if 0 ≤ i ∧ i < (len : Int) then some (.ptr o (off + i.toNat * sz)) else none
 | _, _, _ => none
theorem SemV.indexAddr {o : Oper} {T e : TypeId} {x y : Operand} {n : Option Nat} {sz : Nat} {k : IntKind} {i : Int} {q : V} (ho : o.op = .indexAddr T x y) (ht : tyElem P T = some (n, e)) (hs : tySize P e = some sz) (hy : σ.eval Γ y = .i k i)
 (hq : idxV sz n (σ.eval Γ x) i = some q) : SemV P Γ o σ q σ.ob σ.nm :=
 SemV.of_pure fun G a w hr => by
  have hiy := hr.eval y
  rw [hy] at hiy
  have hiy := hiy.int_eq
  have hx := hr.eval x
  cases n with
  | some n =>
   simp only [idxV] at hq
   split at hq
   · rename_i hi
     obtain ⟨b, off, h1, h2⟩ := hx.shift hq
     refine ⟨_, ?_, h2⟩
     simp [execOp, ho, Instr.indexAt, hiy, asIntOf, run_underlying (tyElem_array ht), h1, Instr.sureAddr, hi, run_sizeOf hs, add_none]
   · cases hq
  | none =>
   have hu := tyElem_slice ht
   generalize hv : σ.eval Γ x = v at hq hx
   generalize he : a.eval x = c at hx
   cases v <;> simp only [idxV] at hq <;> try cases hq
   case lst t xs =>
    split at hq
    · rename_i hi
      split at hq
      · rename_i z hz
        split at hq
        · rename_i hzz
          cases hq
          have hlt : i.toNat < xs.length := by
           rcases Nat.lt_or_ge i.toNat xs.length with h' | h'
           · exact h'
           · simp [List.getElem?_eq_none h'] at hz
          cases hx with
          | lst0 => simp at hlt
          | lst1 => simp at hlt
          | lst h1 h2 h3 h4 h5 h6 =>
           rename_i b off cap sz0 cvs
           have hsz : sz0 = sz := (h1 z (List.mem_of_getElem? hz)).symm.trans hzz
           subst hsz
           refine ⟨_, ?_, VRel.pel (k := i.toNat) (off := 0) h1 h2 h3 h4⟩
           have h7 : i < (xs.length : Int) := by omega
           simp [execOp, ho, Instr.indexAt, hiy, asIntOf, run_underlying hu, he, hi, h7, run_sizeOf hs, add_none]
        · cases hq
      · cases hq
    · cases hq
   case sl o' off len =>
    split at hq
    · rename_i hi
      cases hq
      cases hx
      rename_i b cap hb hc
      refine ⟨_, ?_, VRel.ptr (off := off + i.toNat * sz) hb⟩
      simp [execOp, ho, Instr.indexAt, hiy, asIntOf, run_underlying hu, he, hi, run_sizeOf hs, add_none]
    · cases hq
theorem SemV.index_arr {o : Oper} {T e : TypeId} {x y : Operand} {n sz : Nat} {agg : Bool} {k : IntKind} {i : Int} {cs : List V} {v : V} (ho : o.op = .index T x y) (ht : tyElem P T = some (some n, e)) (ha : tyAgg P e = some agg) (hs : tySize P e = some sz)
 (hx : σ.eval Γ x = .agg cs) (hy : σ.eval Γ y = .i k i) (h0 : 0 ≤ i) (h1 : i < (n : Int)) (hv : getV agg sz cs (i.toNat * sz) = some v) : SemV P Γ o σ v σ.ob σ.nm :=
 SemV.of_pure fun G a w hr => by
  have hiy := hr.eval y
  rw [hy] at hiy
  have hiy := hiy.int_eq
  have h := hr.eval x
  rw [hx] at h
  obtain ⟨c, he, hc⟩ := h.agg_form
  obtain ⟨cv, h2, h3⟩ := run_part ha hs hc hv w
  exact ⟨cv, by simp [execOp, ho, Instr.index, hiy, asIntOf, run_underlying (tyElem_array ht), he, h0, h1, run_sizeOf hs, h2], h3⟩
theorem SemV.nilCheck {o : Oper} {x : Operand} (ho : o.op = .nilCheck x) (hx : ∃ v d, (σ.eval Γ x).shift d = some v) : SemV P Γ o σ (σ.eval Γ x) σ.ob σ.nm :=
 SemV.of_pure fun G a w hr => by
  obtain ⟨v, d, hx⟩ := hx
  obtain ⟨b, off, h1, h2⟩ := (hr.eval x).shift hx
  exact ⟨.pointer (some ⟨b, off, none⟩), by simp [execOp, ho, h1], by rw [← h1]; exact hr.eval x⟩
theorem SemV.nilCheck_fn {o : Oper} {x : Operand} {f : FuncId} {p q : List V} (ho : o.op = .nilCheck x) (hx : σ.eval Γ x = .fn (.func f) p q) : SemV P Γ o σ (σ.eval Γ x) σ.ob σ.nm :=
 SemV.of_pure fun G a w hr => by
  have h := hr.eval x
  rw [hx] at h ⊢
  generalize he : a.eval x = c at h
  cases h with
  | fn h1 h2 h3 h4 => exact ⟨_, by simp only [execOp, ho, he]; rfl, .fn h1 h2 h3 h4⟩
def unV (op : UnOp) (v : V) : Option V :=
 match v.bool?, op with
 | some (x, s), .not => some (mkB s (!x))
 | some _, _ => none
 | none, _ =>
  match v.int?, op with
  | some (k, n, s), .neg => some (mkI s k (k.wrap (0 - n)))
  | some (k, n, s), .xor => some (mkI s k (k.wrap (BitVec.ofInt k.bits (if k.signed then -1 else k.max) ^^^ BitVec.ofInt k.bits n).toNat))
  | _, _ => none
theorem SemV.unOp {o : Oper} {op : UnOp} {T : TypeId} {x : Operand} {v : V} (ho : o.op = .unOp op T x) (hv : unV op (σ.eval Γ x) = some v) : SemV P Γ o σ v σ.ob σ.nm :=
 SemV.of_pure fun G a w hr => by
  have h := hr.eval x
  generalize he : a.eval x = c at h
  generalize σ.eval Γ x = y at h hv
  unfold unV at hv
  split at hv
  · rename_i p s _ hp
    have := bool?_eq hp h
    subst this
    cases hv
    exact ⟨_, by simp only [execOp, ho, he]; rfl, mkB_rel _ _ _⟩
  · cases hv
  · split at hv
    · rename_i k n s _ hp
      have := int?_eq hp h
      subst this
      cases hv
      exact ⟨_, by simp only [execOp, ho, he]; rfl, mkI_rel _ _ _ _⟩
    · rename_i k n s _ hp
      have := int?_eq hp h
      subst this
      cases hv
      exact ⟨_, by simp only [execOp, ho, he]; rfl, mkI_rel _ _ _ _⟩
    · cases hv
theorem run_eqGuard_none {op : BinOp} {T : TypeId} {x y : Operand} {p q : Value} (h : (∀ a b, ¬ (p = .agg a ∧ q = .agg b)) ∧ ¬ (p = .nilIface ∧ q = .nilIface)) (w : World) : (eqGuard op T x y p q).run P w = .ok () w := by
 obtain ⟨h1, h2⟩ := h
 cases p <;> cases q <;> first
  | exact absurd ⟨rfl, rfl⟩ h2
  | exact absurd ⟨rfl, rfl⟩ (h1 _ _)
  | (cases op <;> rfl)
theorem SemV.binOp {o : Oper} {op : BinOp} {T T' : TypeId} {x y : Operand} {v : V} {c : Bool} (ho : o.op = .binOp op T x y T') (hv : binX op (σ.eval Γ x) (σ.eval Γ y) = some (true, c, v)) : SemV P Γ o σ v σ.ob σ.nm :=
 SemV.of_pure fun G a w hr => by
  have hx := hr.eval x
  have hy := hr.eval y
  obtain ⟨⟨cv, h1, h2⟩, hg⟩ := binX_run (P := P) T hx hy hv w
  exact ⟨cv, by simp [execOp, ho, run_eqGuard_none hg w, h1], h2⟩
end
end Go.Proofs.Ytofbchcclkejgaa

