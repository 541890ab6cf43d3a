/- States of the abstract values, their relation to the machine's state, and the judgements. -/
import Derived.Test.YtblnabilodbceaaDoorDv1
set_option linter.unusedVariables false
namespace Go.Proofs.YtblnabilodbceaaDoor
open Go

abbrev Ob := List (Option (List V))
/-- How long the named slices are; 'none': a name that is not given yet. -/
abbrev Nm := List (Option Nat)
structure St where
  tm : List V
  ob : Ob
  nm : Nm

/-- The memory. -/
structure WRel (Γ : Nat → Option V) (G : Gh) (ob : Ob) (nm : Nm) (w : World) : Prop where
  m : ∀ b off cv, G.M b off = some cv → w.cell? ⟨b, off, none⟩ = some cv
  hob : ∀ (o : Nat) (cs : List V) (b : Nat), ob[o]? = some (some cs) → G.H o = some b → G.w0.heap.size ≤ b ∧ (∃ (cvs : Array Value) (E : TypeId) (fr : Nat × Nat), w.heap[b]? = some (.cells cvs E fr) ∧ (fr = (0, 0) ∨ cvs.size ≤ fr.1) ∧ cs.length ≤ cvs.size ∧ Rels G cs (cvs.toList.take cs.length)) ∧ ∀ off, G.M b off = none
  hlt : ∀ o b, G.H o = some b → o < ob.length ∧ b < w.heap.size
  habs : ∀ (o : Nat), ob[o]? = some none → G.H o = none
  inj : ∀ o o' b, G.H o = some b → G.H o' = some b → o = o'
  hnm : ∀ (n fr : Nat) (t : Tail), nm[n]? = some (some fr) → G.T n fr = some t → G.w0.heap.size ≤ t.b ∧ (∃ (cvs : Array Value) (E : TypeId), w.heap[t.b]? = some (.cells cvs E (0, 0)) ∧ t.hi ≤ cvs.size) ∧ (∀ off, t.lo ≤ off → off < t.hi → G.M t.b off = none) ∧ ∀ o, G.H o ≠ some t.b
  nmd : ∀ (n n' fr fr' : Nat) (t t' : Tail), n ≠ n' → nm[n]? = some (some fr) → nm[n']? = some (some fr') → G.T n fr = some t → G.T n' fr' = some t' → t.b ≠ t'.b
  tabs : ∀ (n : Nat), nm[n]? = some none → ∀ l, G.T n l = none
  tlt : ∀ n l t, G.T n l = some t → n < nm.length
  gl : ∀ g v, Γ g = some v → VRel G.bare v (.pointer (some ⟨g, 0, none⟩))
  mold : ∀ b off, b < G.w0.heap.size → G.M b off = G.M0 b off
  os : w.os = G.w0.os
  tape : w.tape = G.w0.tape
  output : w.output = G.w0.output
  size : G.w0.heap.size ≤ w.heap.size
  block : ∀ k, k < G.w0.heap.size → w.heap[k]? = G.w0.heap[k]?

structure Rel (Γ : Nat → Option V) (G : Gh) (σ : St) (a : Act) (w : World) : Prop where
  tm : Rels G σ.tm a.tmps.toList
  wr : WRel Γ G σ.ob σ.nm w
  df : a.defers = []

def SemC (P : Program) (Γ : Nat → Option V) (c : Code) (σ : St) (x : Exit) (σ' : St) : Prop :=
  ∀ G a w, Rel Γ G σ a w → c.wp P (fun e a' w' => e = x ∧ ∃ G', G.le G' ∧ Rel Γ G' σ' a' w') a w

def SemF (P : Program) (Γ : Nat → Option V) (f : FuncId) (args : List V) (ob : Ob) (nm : Nm) (res : V) (ob' : Ob) (nm' : Nm) : Prop :=
  ∀ (G : Gh) (w : World) (cargs : List Value), WRel Γ G ob nm w → Rels G args cargs →
    Calls P f cargs.toArray w fun e w' => ∃ cv G', e = .returned cv ∧ G.le G' ∧ VRel G' res cv ∧ WRel Γ G' ob' nm' w'

/-- Operations, one after the other, by their indices. -/
def SemR (P : Program) (Γ : Nat → Option V) (ops : Array Oper) (l : List Nat) (σ σ' : St) : Prop :=
  ∀ G a w, Rel Γ G σ a w → wpOps P ops (fun e a' w' => e = .normal ∧ ∃ G', G.le G' ∧ Rel Γ G' σ' a' w') l a w

/-- One operation that is carried out: its value, and the memory behind it. -/
def SemV (P : Program) (Γ : Nat → Option V) (o : Oper) (σ : St) (v : V) (ob' : Ob) (nm' : Nm) : Prop :=
  ∀ G a w (K : Act → World → Prop) (Q : Exit → Act → World → Prop), Rel Γ G σ a w → (∀ G' cv w', G.le G' → VRel G' v cv → WRel Γ G' ob' nm' w' → K (a.put o.dst cv) w') → o.wp P a w K Q

section
variable {P : Program} {Γ : Nat → Option V} {σ σ1 σ2 : St} {x : Exit}

theorem SemC.skip : SemC P Γ .skip σ .normal σ := fun G a w h => wp_skip ⟨rfl, G, .refl G, h⟩
theorem SemC.ret : SemC P Γ .ret σ .ret σ := fun G a w h => wp_ret ⟨rfl, G, .refl G, h⟩
theorem SemC.exit {id : Nat} : SemC P Γ (.exit id) σ (.exit id) σ := fun G a w h => wp_exit ⟨rfl, G, .refl G, h⟩
theorem SemC.seq {c d : Code} (h : SemC P Γ c σ .normal σ1) (k : SemC P Γ d σ1 x σ2) : SemC P Γ (.seq c d) σ x σ2 := by
  intro G a w hr
  refine wp_seq (wp_mono (h G a w hr) ?_)
  rintro e a' w' ⟨rfl, G1, h1, r1⟩
  refine wp_mono (k G1 a' w' r1) ?_
  rintro e a'' w'' ⟨rfl, G2, h2, r2⟩
  exact ⟨rfl, G2, h1.trans h2, r2⟩
theorem SemC.seq_out {c d : Code} (hx : x ≠ .normal) (h : SemC P Γ c σ x σ1) : SemC P Γ (.seq c d) σ x σ1 := by
  intro G a w hr
  refine wp_seq (wp_mono (h G a w hr) ?_)
  rintro e a' w' ⟨rfl, G1, h1, r1⟩
  cases e <;> first | exact absurd rfl hx | exact ⟨rfl, G1, h1, r1⟩
theorem SemC.block {id : Nat} {c : Code} (hx : x ≠ .exit id) (h : SemC P Γ c σ x σ1) : SemC P Γ (.block id c) σ x σ1 := by
  intro G a w hr
  refine wp_block (wp_mono (h G a w hr) ?_)
  rintro e a' w' ⟨rfl, G1, h1, r1⟩
  cases e with
  | exit i =>
    have : i ≠ id := fun hh => hx (by rw [hh])
    simp only [Exit.inBlock, this, if_false]
    exact ⟨trivial, G1, h1, r1⟩
  | _ => exact ⟨rfl, G1, h1, r1⟩
theorem SemC.block_exit {id : Nat} {c : Code} (h : SemC P Γ c σ (.exit id) σ1) : SemC P Γ (.block id c) σ .normal σ1 := by
  intro G a w hr
  refine wp_block (wp_mono (h G a w hr) ?_)
  rintro e a' w' ⟨rfl, G1, h1, r1⟩
  simp only [Exit.inBlock, if_true]
  exact ⟨trivial, G1, h1, r1⟩
/-- The loop in at most n rounds. -/
def SemLn (P : Program) (Γ : Nat → Option V) (c : Code) (n : Nat) (σ : St) (x : Exit) (σ' : St) : Prop :=
  ∀ G a w, Rel Γ G σ a w → Code.rounds P c (fun e a' w' => e = x ∧ ∃ G', G.le G' ∧ Rel Γ G' σ' a' w') n a w
def SemL (P : Program) (Γ : Nat → Option V) (c : Code) (σ : St) (x : Exit) (σ' : St) : Prop := ∃ n, SemLn P Γ c n σ x σ'
theorem rounds_mono {c : Code} {Q Q' : Exit → Act → World → Prop} (hq : ∀ e a w, Q e a w → Q' e a w) : ∀ (n : Nat) (a : Act) (w : World), Code.rounds P c Q n a w → Code.rounds P c Q' n a w
  | 0, _, _, h => h
  | n + 1, a, w, h => by
    rw [rounds_succ] at h ⊢
    refine wp_mono h ?_
    intro e a' w' h'
    cases e <;> first | exact rounds_mono hq n _ _ h' | exact hq _ _ _ h'
theorem SemL.next {c : Code} (h : SemC P Γ c σ .normal σ1) (k : SemL P Γ c σ1 x σ2) : SemL P Γ c σ x σ2 := by
  obtain ⟨n, k⟩ := k
  refine ⟨n + 1, fun G a w hr => ?_⟩
  rw [rounds_succ]
  refine wp_mono (h G a w hr) ?_
  rintro e a' w' ⟨rfl, G1, h1, r1⟩
  refine rounds_mono ?_ n _ _ (k G1 a' w' r1)
  rintro e a'' w'' ⟨rfl, G2, h2, r2⟩
  exact ⟨rfl, G2, h1.trans h2, r2⟩
theorem SemL.out {c : Code} (hx : x ≠ .normal) (h : SemC P Γ c σ x σ1) : SemL P Γ c σ x σ1 := by
  refine ⟨1, fun G a w hr => ?_⟩
  rw [rounds_succ]
  refine wp_mono (h G a w hr) ?_
  rintro e a' w' ⟨rfl, G1, h1, r1⟩
  cases e <;> first | exact absurd rfl hx | exact ⟨rfl, G1, h1, r1⟩
theorem SemC.loop {c : Code} (h : SemL P Γ c σ x σ1) : SemC P Γ (.loop c) σ x σ1 := by
  obtain ⟨n, h⟩ := h
  exact fun G a w hr => wp_loop_rounds n (h G a w hr)

/-! ### Regions -/
theorem LetsOut_mono {Q Q' : Exit → Act → World → Prop} (hq : ∀ e a w, Q e a w → Q' e a w) (h : LetsOut Q) : LetsOut Q' := let ⟨a, w, h⟩ := h; ⟨a, w, hq _ _ _ h⟩
theorem Oper_wp_mono2 {o : Oper} {a : Act} {w : World} {K K' : Act → World → Prop} {Q Q' : Exit → Act → World → Prop} (h : ∀ a w, K a w → K' a w) (hq : ∀ e a w, Q e a w → Q' e a w)
    (hh : o.wp P a w K Q) : o.wp P a w K' Q' := by
  unfold Oper.wp at *
  generalize (execOp a.eval o).run P w = r at *
  cases r with
  | ok n w' =>
    cases n <;> simp only [Oper.upon] at hh ⊢ <;>
      first
        | exact h _ _ hh
        | exact Calls.mono hh (fun e w'' he => by cases e <;> first | exact h _ _ he | exact hq _ _ _ he | exact LetsOut_mono hq he)
        | exact Rows.mono hh (fun _ _ he => h _ _ he)
  | halt x w' => cases x <;> simp only [Oper.upon] at hh ⊢ <;> first | exact hq _ _ _ hh | exact hh
theorem wpOps_mono {ops : Array Oper} {Q Q' : Exit → Act → World → Prop} (hq : ∀ e a w, Q e a w → Q' e a w) : ∀ (l : List Nat) (a : Act) (w : World), wpOps P ops Q l a w → wpOps P ops Q' l a w
  | [], _, _, h => hq _ _ _ h
  | i :: l, a, w, h => by
    simp only [wpOps] at h ⊢
    split
    · rename_i ho; simp only [ho] at h; exact wpOps_mono hq l _ _ h
    · rename_i o ho
      simp only [ho] at h
      split
      · rename_i hw
        simp only [hw, if_true] at h
        exact h.imp (Oper_wp_mono2 (fun a w => wpOps_mono hq l a w) hq) (fun h => ⟨h.1, LetsOut_mono hq h.2⟩)
      · rename_i hw
        simp only [hw] at h
        exact wpOps_mono hq l _ _ h
theorem SemC.region {id : Nat} {ops : Array Oper} (h : SemR P Γ ops (List.range ops.size) σ σ1) : SemC P Γ (.region id ops false) σ .normal σ1 :=
  fun G a w hr => wp_region (h G a w hr)
theorem SemR.nil {ops : Array Oper} : SemR P Γ ops [] σ σ := fun G a w hr => ⟨rfl, G, .refl G, hr⟩

/-- The guard, looked at in the abstract state. -/
def wantedV (ops : Array Oper) (tm : List V) (o : Oper) : Option Bool :=
  match o.guard with
  | none => some true
  | some (j, want) =>
    match (ops[j]?).bind (·.dst) with
    | none => some false
    | some d =>
      match tm[d]? with
      | some (.b x) => some (x == want)
      | some (.sb x) => some (x == want)
      | some (.tup _) => some false
      | _ => none
theorem wanted_of {G : Gh} {ops : Array Oper} {tm : List V} {a : Act} {o : Oper} {t : Bool} (hr : Rels G tm a.tmps.toList) (h : wantedV ops tm o = some t) : Region.wanted o (yielded ops a.tmps) = t := by
  unfold wantedV at h
  unfold Region.wanted
  split at h
  · rename_i hg; simp [hg] at h ⊢; exact h
  · rename_i j want hg
    simp only [hg]
    unfold yielded
    split at h
    · rename_i hd; simp [hd] at h ⊢; exact h
    · rename_i d hd
      simp only [hd, Option.bind_some]
      split at h
      · rename_i x hx
        obtain ⟨cv, hc, hv⟩ := hr.of_get hx
        cases hv
        have : a.tmps[d]? = some (.bool x) := by simpa using hc
        simp only [this]
        simp at h
        subst h
        cases x <;> cases want <;> rfl
      · rename_i x hx
        obtain ⟨cv, hc, hv⟩ := hr.of_get hx
        cases hv
        have : a.tmps[d]? = some (.bool x) := by simpa using hc
        simp only [this]
        simp at h
        subst h
        cases x <;> cases want <;> rfl
      · rename_i xs hx
        obtain ⟨cv, hc, hv⟩ := hr.of_get hx
        cases hv
        rename_i c _ _
        have : a.tmps[d]? = some (.tuple c) := by simpa using hc
        simp only [this]
        simp at h
        subst h
        rfl
      · cases h
/-- Leaving a value in a temporary. -/
def St.put (σ : St) (d : Option Nat) (v : V) : St :=
  match d with
  | some t => { σ with tm := σ.tm.set t v }
  | none => σ
theorem Rel.put {G : Gh} {a : Act} {w : World} (h : Rel Γ G σ a w) (d : Option Nat) {v : V} {cv : Value} (hv : VRel G v cv) : Rel Γ G (σ.put d v) (a.put d cv) w := by
  cases d with
  | none => exact h
  | some t => exact ⟨by simpa [St.put, Act.put] using h.tm.set hv t, h.wr, h.df⟩
theorem VRel.undef (G : Gh) : VRel G (.tup []) Go.undef := .tup (by simp) (fun j v cv h => by simp at h)
theorem SemR.skip {ops : Array Oper} {i : Nat} {l : List Nat} {o : Oper} (ho : ops[i]? = some o) (hw : wantedV ops σ.tm o = some false) (k : SemR P Γ ops l (σ.put o.dst (.tup [])) σ1) : SemR P Γ ops (i :: l) σ σ1 := by
  intro G a w hr
  simp only [wpOps, ho, wanted_of hr.tm hw]
  exact k G _ w (hr.put o.dst (VRel.undef G))
theorem SemR.cons {ops : Array Oper} {i : Nat} {l : List Nat} {o : Oper} (ho : ops[i]? = some o) (hw : wantedV ops σ.tm o = some true) {v : V} {ob' : Ob} {nm' : Nm} (h : SemV P Γ o σ v ob' nm')
    (k : SemR P Γ ops l ({ σ with ob := ob', nm := nm' }.put o.dst v) σ2) : SemR P Γ ops (i :: l) σ σ2 := by
  intro G a w hr
  simp only [wpOps, ho, wanted_of hr.tm hw, if_true]
  refine .inl (h G a w _ _ hr ?_)
  intro G1 cv w1 h1 hv hw
  have r0 : Rel Γ G1 { σ with ob := ob', nm := nm' } a w1 := ⟨hr.tm.mono h1, hw, hr.df⟩
  have := k G1 _ w1 (r0.put o.dst hv)
  refine wpOps_mono ?_ _ _ _ this
  rintro e a' w' ⟨rfl, G2, h2, r2⟩
  exact ⟨rfl, G2, h1.trans h2, r2⟩
end
end Go.Proofs.YtblnabilodbceaaDoor
