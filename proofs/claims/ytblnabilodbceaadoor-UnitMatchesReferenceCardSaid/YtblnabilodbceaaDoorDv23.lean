/- Objects that nothing asks for any more are forgotten. -/
import Derived.Test.YtblnabilodbceaaDoorDv22
set_option linter.unusedVariables false
set_option linter.unusedSimpArgs false
namespace Go.Proofs.YtblnabilodbceaaDoor
open Go

theorem refsL_mem : ∀ {l : List V} {v : V} {o : Nat}, v ∈ l → o ∈ v.refs → o ∈ V.refsL l
  | x :: xs, v, o, hv, ho => by
    simp only [V.refsL, List.mem_append]
    rcases List.mem_cons.1 hv with rfl | hv
    · exact .inl ho
    · exact .inr (refsL_mem hv ho)
theorem cells_refs {x v : V} {o : Nat} (hv : v ∈ x.cells) (ho : o ∈ v.refs) : o ∈ x.refs := by
  cases x with
  | agg cs => exact refsL_mem hv ho
  | _ => simp [V.cells] at hv; subst hv; exact ho
theorem flat_refs {l : List V} {v : V} {o : Nat} (hv : v ∈ flat l) (ho : o ∈ v.refs) : o ∈ V.refsL l := by
  obtain ⟨x, hx, hv⟩ := List.mem_flatMap.1 hv
  exact refsL_mem hx (cells_refs hv ho)
/-- Only the first k objects. -/
def Gh.low (G : Gh) (k : Nat) : Gh := { G with H := fun o => if o < k then G.H o else none }
theorem VRel.low {G : Gh} {k : Nat} {v : V} {cv : Value} (h : VRel G v cv) : (∀ o ∈ v.refs, o < k) → VRel (G.low k) v cv := by
  induction h with
  | b x => exact fun _ => .b x
  | i k n => exact fun _ => .i k n
  | s x => exact fun _ => .s x
  | sb x => exact fun _ => .sb x
  | si k n => exact fun _ => .si k n
  | ss x => exact fun _ => .ss x
  | nil => exact fun _ => .nil
  | ptr h => exact fun hr => .ptr (by simp only [Gh.low]; rw [if_pos (hr _ (by simp [V.refs]))]; exact h)
  | pel hsz hl hm hv ih => exact fun hr => .pel hsz hl (fun j cv h => hm j cv h) (fun j v cv h1 h2 => ih j v cv h1 h2 fun o ho => hr o (by simp only [V.refs]; exact flat_refs (List.mem_of_getElem? h1) ho))
  | lst0 t => exact fun _ => .lst0 t
  | @lst t xs b off cap sz cvs hsz hl hm hv hc ht ih => exact fun hr => .lst hsz hl (fun j cv h => hm j cv h) (fun j v cv h1 h2 => ih j v cv h1 h2 fun o ho => hr o (by simp only [V.refs]; exact flat_refs (List.mem_of_getElem? h1) ho)) hc (by cases t <;> exact ht)
  | sl h hc => exact fun hr => .sl (by simp only [Gh.low]; rw [if_pos (hr _ (by simp [V.refs]))]; exact h) hc
  | fn ha hc h1 h2 i1 i2 => exact fun hr => .fn ha hc (fun j v cv a b => i1 j v cv a b fun o ho => hr o (by simp only [V.refs, List.mem_append]; exact .inl (refsL_mem (List.mem_of_getElem? a) ho))) (fun j v cv a b => i2 j v cv a b fun o ho => hr o (by simp only [V.refs, List.mem_append]; exact .inr (refsL_mem (List.mem_of_getElem? a) ho)))
  | nilfn => exact fun _ => .nilfn
  | ifc h ih => exact fun hr => .ifc (ih hr)
  | nilifc => exact fun _ => .nilifc
  | agg hl h ih => exact fun hr => .agg hl (fun j v cv a b => ih j v cv a b fun o ho => hr o (by simp only [V.refs]; exact refsL_mem (List.mem_of_getElem? a) ho))
  | tup hl h ih => exact fun hr => .tup hl (fun j v cv a b => ih j v cv a b fun o ho => hr o (by simp only [V.refs]; exact refsL_mem (List.mem_of_getElem? a) ho))
  | any v => exact fun _ => .any v
theorem Rels.low {G : Gh} {k : Nat} {l : List V} {c : List Value} (h : Rels G l c) (hr : ∀ o ∈ V.refsL l, o < k) : Rels (G.low k) l c :=
  ⟨h.1, fun j v cv a b => (h.2 j v cv a b).low fun o ho => hr o (refsL_mem (List.mem_of_getElem? a) ho)⟩
/-- All that is kept asks for the first k objects only. -/
def lowOb (k : Nat) : Ob → Bool
  | [] => true
  | some cs :: r => (V.refsL cs).all (· < k) && lowOb k r
  | none :: r => lowOb k r
def lowOk (k : Nat) (vs : List V) (ob : Ob) : Bool := (V.refsL vs).all (· < k) && lowOb k ob
theorem lowOb_get {k : Nat} : ∀ {ob : Ob}, lowOb k ob = true → ∀ (o : Nat) (cs : List V), ob[o]? = some (some cs) → ∀ x ∈ V.refsL cs, x < k
  | [], _, o, cs, h => by simp at h
  | none :: r, h, o, cs, hc => by
    cases o with
    | zero => simp at hc
    | succ o => exact lowOb_get (ob := r) h o cs (by simpa using hc)
  | some ds :: r, h, o, cs, hc => by
    simp only [lowOb, Bool.and_eq_true] at h
    cases o with
    | zero => simp at hc; subst hc; exact fun x hx => by simpa using List.all_eq_true.1 h.1 x hx
    | succ o => exact lowOb_get h.2 o cs (by simpa using hc)
section
variable {P : Program} {Γ : Nat → Option V} {cf : CallF}
theorem WRel.low {G : Gh} {ob : Ob} {nm : Nm} {w : World} (h : WRel Γ G ob nm w) {k : Nat} (hk : lowOb k (ob.take k) = true) : WRel Γ (G.low k) (ob.take k) nm w := {
  m := h.m
  hob := fun o cs b h1 h2 => by
    simp only [Gh.low] at h2
    split at h2
    · rename_i hlt
      have hg := lowOb_get hk o cs h1
      rw [List.getElem?_take, if_pos hlt] at h1
      obtain ⟨a1, ⟨c, E, fr, e1, e2, e3, e4⟩, a3⟩ := h.hob o cs b h1 h2
      exact ⟨a1, ⟨c, E, fr, e1, e2, e3, e4.low hg⟩, a3⟩
    · cases h2
  hlt := fun o b h1 => by
    simp only [Gh.low] at h1
    split at h1
    · rename_i hlt
      have := h.hlt o b h1
      simp; omega
    · cases h1
  habs := fun o h1 => by
    simp only [Gh.low]
    split
    · rename_i hlt
      rw [List.getElem?_take, if_pos hlt] at h1
      exact h.habs o h1
    · rfl
  inj := fun o o' b h1 h2 => by
    simp only [Gh.low] at h1 h2
    split at h1 <;> split at h2
    · exact h.inj o o' b h1 h2
    · cases h2
    · cases h1
    · cases h1
  hnm := fun n fr t h1 h2 => by
    obtain ⟨a, b, c, d⟩ := h.hnm n fr t h1 h2
    exact ⟨a, b, c, fun o ho => by
      simp only [Gh.low] at ho
      split at ho
      · exact d o ho
      · cases ho⟩
  nmd := h.nmd
  tabs := h.tabs
  tlt := h.tlt
  gl := fun g v hg => (h.gl g v hg).mono' ⟨fun _ _ _ h => h, (fun _ _ h => by cases h), (fun _ _ _ h => by cases h)⟩
  mold := h.mold
  os := h.os
  tape := h.tape
  output := h.output
  size := h.size
  block := h.block }
theorem Rel.low {G G1 : Gh} {y : St} {a' : Act} {w' : World} {n k : Nat} {lv : List Nat} (h1 : G.le G1) (r1 : Rel Γ G1 y a' w') (hG : ∀ o b, G.H o = some b → o < k) (hn : y.tm.length = n) (hlo : lowOk k (y.kept lv) (y.ob.take k) = true) :
    ∃ G', G.le G' ∧ Rel Γ G' (St.of n lv (y.kept lv) (y.ob.take k) y.nm) a' w' := by
  simp only [lowOk, Bool.and_eq_true] at hlo
  refine ⟨G1.low k, ⟨⟨h1.m, fun o b hh => ?_, h1.t⟩, h1.w0, h1.m0⟩, ⟨?_, r1.wr.low hlo.2, r1.df⟩⟩
  · simp only [Gh.low]
    rw [if_pos (by exact hG o b hh)]
    exact h1.h o b hh
  · subst hn
    have hk' : ∀ (lv : List Nat) (l0 l : List V) (cv : List Value), Rels G1 l0 cv → (∀ o ∈ V.refsL (lv.map fun d => (l0[d]?).getD .any), o < k) → Rels (G1.low k) l cv → Rels (G1.low k) (setVs lv (lv.map fun d => (l0[d]?).getD .any) l) cv := by
      intro lv
      induction lv with
      | nil => exact fun l0 l cv _ _ h => h
      | cons d ds ih =>
        intro l0 l cv hr0 hro hrl
        simp only [List.map_cons, setVs]
        simp only [List.map_cons, V.refsL, List.mem_append] at hro
        refine ih l0 _ cv hr0 (fun o ho => hro o (.inr ho)) ⟨by simpa using hrl.1, fun j v c hv hc => ?_⟩
        rw [List.getElem?_set] at hv
        split at hv
        · rename_i hj
          subst hj
          split at hv
          · cases hv
            cases hd : l0[d]? with
            | none => exact .any _
            | some u =>
              refine (hr0.2 d u c hd hc).low fun o ho => hro o (.inl ?_)
              rw [hd]
              exact ho
          · cases hv
        · exact hrl.2 j v c hv hc
    have hany : Rels (G1.low k) (List.replicate y.tm.length V.any) a'.tmps.toList := ⟨by simpa using r1.tm.1, fun j v c hv hc => by
      rw [List.getElem?_replicate] at hv
      split at hv
      · cases hv; exact .any _
      · cases hv⟩
    exact hk' lv y.tm _ _ r1.tm (fun o ho => by simpa using List.all_eq_true.1 hlo.1 o ho) hany
theorem SemC.low {c : Code} {x : St} {e : Exit} {n k : Nat} {lv : List Nat} {y : St} (h : SemC P Γ c x e y) (hk : x.ob.length ≤ k) (hn : y.tm.length = n) (hlo : lowOk k (y.kept lv) (y.ob.take k) = true) :
    SemC P Γ c x e (St.of n lv (y.kept lv) (y.ob.take k) y.nm) := by
  intro G a w hr
  refine wp_mono (h G a w hr) ?_
  rintro e a' w' ⟨rfl, G1, h1, r1⟩
  exact ⟨rfl, r1.low h1 (fun o b hh => by have := (hr.wr.hlt o b hh).1; omega) hn hlo⟩
theorem SemL.low {c : Code} {x : St} {e : Exit} {n k : Nat} {lv : List Nat} {y : St} (h : SemL P Γ c x e y) (hk : x.ob.length ≤ k) (hn : y.tm.length = n) (hlo : lowOk k (y.kept lv) (y.ob.take k) = true) :
    SemL P Γ c x e (St.of n lv (y.kept lv) (y.ob.take k) y.nm) := by
  obtain ⟨m, h⟩ := h
  refine ⟨m, fun G a w hr => rounds_mono ?_ m a w (h G a w hr)⟩
  rintro e a' w' ⟨rfl, G1, h1, r1⟩
  exact ⟨rfl, r1.low h1 (fun o b hh => by have := (hr.wr.hlt o b hh).1; omega) hn hlo⟩
/-- One round, reckoned: what is kept at its end, with the first k objects. -/
def outk (k : Nat) (lv : List Nat) (t : Tr (Ex × St)) : Tr (Ex × List V × Ob × Nm × Nat) := t.bind fun p => match lowOk k (p.2.kept lv) (p.2.ob.take k) with | true => .leaf (some (p.1, p.2.kept lv, p.2.ob.take k, p.2.nm, p.2.tm.length)) | false => .leaf none
theorem outk_run {k : Nat} {t : Tr (Ex × St)} {lv : List Nat} {e : Ex} {vs : List V} {ob : Ob} {nm : Nm} {n : Nat} (h : (outk k lv t).run = some (e, vs, ob, nm, n)) :
    ∃ s, t.run = some (e, s) ∧ lowOk k (s.kept lv) (s.ob.take k) = true ∧ s.kept lv = vs ∧ s.ob.take k = ob ∧ s.nm = nm ∧ s.tm.length = n := by
  unfold outk at h
  rw [Tr.run_bind] at h
  cases ht : t.run with
  | none => rw [ht] at h; cases h
  | some p =>
    rw [ht] at h
    obtain ⟨e', s⟩ := p
    simp only [Option.bind_some] at h
    split at h
    · rename_i hl
      simp only [Tr.run, Option.some.injEq, Prod.mk.injEq] at h
      obtain ⟨rfl, rfl, rfl, rfl, rfl⟩ := h
      exact ⟨s, rfl, hl, rfl, rfl, rfl, rfl⟩
    · cases h
/-- A piece of code by the evaluator; lo: the loops of its function. -/
theorem SemC.of_evL {orc : Orc} (ho : OrcOk P Γ orc) (hm : P.follows .mixedOrders = true) {lo : LOrc} (hlo : LOrcOk P Γ lo) {f : FuncId} {fn : Func} {root : Code} (hf : P.funcs[f]? = some fn) (hb : fn.body = some root)
    {lv lv' : List Nat} {n d i k : Nat} {c : Code} (hl : Lies root i c) {x : St} {e : Ex} {vs : List V} {ob : Ob} {nm : Nm} {m : Nat} (hk : x.ob.length ≤ k)
    (h : (outk k lv' (evCK P Γ (cfD P Γ orc n d) (lo f) lv n i c x)).run = some (e, vs, ob, nm, m)) :
    SemC P Γ c x e.to (St.of m lv' vs ob nm) ∧ ∀ b, c = .loop b → SemL P Γ b x e.to (St.of m lv' vs ob nm) := by
  obtain ⟨s, h1, h2, rfl, rfl, rfl, rfl⟩ := outk_run h
  have hlo' : ∀ i e, lo f i = some e → ∀ b, (loops root)[i]? = some b → ∀ vs ob nm t ex s, e.go vs ob nm = some t → t.run = some (ex, s) → SemL P Γ b (St.of e.n e.lv vs ob nm) ex.to s := fun i e he b hb' => by
    obtain ⟨fn', c', b', g1, g2, g3, g4⟩ := hlo f i e he
    rw [hf] at g1
    obtain rfl := Option.some.inj g1
    rw [hb] at g2
    obtain rfl := Option.some.inj g2
    rw [hb'] at g3
    obtain rfl := Option.some.inj g3
    exact g4
  have hs := evCK_sound' (cfD_ok ho hm d) (cfD_fit d) hm hlo' n i c x e s hl h1
  exact ⟨hs.1.low hk rfl h2, fun b hb => (hs.2 b hb).low hk rfl h2⟩
/-- The same without a table. -/
theorem SemL.of_evN {orc : Orc} (ho : OrcOk P Γ orc) (hm : P.follows .mixedOrders = true) {lv lv' : List Nat} {n d k : Nat} {b : Code} {x : St} {e : Ex} {vs : List V} {ob : Ob} {nm : Nm} {m : Nat} (hk : x.ob.length ≤ k)
    (h : (outk k lv' (evCK P Γ (cfD P Γ orc n d) (fun _ => none) lv n 0 (.loop b) x)).run = some (e, vs, ob, nm, m)) : SemL P Γ b x e.to (St.of m lv' vs ob nm) := by
  obtain ⟨s, h1, h2, rfl, rfl, rfl, rfl⟩ := outk_run h
  exact ((evCK_sound' (cfD_ok ho hm d) (cfD_fit d) hm (root := .loop b) (fun i e he => by cases he) n 0 _ x e s (fun j b hj => by simpa using hj) h1).2 b rfl).low hk rfl h2
theorem Lies.of_take {root c : Code} {i n : Nat} (h : loops c = ((loops root).drop i).take n) : Lies root i c := fun j b hj => by
  rw [h, List.getElem?_take, List.getElem?_drop] at hj
  split at hj
  · exact hj
  · cases hj
end
end Go.Proofs.YtblnabilodbceaaDoor
