/- A call that is handed only some of the objects and buffers: the others stay as they are. -/
import Derived.Test.YtnjjkobijjdnbaaEv23
set_option linter.unusedVariables false
set_option linter.unusedSimpArgs false
namespace Go.Proofs.Ytnjjkobijjdnbaa
open Go

theorem refs_flat {o : Nat} {v : V} : ∀ {xs : List V}, v ∈ flat xs → o ∈ v.refs → o ∈ V.refsL xs
  | x :: xs, hv, ho => by
    rw [flat_cons, List.mem_append] at hv
    simp only [V.refsL, List.mem_append]
    rcases hv with hv | hv
    · refine .inl ?_
      cases x with
      | agg cs => simp only [V.refs]; exact refsL_mem (by simpa [V.cells] using hv) ho
      | _ => simp only [V.cells, List.mem_singleton] at hv; subst hv; exact ho
    · exact .inr (refs_flat hv ho)
theorem nrefs_flat {o : Nat} {v : V} : ∀ {xs : List V}, v ∈ flat xs → o ∈ v.nrefs → o ∈ V.nrefsL xs
  | x :: xs, hv, ho => by
    rw [flat_cons, List.mem_append] at hv
    simp only [V.nrefsL, List.mem_append]
    rcases hv with hv | hv
    · refine .inl ?_
      cases x with
      | agg cs => simp only [V.nrefs]; exact nrefsL_mem (by simpa [V.cells] using hv) ho
      | _ => simp only [V.cells, List.mem_singleton] at hv; subst hv; exact ho
    · exact .inr (nrefs_flat hv ho)
theorem mem_refsL {o : Nat} : ∀ {l : List V}, o ∈ V.refsL l → ∃ v ∈ l, o ∈ v.refs
  | x :: l, h => by
    simp only [V.refsL, List.mem_append] at h
    rcases h with h | h
    · exact ⟨x, List.mem_cons_self .., h⟩
    · obtain ⟨v, hv, ho⟩ := mem_refsL h
      exact ⟨v, List.mem_cons_of_mem _ hv, ho⟩
theorem mem_nrefsL {o : Nat} : ∀ {l : List V}, o ∈ V.nrefsL l → ∃ v ∈ l, o ∈ v.nrefs
  | x :: l, h => by
    simp only [V.nrefsL, List.mem_append] at h
    rcases h with h | h
    · exact ⟨x, List.mem_cons_self .., h⟩
    · obtain ⟨v, hv, ho⟩ := mem_nrefsL h
      exact ⟨v, List.mem_cons_of_mem _ hv, ho⟩
theorem refsL_append : ∀ (a b : List V), V.refsL (a ++ b) = V.refsL a ++ V.refsL b
  | [], b => rfl
  | x :: a, b => by simp only [List.cons_append, V.refsL, refsL_append a b, List.append_assoc]
theorem nrefsL_append : ∀ (a b : List V), V.nrefsL (a ++ b) = V.nrefsL a ++ V.nrefsL b
  | [], b => rfl
  | x :: a, b => by simp only [List.cons_append, V.nrefsL, nrefsL_append a b, List.append_assoc]
mutual
theorem Ty.val_refs : ∀ (t : Ty) (x : t.den), V.refs (t.val x) = [] ∧ V.nrefs (t.val x) = []
  | .bool, x => ⟨rfl, rfl⟩
  | .int k, n => ⟨rfl, rfl⟩
  | .str, s => ⟨rfl, rfl⟩
  | .agg fs, x => by simp only [Ty.val, V.refs, V.nrefs]; exact Ty.cellss_refs fs x
  | .slice e, l => ⟨rfl, rfl⟩
theorem Ty.cells_refs : ∀ (t : Ty) (x : t.den), V.refsL (t.cells x) = [] ∧ V.nrefsL (t.cells x) = []
  | .bool, x => ⟨rfl, rfl⟩
  | .int k, n => ⟨rfl, rfl⟩
  | .str, s => ⟨rfl, rfl⟩
  | .agg fs, x => Ty.cellss_refs fs x
  | .slice e, l => ⟨rfl, rfl⟩
theorem Ty.cellss_refs : ∀ (ts : List Ty) (x : Ty.dens ts), V.refsL (Ty.cellss ts x) = [] ∧ V.nrefsL (Ty.cellss ts x) = []
  | [], _ => ⟨rfl, rfl⟩
  | t :: ts, x => by
    simp only [Ty.cellss, refsL_append, nrefsL_append, (Ty.cells_refs t x.1).1, (Ty.cells_refs t x.1).2, (Ty.cellss_refs ts x.2).1, (Ty.cellss_refs ts x.2).2]
    exact ⟨rfl, rfl⟩
end
theorem map_refs (ty : Ty) : ∀ (l : List ty.den), V.refsL (l.map ty.val) = [] ∧ V.nrefsL (l.map ty.val) = []
  | [] => ⟨rfl, rfl⟩
  | x :: l => by
    simp only [List.map_cons, V.refsL, V.nrefsL, (Ty.val_refs ty x).1, (Ty.val_refs ty x).2, (map_refs ty l).1, (map_refs ty l).2]
    exact ⟨rfl, rfl⟩
/-- What a value says under another ghost: its own names alone matter. -/
theorem VRel.byRefs {G G' : Gh} (gm : ∀ b off cv, G.M b off = some cv → G'.M b off = some cv) (gd : ∀ l o, G.D l = some o → G'.D l = some o) {v : V} {cv : Value} (h : VRel G v cv) :
    (∀ o ∈ v.refs, ∀ b, G.H o = some b → G'.H o = some b) → (∀ n ∈ v.nrefs, ∀ x, G.T n = some x → G'.T n = some x) → VRel G' v cv := by
  induction h with
  | b x => intro _ _; exact .b x
  | i k n => intro _ _; exact .i k n
  | s x => intro _ _; exact .s x
  | sb x => intro _ _; exact .sb x
  | si k n => intro _ _; exact .si k n
  | ss x => intro _ _; exact .ss x
  | nil => intro _ _; exact .nil
  | ptr h => intro r _; exact .ptr (r _ (by simp [V.refs]) _ h)
  | pel hsz hl hm hv ih => intro r t; exact .pel hsz hl (fun j cv h => gm _ _ _ (hm j cv h)) (fun j v cv h1 h2 => ih j v cv h1 h2 (fun o ho => r o (by simp only [V.refs]; exact refs_flat (List.mem_of_getElem? h1) ho)) (fun o ho => t o (by simp only [V.nrefs]; exact nrefs_flat (List.mem_of_getElem? h1) ho)))
  | lst0 t => intro _ _; exact .lst0 t
  | lst1 p cap => intro _ _; exact .lst1 p cap
  | lst hsz hl hm hv hc ht ih => intro r t; exact .lst hsz hl (fun j cv h => gm _ _ _ (hm j cv h)) (fun j v cv h1 h2 => ih j v cv h1 h2 (fun o ho => r o (by simp only [V.refs]; exact refs_flat (List.mem_of_getElem? h1) ho)) (fun o ho => t o (by simp only [V.nrefs]; exact nrefs_flat (List.mem_of_getElem? h1) ho))) hc (ht.mono G')
  | sl h hc => intro r _; exact .sl (r _ (by simp [V.refs]) _ h) hc
  | fn ha hc h1 h2 i1 i2 =>
    intro r t
    exact .fn ha hc (fun j v cv g1 g2 => i1 j v cv g1 g2 (fun o ho => r o (by simp only [V.refs, List.mem_append]; exact .inl (refsL_mem (List.mem_of_getElem? g1) ho))) (fun o ho => t o (by simp only [V.nrefs, List.mem_append]; exact .inl (nrefsL_mem (List.mem_of_getElem? g1) ho))))
      (fun j v cv g1 g2 => i2 j v cv g1 g2 (fun o ho => r o (by simp only [V.refs, List.mem_append]; exact .inr (refsL_mem (List.mem_of_getElem? g1) ho))) (fun o ho => t o (by simp only [V.nrefs, List.mem_append]; exact .inr (nrefsL_mem (List.mem_of_getElem? g1) ho))))
  | nilfn => intro _ _; exact .nilfn
  | ifc h ih => intro r t; exact .ifc (ih (fun o ho => r o (by simpa [V.refs] using ho)) (fun o ho => t o (by simpa [V.nrefs] using ho)))
  | nilifc => intro _ _; exact .nilifc
  | agg hl h ih => intro r t; exact .agg hl (fun j v cv g1 g2 => ih j v cv g1 g2 (fun o ho => r o (by simp only [V.refs]; exact refsL_mem (List.mem_of_getElem? g1) ho)) (fun o ho => t o (by simp only [V.nrefs]; exact nrefsL_mem (List.mem_of_getElem? g1) ho)))
  | tup hl h ih => intro r t; exact .tup hl (fun j v cv g1 g2 => ih j v cv g1 g2 (fun o ho => r o (by simp only [V.refs]; exact refsL_mem (List.mem_of_getElem? g1) ho)) (fun o ho => t o (by simp only [V.nrefs]; exact nrefsL_mem (List.mem_of_getElem? g1) ho)))
  | any v => intro _ _; exact .any v
  | @slst t ty l cv h ih => intro _ _; exact .slst (ih (fun o ho => by simp only [V.refs, (map_refs ty l).1] at ho; cases ho) (fun o ho => by simp only [V.nrefs, (map_refs ty l).2] at ho; cases ho))
  | bs0 sy n off => intro _ _; exact .bs0 sy n off
  | bs1 sy n off b o => intro _ _; exact .bs1 sy n off b o
  | bs h hl => intro _ t; exact .bs (t _ (by simp [V.nrefs]) _ h) hl
  | bp h => intro _ t; exact .bp (t _ (by simp [V.nrefs]) _ h)
  | yl h hs hl ht ih => intro r t; exact .yl (gd _ _ h) hs hl (fun j v cv g1 g2 => ih j v cv g1 g2 (fun o ho => r o (by simp only [V.refs]; exact refsL_mem (List.mem_of_getElem? g1) ho)) (fun o ho => t o (by simp only [V.nrefs]; exact nrefsL_mem (List.mem_of_getElem? g1) ho)))
theorem Rels.byRefs {G G' : Gh} (gm : ∀ b off cv, G.M b off = some cv → G'.M b off = some cv) (gd : ∀ l o, G.D l = some o → G'.D l = some o) {vs : List V} {cvs : List Value} (h : Rels G vs cvs)
    (r : ∀ o ∈ V.refsL vs, ∀ b, G.H o = some b → G'.H o = some b) (t : ∀ n ∈ V.nrefsL vs, ∀ x, G.T n = some x → G'.T n = some x) : Rels G' vs cvs :=
  ⟨h.1, fun j v cv g1 g2 => (h.2 j v cv g1 g2).byRefs gm gd (fun o ho => r o (refsL_mem (List.mem_of_getElem? g1) ho)) (fun o ho => t o (nrefsL_mem (List.mem_of_getElem? g1) ho))⟩

/-! ### Masks -/
/-- Of the objects, those that are handed over; of the others nothing is said. -/
def maskO (to : List Nat) : Nat → Ob → Ob
  | _, [] => []
  | i, none :: r => none :: maskO to (i + 1) r
  | i, some cs :: r => (match to.contains i with | true => some cs | false => some []) :: maskO to (i + 1) r
def maskN (tn : List Nat) : Nat → Nm → Nm
  | _, [] => []
  | i, none :: r => none :: maskN tn (i + 1) r
  | i, some b :: r => (match tn.contains i with | true => some b | false => some .dead) :: maskN tn (i + 1) r
/-- The others put back. -/
def restO (to : List Nat) : Nat → Ob → Ob → Ob
  | _, [], ob1 => ob1
  | _, _ :: _, [] => []
  | i, c :: r, d :: r1 => (match to.contains i with | true => d | false => c) :: restO to (i + 1) r r1
def restN (tn : List Nat) : Nat → Nm → Nm → Nm
  | _, [], nm1 => nm1
  | _, _ :: _, [] => []
  | i, c :: r, d :: r1 => (match tn.contains i with | true => d | false => c) :: restN tn (i + 1) r r1
theorem maskO_get (to : List Nat) : ∀ (i : Nat) (ob : Ob) (j : Nat), (maskO to i ob)[j]? = (ob[j]?).map fun c => c.map fun cs => if to.contains (i + j) then cs else []
  | i, [], j => by simp [maskO]
  | i, none :: r, 0 => by simp [maskO]
  | i, none :: r, j + 1 => by
    simp only [maskO, List.getElem?_cons_succ, maskO_get to (i + 1) r j, show i + 1 + j = i + (j + 1) by omega]
  | i, some cs :: r, 0 => by
    simp only [maskO, List.getElem?_cons_zero, Option.map_some, Nat.add_zero]
    cases to.contains i <;> rfl
  | i, some cs :: r, j + 1 => by
    simp only [maskO, List.getElem?_cons_succ, maskO_get to (i + 1) r j, show i + 1 + j = i + (j + 1) by omega]
theorem maskN_get (tn : List Nat) : ∀ (i : Nat) (nm : Nm) (j : Nat), (maskN tn i nm)[j]? = (nm[j]?).map fun c => c.map fun b => if tn.contains (i + j) then b else .dead
  | i, [], j => by simp [maskN]
  | i, none :: r, 0 => by simp [maskN]
  | i, none :: r, j + 1 => by
    simp only [maskN, List.getElem?_cons_succ, maskN_get tn (i + 1) r j, show i + 1 + j = i + (j + 1) by omega]
  | i, some cs :: r, 0 => by
    simp only [maskN, List.getElem?_cons_zero, Option.map_some, Nat.add_zero]
    cases tn.contains i <;> rfl
  | i, some cs :: r, j + 1 => by
    simp only [maskN, List.getElem?_cons_succ, maskN_get tn (i + 1) r j, show i + 1 + j = i + (j + 1) by omega]
theorem maskO_len (to : List Nat) : ∀ (i : Nat) (ob : Ob), (maskO to i ob).length = ob.length
  | _, [] => rfl
  | i, none :: r => by simp [maskO, maskO_len to (i + 1) r]
  | i, some cs :: r => by simp [maskO, maskO_len to (i + 1) r]
theorem maskN_len (tn : List Nat) : ∀ (i : Nat) (nm : Nm), (maskN tn i nm).length = nm.length
  | _, [] => rfl
  | i, none :: r => by simp [maskN, maskN_len tn (i + 1) r]
  | i, some cs :: r => by simp [maskN, maskN_len tn (i + 1) r]
theorem restO_get (to : List Nat) : ∀ (i : Nat) (ob ob1 : Ob), ob.length ≤ ob1.length → ∀ j : Nat, (restO to i ob ob1)[j]? = if j < ob.length ∧ to.contains (i + j) = false then ob[j]? else ob1[j]?
  | i, [], ob1, _, j => by simp [restO]
  | i, c :: r, [], h, j => by simp at h
  | i, c :: r, d :: r1, h, 0 => by
    simp only [restO, List.getElem?_cons_zero, List.length_cons, Nat.add_zero]
    cases to.contains i <;> simp
  | i, c :: r, d :: r1, h, j + 1 => by
    simp only [restO, List.getElem?_cons_succ, List.length_cons]
    rw [restO_get to (i + 1) r r1 (by simpa using h) j, show i + 1 + j = i + (j + 1) by omega]
    simp
theorem restN_get (tn : List Nat) : ∀ (i : Nat) (nm nm1 : Nm), nm.length ≤ nm1.length → ∀ j : Nat, (restN tn i nm nm1)[j]? = if j < nm.length ∧ tn.contains (i + j) = false then nm[j]? else nm1[j]?
  | i, [], nm1, _, j => by simp [restN]
  | i, c :: r, [], h, j => by simp at h
  | i, c :: r, d :: r1, h, 0 => by
    simp only [restN, List.getElem?_cons_zero, List.length_cons, Nat.add_zero]
    cases tn.contains i <;> simp
  | i, c :: r, d :: r1, h, j + 1 => by
    simp only [restN, List.getElem?_cons_succ, List.length_cons]
    rw [restN_get tn (i + 1) r r1 (by simpa using h) j, show i + 1 + j = i + (j + 1) by omega]
    simp
theorem restO_len (to : List Nat) : ∀ (i : Nat) (ob ob1 : Ob), ob.length ≤ ob1.length → (restO to i ob ob1).length = ob1.length
  | _, [], ob1, _ => rfl
  | i, c :: r, [], h => by simp at h
  | i, c :: r, d :: r1, h => by simp [restO, restO_len to (i + 1) r r1 (by simpa using h)]
theorem restN_len (tn : List Nat) : ∀ (i : Nat) (nm nm1 : Nm), nm.length ≤ nm1.length → (restN tn i nm nm1).length = nm1.length
  | _, [], nm1, _ => rfl
  | i, c :: r, [], h => by simp at h
  | i, c :: r, d :: r1, h => by simp [restN, restN_len tn (i + 1) r r1 (by simpa using h)]
/-- All names that values have are of these. -/
def NamesIn (po pn : Nat → Prop) (l : List V) : Prop := (∀ o ∈ V.refsL l, po o) ∧ ∀ n ∈ V.nrefsL l, pn n
section
variable {P : Program} {Γ : Nat → Option V}
open Classical in
/-- A call that is handed only some of the objects and buffers: the others stay as they are. -/
theorem SemF.mask {f : FuncId} {args : List V} {ob ob1 : Ob} {nm nm1 : Nm} {v : V} {to tn : List Nat} (h : SemF P Γ f args (maskO to 0 ob) (maskN tn 0 nm) v ob1 nm1)
    (ha : NamesIn (· ∈ to) (· ∈ tn) args) (hin : ∀ o ∈ to, ∀ cs, ob[o]? = some (some cs) → NamesIn (· ∈ to) (· ∈ tn) cs) (hinn : ∀ n ∈ tn, ∀ c, nm[n]? = some (some (.live c)) → NamesIn (· ∈ to) (· ∈ tn) c.els)
    (hk : ob.length ≤ ob1.length) (hkn : nm.length ≤ nm1.length)
    (hv : NamesIn (fun o => o ∈ to ∨ ob.length ≤ o) (fun n => n ∈ tn ∨ nm.length ≤ n) [v])
    (hout : ∀ o, (o ∈ to ∨ ob.length ≤ o) → ∀ cs, ob1[o]? = some (some cs) → NamesIn (fun o => o ∈ to ∨ ob.length ≤ o) (fun n => n ∈ tn ∨ nm.length ≤ n) cs)
    (houtn : ∀ n, (n ∈ tn ∨ nm.length ≤ n) → ∀ c, nm1[n]? = some (some (.live c)) → NamesIn (fun o => o ∈ to ∨ ob.length ≤ o) (fun n => n ∈ tn ∨ nm.length ≤ n) c.els) :
    SemF P Γ f args ob nm v (restO to 0 ob ob1) (restN tn 0 nm nm1) := by
  intro G w cargs hw hr
  let S : Nat → Bool := fun b => decide ((∃ o, o ∈ to ∧ G.H o = some b) ∨ (∃ n x c, n ∈ tn ∧ nm[n]? = some (some (.live c)) ∧ G.T n = some x ∧ x.b = b) ∨ ∃ o, G.D b = some o)
  let Gs : Gh := { M := G.M, H := fun o => if o ∈ to then G.H o else none, T := fun n => if n ∈ tn then G.T n else none, D := G.D, kh := G.kh, kt := G.kt, w0 := { w with S := S }, M0 := G.M, kd := G.kd }
  have sH : ∀ {o b}, Gs.H o = some b → o ∈ to ∧ G.H o = some b := fun {o b} hh => by
    have hh : (if o ∈ to then G.H o else none) = some b := hh
    split at hh
    · rename_i ht; exact ⟨ht, hh⟩
    · cases hh
  have sT : ∀ {n x}, Gs.T n = some x → n ∈ tn ∧ G.T n = some x := fun {n x} hh => by
    have hh : (if n ∈ tn then G.T n else none) = some x := hh
    split at hh
    · rename_i ht; exact ⟨ht, hh⟩
    · cases hh
  have tH : ∀ {o}, o ∈ to → Gs.H o = G.H o := fun {o} ht => if_pos ht
  have tT : ∀ {n}, n ∈ tn → Gs.T n = G.T n := fun {n} ht => if_pos ht
  have mO : ∀ {o cs}, (maskO to 0 ob)[o]? = some (some cs) → o ∈ to → ob[o]? = some (some cs) := fun {o cs} hh ht => by
    rw [maskO_get] at hh
    cases hob : ob[o]? with
    | none => rw [hob] at hh; cases hh
    | some c =>
      cases c with
      | none => rw [hob] at hh; cases hh
      | some d =>
        rw [hob] at hh
        simp only [Option.map_some, Nat.zero_add, Option.some.injEq] at hh
        rw [if_pos (by simpa using ht)] at hh
        rw [hh]
  have mN : ∀ {n c}, (maskN tn 0 nm)[n]? = some (some (Bf.live c)) → n ∈ tn ∧ nm[n]? = some (some (.live c)) := fun {n c} hh => by
    rw [maskN_get] at hh
    cases hob : nm[n]? with
    | none => rw [hob] at hh; cases hh
    | some c' =>
      cases c' with
      | none => rw [hob] at hh; cases hh
      | some d =>
        rw [hob] at hh
        simp only [Option.map_some, Nat.zero_add, Option.some.injEq] at hh
        split at hh
        · rename_i ht; exact ⟨by simpa using ht, by rw [hh]⟩
        · cases hh
  have owned : ∀ b, Gs.w0.own b → G.w0.own b := fun b hb => by
    rcases hb with hb | hb
    · exact .inl (Nat.le_trans hw.size hb)
    · have hb : decide _ = true := hb
      rcases of_decide_eq_true hb with ⟨o, _, ho⟩ | ⟨n, x, c, _, hc, hx, rfl⟩ | ⟨o, ho⟩
      · have hl := (hw.hlt o b ho).1
        cases hc : ob[o]'hl with
        | none =>
          have := hw.habs o (by rw [List.getElem?_eq_getElem hl, hc])
          rw [this] at ho; cases ho
        | some cs => exact (hw.hob o cs b (by rw [List.getElem?_eq_getElem hl, hc]) ho).1
      · exact (hw.hnm n c x hc hx).old
      · exact (hw.dd b o ho).2.2
  have ownO : ∀ {o b}, o ∈ to → G.H o = some b → Gs.w0.own b := fun {o b} ht hb => .inr (decide_eq_true (.inl ⟨o, ht, hb⟩))
  have ownN : ∀ {n x c}, n ∈ tn → nm[n]? = some (some (.live c)) → G.T n = some x → Gs.w0.own x.b := fun {n x c} ht hc hx => .inr (decide_eq_true (.inr (.inl ⟨n, x, c, ht, hc, hx, rfl⟩)))
  have ownD : ∀ {l o}, G.D l = some o → Gs.w0.own l := fun {l o} ho => .inr (decide_eq_true (.inr (.inr ⟨o, ho⟩)))
  have gm : ∀ b off cv, G.M b off = some cv → Gs.M b off = some cv := fun _ _ _ h => h
  have gd : ∀ l o, G.D l = some o → Gs.D l = some o := fun _ _ h => h
  have toS : ∀ {vs : List V} {cvs : List Value}, NamesIn (· ∈ to) (· ∈ tn) vs → Rels G vs cvs → Rels Gs vs cvs := fun {vs cvs} hn hr => hr.byRefs gm gd (fun o ho b hb => (tH (hn.1 o ho)).trans hb) (fun n hn' x hx => (tT (hn.2 n hn')).trans hx)
  have elsIn : ∀ {c : BC}, NamesIn (· ∈ to) (· ∈ tn) c.els → NamesIn (· ∈ to) (· ∈ tn) (flat c.els) := fun {c} hc => ⟨fun o ho => by
      obtain ⟨v, hv, ho⟩ := mem_refsL ho
      exact hc.1 o (refs_flat hv ho), fun n hn => by
      obtain ⟨v, hv, hn⟩ := mem_nrefsL hn
      exact hc.2 n (nrefs_flat hv hn)⟩
  have hws : WRel Γ Gs (maskO to 0 ob) (maskN tn 0 nm) w := {
    m := hw.m
    hob := fun o cs b h1 h2 => by
      obtain ⟨ht, hb⟩ := sH h2
      have ho := mO h1 ht
      obtain ⟨q1, ⟨cvs, E, fr, q2, q3, q4, q5⟩, q6⟩ := hw.hob o cs b ho hb
      exact ⟨ownO ht hb, ⟨cvs, E, fr, q2, q3, q4, toS (hin o ht cs ho) q5⟩, q6⟩
    hlt := fun o b h1 => by rw [maskO_len]; exact hw.hlt o b (sH h1).2
    habs := fun o h1 => by
      have h0 : G.H o = none := hw.habs o (by
        rw [maskO_get] at h1
        cases hob : ob[o]? with
        | none => rw [hob] at h1; cases h1
        | some c => cases c with | none => rfl | some d => rw [hob] at h1; simp at h1)
      show (if o ∈ to then G.H o else none) = none
      split
      · exact h0
      · rfl
    inj := fun o o' b h1 h2 => hw.inj o o' b (sH h1).2 (sH h2).2
    hnm := fun n c x h1 h2 => by
      obtain ⟨ht, hc⟩ := mN h1
      obtain ⟨_, hx⟩ := sT h2
      have B := hw.hnm n c x hc hx
      obtain ⟨cvs, E, fr, e1, e2, e3, e4⟩ := B.row
      exact ⟨ownN ht hc hx, ⟨cvs, E, fr, e1, e2, e3, toS (elsIn (hinn n ht c hc)) e4⟩, B.sz, B.el, B.len, B.cap, B.free, fun o ho => B.obj o (sH ho).2⟩
    hno := fun n c h1 h2 => by
      obtain ⟨ht, hc⟩ := mN h1
      exact hw.hno n c hc ((tT ht).symm.trans h2)
    nmd := fun n n' c c' x x' hne h1 h2 h3 h4 => hw.nmd n n' c c' x x' hne (mN h1).2 (mN h2).2 (sT h3).2 (sT h4).2
    tabs := fun n h1 => by
      have h0 : G.T n = none := hw.tabs n (by
        rw [maskN_get] at h1
        cases hob : nm[n]? with
        | none => rw [hob] at h1; cases h1
        | some c => cases c with | none => rfl | some d => rw [hob] at h1; simp at h1)
      show (if n ∈ tn then G.T n else none) = none
      split
      · exact h0
      · rfl
    tlt := fun n x h1 => by rw [maskN_len]; exact hw.tlt n x (sT h1).2
    dd := fun l o hl => ⟨(hw.dd l o hl).1, (hw.dd l o hl).2.1, ownD hl⟩
    kdle := hw.kdle
    gl := fun g v hg => VRel.mono' (G := G.bare) (G' := Gs.bare) ⟨fun _ _ _ h => h, (fun _ _ h => by cases h), (fun _ _ h => by cases h), (fun _ _ h => by cases h)⟩ (hw.gl g v hg)
    mold := fun b off _ => rfl
    os := rfl
    tape := rfl
    output := rfl
    size := Nat.le_refl _
    block := fun k _ => rfl }
  refine (h Gs w cargs hws (toS ha hr)).mono ?_
  rintro e w' ⟨cv, G1, rfl, hle, hvv, hw1⟩
  have hw0 : G1.w0 = Gs.w0 := hle.w0
  have hm0 : G1.M0 = G.M := hle.m0
  have hfz : ∀ k, ¬ Gs.w0.own k → w'.heap[k]? = w.heap[k]? := fun k hk => by
    have := hw1.block k (by rw [hw0]; exact hk)
    rwa [hw0] at this
  have hmo : ∀ b off, ¬ Gs.w0.own b → G1.M b off = G.M b off := fun b off hb => by
    have := hw1.mold b off (by rw [hw0]; exact hb)
    rwa [hm0] at this
  have hsz : w.heap.size ≤ w'.heap.size := by have := hw1.size; rwa [hw0] at this
  let uO : Nat → Prop := fun o => o < ob.length ∧ o ∉ to
  let uN : Nat → Prop := fun n => n < nm.length ∧ n ∉ tn
  let G' : Gh := { M := G1.M, H := fun o => if uO o then G.H o else G1.H o, T := fun n => if uN n then G.T n else G1.T n, D := G1.D, kh := G.kh, kt := G.kt, w0 := G.w0, M0 := G.M0, kd := G.kd }
  have hle2 : G.le G' := ⟨⟨hle.m, fun o b hh => by
      show (if uO o then G.H o else G1.H o) = some b
      split
      · exact hh
      · rename_i hu
        have ht : o ∈ to := Classical.byContradiction fun ht => hu ⟨(hw.hlt o b hh).1, ht⟩
        exact hle.h o b ((tH ht).trans hh), fun n x hh => by
      show (if uN n then G.T n else G1.T n) = some x
      split
      · exact hh
      · rename_i hu
        have ht : n ∈ tn := Classical.byContradiction fun ht => hu ⟨hw.tlt n x hh, ht⟩
        exact hle.t n x ((tT ht).trans hh), hle.d⟩, rfl, rfl, rfl, rfl, rfl⟩
  have nO : ∀ {o}, (o ∈ to ∨ ob.length ≤ o) → G'.H o = G1.H o := fun {o} ho => if_neg (fun hu => by
    rcases ho with ho | ho
    · exact hu.2 ho
    · exact absurd hu.1 (by omega))
  have nN : ∀ {n}, (n ∈ tn ∨ nm.length ≤ n) → G'.T n = G1.T n := fun {n} ho => if_neg (fun hu => by
    rcases ho with ho | ho
    · exact hu.2 ho
    · exact absurd hu.1 (by omega))
  have notU : ∀ {o}, ¬ uO o → (o ∈ to ∨ ob.length ≤ o) := fun {o} hu => by
    by_cases ht : o ∈ to
    · exact .inl ht
    · exact .inr (Nat.le_of_not_lt fun hl => hu ⟨hl, ht⟩)
  have notUN : ∀ {n}, ¬ uN n → (n ∈ tn ∨ nm.length ≤ n) := fun {o} hu => by
    by_cases ht : o ∈ tn
    · exact .inl ht
    · exact .inr (Nat.le_of_not_lt fun hl => hu ⟨hl, ht⟩)
  have to' : ∀ {vs : List V} {cvs : List Value}, NamesIn (fun o => o ∈ to ∨ ob.length ≤ o) (fun n => n ∈ tn ∨ nm.length ≤ n) vs → Rels G1 vs cvs → Rels G' vs cvs := fun {vs cvs} hn hr => hr.byRefs (G := G1) (G' := G') (fun _ _ _ h => h) (fun _ _ h => h) (fun o ho b hb => (nO (hn.1 o ho)).trans hb) (fun n hn' x hx => (nN (hn.2 n hn')).trans hx)
  have gO : ∀ (o : Nat), (restO to 0 ob ob1)[o]? = if uO o then ob[o]? else ob1[o]? := fun o => by
    rw [restO_get to 0 ob ob1 hk o]
    simp only [Nat.zero_add]
    by_cases hu : uO o
    · rw [if_pos hu, if_pos ⟨hu.1, by simpa using hu.2⟩]
    · rw [if_neg hu, if_neg (fun hc => hu ⟨hc.1, by simpa using hc.2⟩)]
  have gN : ∀ (n : Nat), (restN tn 0 nm nm1)[n]? = if uN n then nm[n]? else nm1[n]? := fun n => by
    rw [restN_get tn 0 nm nm1 hkn n]
    simp only [Nat.zero_add]
    by_cases hu : uN n
    · rw [if_pos hu, if_pos ⟨hu.1, by simpa using hu.2⟩]
    · rw [if_neg hu, if_neg (fun hc => hu ⟨hc.1, by simpa using hc.2⟩)]
  -- the others' blocks are none of those that may turn
  have apO : ∀ {o b}, uO o → G.H o = some b → ¬ Gs.w0.own b := fun {o b} hu hb ho => by
    have hl := hw.hlt o b hb
    rcases ho with ho | ho
    · have : w.heap.size ≤ b := ho; omega
    · have ho : decide _ = true := ho
      rcases of_decide_eq_true ho with ⟨o', ht, ho'⟩ | ⟨n, x, c, _, hc, hx, rfl⟩ | ⟨q, hq⟩
      · exact hu.2 (hw.inj o o' b hb ho' ▸ ht)
      · exact (hw.hnm n c x hc hx).obj o hb
      · cases hcs : ob[o]'hl.1 with
        | none =>
          have := hw.habs o (by rw [List.getElem?_eq_getElem hl.1, hcs])
          rw [this] at hb; cases hb
        | some cs =>
          obtain ⟨_, ⟨cvs, E, fr, q2, _⟩, _⟩ := hw.hob o cs b (by rw [List.getElem?_eq_getElem hl.1, hcs]) hb
          exact hw.dne hq q2 rfl
  have apN : ∀ {n x c}, uN n → nm[n]? = some (some (.live c)) → G.T n = some x → ¬ Gs.w0.own x.b := fun {n x c} hu hc hx ho => by
    have B := hw.hnm n c x hc hx
    rcases ho with ho | ho
    · have : w.heap.size ≤ x.b := ho; have := B.lt; omega
    · have ho : decide _ = true := ho
      rcases of_decide_eq_true ho with ⟨o', ht, ho'⟩ | ⟨n', x', c', ht, hc', hx', e⟩ | ⟨q, hq⟩
      · exact B.obj o' ho'
      · by_cases en : n = n'
        · subst en; exact hu.2 ht
        · exact hw.nmd n n' c c' x x' en hc hc' hx hx' e.symm
      · obtain ⟨cvs, E, fr, e1, _⟩ := B.row
        exact hw.dne hq e1 rfl
  have liveO : ∀ {o b}, G1.H o = some b → Gs.w0.own b := fun {o b} hb => by
    have hl := (hw1.hlt o b hb).1
    cases hcs : ob1[o]'hl with
    | none =>
      have := hw1.habs o (by rw [List.getElem?_eq_getElem hl, hcs])
      rw [this] at hb; cases hb
    | some cs =>
      have := (hw1.hob o cs b (by rw [List.getElem?_eq_getElem hl, hcs]) hb).1
      rwa [hw0] at this
  have liveN : ∀ {n x c}, nm1[n]? = some (some (.live c)) → G1.T n = some x → Gs.w0.own x.b := fun {n x c} hc hx => by
    have := (hw1.hnm n c x hc hx).old
    rwa [hw0] at this
  have hH' : ∀ {o b}, G'.H o = some b → (uO o ∧ G.H o = some b) ∨ (¬ uO o ∧ G1.H o = some b) := fun {o b} hb => by
    have hb : (if uO o then G.H o else G1.H o) = some b := hb
    split at hb
    · rename_i hu; exact .inl ⟨hu, hb⟩
    · rename_i hu; exact .inr ⟨hu, hb⟩
  have hT' : ∀ {n x}, G'.T n = some x → (uN n ∧ G.T n = some x) ∨ (¬ uN n ∧ G1.T n = some x) := fun {n x} hb => by
    have hb : (if uN n then G.T n else G1.T n) = some x := hb
    split at hb
    · rename_i hu; exact .inl ⟨hu, hb⟩
    · rename_i hu; exact .inr ⟨hu, hb⟩
  refine ⟨cv, G', rfl, hle2, ?_, ?_⟩
  · have h1 : Rels G1 [v] [cv] := Rels.cons hvv (Rels.nil _)
    exact (to' hv h1).2 0 v cv rfl rfl
  · exact {
      m := hw1.m
      hob := fun o cs b h1 h2 => by
        rw [gO] at h1
        rcases hH' h2 with ⟨hu, hb⟩ | ⟨hu, hb⟩
        · rw [if_pos hu] at h1
          obtain ⟨q1, ⟨cvs, E, fr, q2, q3, q4, q5⟩, q6⟩ := hw.hob o cs b h1 hb
          have hn := apO hu hb
          exact ⟨q1, ⟨cvs, E, fr, (hfz b hn).trans q2, q3, q4, q5.mono hle2⟩, fun off => (hmo b off hn).trans (q6 off)⟩
        · rw [if_neg hu] at h1
          obtain ⟨q1, ⟨cvs, E, fr, q2, q3, q4, q5⟩, q6⟩ := hw1.hob o cs b h1 hb
          exact ⟨owned b (by rw [← hw0]; exact q1), ⟨cvs, E, fr, q2, q3, q4, to' (hout o (notU hu) cs h1) q5⟩, q6⟩
      hlt := fun o b h1 => by
        rw [restO_len to 0 ob ob1 hk]
        rcases hH' h1 with ⟨hu, hb⟩ | ⟨hu, hb⟩
        · exact ⟨Nat.lt_of_lt_of_le hu.1 hk, Nat.lt_of_lt_of_le (hw.hlt o b hb).2 hsz⟩
        · exact hw1.hlt o b hb
      habs := fun o h1 => by
        rw [gO] at h1
        show (if uO o then G.H o else G1.H o) = none
        split
        · rename_i hu; rw [if_pos hu] at h1; exact hw.habs o h1
        · rename_i hu; rw [if_neg hu] at h1; exact hw1.habs o h1
      inj := fun o o' b h1 h2 => by
        rcases hH' h1 with ⟨hu, hb⟩ | ⟨hu, hb⟩ <;> rcases hH' h2 with ⟨hu', hb'⟩ | ⟨hu', hb'⟩
        · exact hw.inj o o' b hb hb'
        · exact absurd (liveO hb') (apO hu hb)
        · exact absurd (liveO hb) (apO hu' hb')
        · exact hw1.inj o o' b hb hb'
      hnm := fun n c x h1 h2 => by
        rw [gN] at h1
        rcases hT' h2 with ⟨hu, hx⟩ | ⟨hu, hx⟩
        · rw [if_pos hu] at h1
          have B := hw.hnm n c x h1 hx
          have hn := apN hu h1 hx
          refine B.to (hfz _ hn) (fun _ _ h => h.mono hle2) (fun _ h => h) (fun off ho => (hmo _ off hn).trans ho) (fun o ho => ?_)
          rcases hH' ho with ⟨hu', hb⟩ | ⟨hu', hb⟩
          · exact B.obj o hb
          · exact hn (liveO hb)
        · rw [if_neg hu] at h1
          have B := hw1.hnm n c x h1 hx
          obtain ⟨cvs, E, fr, e1, e2, e3, e4⟩ := B.row
          have hel : NamesIn (fun o => o ∈ to ∨ ob.length ≤ o) (fun n => n ∈ tn ∨ nm.length ≤ n) (flat c.els) := by
            have hc := houtn n (notUN hu) c h1
            exact ⟨fun o ho => by
              obtain ⟨v, hv, ho⟩ := mem_refsL ho
              exact hc.1 o (refs_flat hv ho), fun n hn => by
              obtain ⟨v, hv, hn⟩ := mem_nrefsL hn
              exact hc.2 n (nrefs_flat hv hn)⟩
          refine ⟨owned _ (by rw [← hw0]; exact B.old), ⟨cvs, E, fr, e1, e2, e3, to' hel e4⟩, B.sz, B.el, B.len, B.cap, B.free, fun o ho => ?_⟩
          rcases hH' ho with ⟨hu', hb⟩ | ⟨hu', hb⟩
          · exact apO hu' hb (liveN h1 hx)
          · exact B.obj o hb
      hno := fun n c h1 h2 => by
        rw [gN] at h1
        have h2 : (if uN n then G.T n else G1.T n) = none := h2
        split at h2
        · rename_i hu; rw [if_pos hu] at h1; exact hw.hno n c h1 h2
        · rename_i hu; rw [if_neg hu] at h1; exact hw1.hno n c h1 h2
      nmd := fun n n' c c' x x' hne h1 h2 h3 h4 => by
        rw [gN] at h1 h2
        rcases hT' h3 with ⟨hu, hx⟩ | ⟨hu, hx⟩ <;> rcases hT' h4 with ⟨hu', hx'⟩ | ⟨hu', hx'⟩
        · rw [if_pos hu] at h1; rw [if_pos hu'] at h2; exact hw.nmd n n' c c' x x' hne h1 h2 hx hx'
        · rw [if_pos hu] at h1; rw [if_neg hu'] at h2
          exact fun e => apN hu h1 hx (e ▸ liveN h2 hx')
        · rw [if_neg hu] at h1; rw [if_pos hu'] at h2
          exact fun e => apN hu' h2 hx' (e ▸ liveN h1 hx)
        · rw [if_neg hu] at h1; rw [if_neg hu'] at h2; exact hw1.nmd n n' c c' x x' hne h1 h2 hx hx'
      tabs := fun n h1 => by
        rw [gN] at h1
        show (if uN n then G.T n else G1.T n) = none
        split
        · rename_i hu; rw [if_pos hu] at h1; exact hw.tabs n h1
        · rename_i hu; rw [if_neg hu] at h1; exact hw1.tabs n h1
      tlt := fun n x h1 => by
        rw [restN_len tn 0 nm nm1 hkn]
        rcases hT' h1 with ⟨hu, hx⟩ | ⟨hu, hx⟩
        · exact Nat.lt_of_lt_of_le hu.1 hkn
        · exact hw1.tlt n x hx
      dd := fun l o hl => ⟨(hw1.dd l o hl).1, (hw1.dd l o hl).2.1, owned l (by rw [← hw0]; exact (hw1.dd l o hl).2.2)⟩
      kdle := Nat.le_trans hw.kdle hsz
      gl := fun g v hg => VRel.mono' (G := G1.bare) (G' := G'.bare) ⟨fun _ _ _ h => h, (fun _ _ h => by cases h), (fun _ _ h => by cases h), (fun _ _ h => by cases h)⟩ (hw1.gl g v hg)
      mold := fun b off hb => (hmo b off (fun ho => hb (owned b ho))).trans (hw.mold b off hb)
      os := by have := hw1.os; rw [hw0] at this; exact this.trans hw.os
      tape := by have := hw1.tape; rw [hw0] at this; exact this.trans hw.tape
      output := by have := hw1.output; rw [hw0] at this; exact this.trans hw.output
      size := Nat.le_trans hw.size hsz
      block := fun k hk => (hfz k (fun ho => hk (owned k ho))).trans (hw.block k hk) }
end
end Go.Proofs.Ytnjjkobijjdnbaa
