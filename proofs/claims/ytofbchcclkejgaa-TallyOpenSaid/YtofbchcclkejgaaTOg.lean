/- Parts of the library of texts, one after the other: Ev23b, Ev24, Ev24b, Ev25, Ev26, Ev27, Ev29. -/
import Derived.Test.YtofbchcclkejgaaTOf
/- A call that is handed only some of the objects and buffers: the others stay as they are. -/
set_option linter.unusedVariables false
set_option linter.unusedSimpArgs false
namespace Go.Proofs.Ytofbchcclkejgaa
open Go
theorem refs_flat {o : Nat} {v : V} : ∀ {xs : List V}, v ∈ flat xs → o ∈ v.refs → o ∈ V.refsL xs
 | x :: xs, hv, ho => by
  rw [flat_cons, List.mem_append] at hv
  simp only [V.refsL, List.mem_append]
  rcases hv with hv | hv
  · refine .inl ?_
    cases x with
    | agg cs => simp only [V.refs]; exact refsL_mem (by simpa [V.cells] using hv) ho
    | _ => simp only [V.cells, List.mem_singleton] at hv; subst hv; exact ho
  · exact .inr (refs_flat hv ho)
theorem nrefs_flat {o : Nat} {v : V} : ∀ {xs : List V}, v ∈ flat xs → o ∈ v.nrefs → o ∈ V.nrefsL xs
 | x :: xs, hv, ho => by
  rw [flat_cons, List.mem_append] at hv
  simp only [V.nrefsL, List.mem_append]
  rcases hv with hv | hv
  · refine .inl ?_
    cases x with
    | agg cs => simp only [V.nrefs]; exact nrefsL_mem (by simpa [V.cells] using hv) ho
    | _ => simp only [V.cells, List.mem_singleton] at hv; subst hv; exact ho
  · exact .inr (nrefs_flat hv ho)
theorem mem_refsL {o : Nat} : ∀ {l : List V}, o ∈ V.refsL l → ∃ v ∈ l, o ∈ v.refs
 | x :: l, h => by
  simp only [V.refsL, List.mem_append] at h
  rcases h with h | h
  · exact ⟨x, List.mem_cons_self .., h⟩
  · obtain ⟨v, hv, ho⟩ := mem_refsL h
    exact ⟨v, List.mem_cons_of_mem _ hv, ho⟩
theorem mem_nrefsL {o : Nat} : ∀ {l : List V}, o ∈ V.nrefsL l → ∃ v ∈ l, o ∈ v.nrefs
 | x :: l, h => by
  simp only [V.nrefsL, List.mem_append] at h
  rcases h with h | h
  · exact ⟨x, List.mem_cons_self .., h⟩
  · obtain ⟨v, hv, ho⟩ := mem_nrefsL h
    exact ⟨v, List.mem_cons_of_mem _ hv, ho⟩
theorem refsL_append : ∀ (a b : List V), V.refsL (a ++ b) = V.refsL a ++ V.refsL b
 | [], b => rfl
 | x :: a, b => by simp only [List.cons_append, V.refsL, refsL_append a b, List.append_assoc]
theorem nrefsL_append : ∀ (a b : List V), V.nrefsL (a ++ b) = V.nrefsL a ++ V.nrefsL b
 | [], b => rfl
 | x :: a, b => by simp only [List.cons_append, V.nrefsL, nrefsL_append a b, List.append_assoc]
mutual
theorem Ty.val_refs : ∀ (t : Ty) (x : t.den), V.refs (t.val x) = [] ∧ V.nrefs (t.val x) = []
 | .bool, x => ⟨rfl, rfl⟩
 | .int k, n => ⟨rfl, rfl⟩
 | .str, s => ⟨rfl, rfl⟩
 | .agg fs, x => by simp only [Ty.val, V.refs, V.nrefs]; exact Ty.cellss_refs fs x
 | .slice e, l => ⟨rfl, rfl⟩
theorem Ty.cells_refs : ∀ (t : Ty) (x : t.den), V.refsL (t.cells x) = [] ∧ V.nrefsL (t.cells x) = []
 | .bool, x => ⟨rfl, rfl⟩
 | .int k, n => ⟨rfl, rfl⟩
 | .str, s => ⟨rfl, rfl⟩
 | .agg fs, x => Ty.cellss_refs fs x
 | .slice e, l => ⟨rfl, rfl⟩
theorem Ty.cellss_refs : ∀ (ts : List Ty) (x : Ty.dens ts), V.refsL (Ty.cellss ts x) = [] ∧ V.nrefsL (Ty.cellss ts x) = []
 | [], _ => ⟨rfl, rfl⟩
 | t :: ts, x => by
  simp only [Ty.cellss, refsL_append, nrefsL_append, (Ty.cells_refs t x.1).1, (Ty.cells_refs t x.1).2, (Ty.cellss_refs ts x.2).1, (Ty.cellss_refs ts x.2).2]
  exact ⟨rfl, rfl⟩
end
theorem map_refs (ty : Ty) : ∀ (l : List ty.den), V.refsL (l.map ty.val) = [] ∧ V.nrefsL (l.map ty.val) = []
 | [] => ⟨rfl, rfl⟩
 | x :: l => by
  simp only [List.map_cons, V.refsL, V.nrefsL, (Ty.val_refs ty x).1, (Ty.val_refs ty x).2, (map_refs ty l).1, (map_refs ty l).2]
  exact ⟨rfl, rfl⟩
theorem VRel.byRefs {G G' : Gh} (gm : ∀ b off cv, G.M b off = some cv → G'.M b off = some cv) (gd : ∀ l o, G.D l = some o → G'.D l = some o) {v : V} {cv : Value} (h : VRel G v cv) :
 (∀ o ∈ v.refs, ∀ b, G.H o = some b → G'.H o = some b) → (∀ n ∈ v.nrefs, ∀ x, G.T n = some x → G'.T n = some x) → VRel G' v cv := by
 induction h with
 | b x => intro _ _; exact .b x
 | i k n => intro _ _; exact .i k n
 | s x => intro _ _; exact .s x
 | sb x => intro _ _; exact .sb x
 | si k n => intro _ _; exact .si k n
 | ss x => intro _ _; exact .ss x
 | nil => intro _ _; exact .nil
 | ptr h => intro r _; exact .ptr (r _ (by simp [V.refs]) _ h)
 | pel hsz hl hm hv ih => intro r t; exact .pel hsz hl (fun j cv h => gm _ _ _ (hm j cv h)) (fun j v cv h1 h2 => ih j v cv h1 h2 (fun o ho => r o (by simp only [V.refs]; exact refs_flat (List.mem_of_getElem? h1) ho)) (fun o ho => t o (by simp only [V.nrefs]; exact nrefs_flat (List.mem_of_getElem? h1) ho)))
 | lst0 t p => intro _ _; exact .lst0 t p
 | lst1 p cap => intro _ _; exact .lst1 p cap
 | lst hsz hl hm hv hc ht ih => intro r t; exact .lst hsz hl (fun j cv h => gm _ _ _ (hm j cv h)) (fun j v cv h1 h2 => ih j v cv h1 h2 (fun o ho => r o (by simp only [V.refs]; exact refs_flat (List.mem_of_getElem? h1) ho)) (fun o ho => t o (by simp only [V.nrefs]; exact nrefs_flat (List.mem_of_getElem? h1) ho))) hc (ht.mono G')
 | sl h hc => intro r _; exact .sl (r _ (by simp [V.refs]) _ h) hc
 | fn ha hc h1 h2 i1 i2 =>
  intro r t
  exact .fn ha hc (fun j v cv g1 g2 => i1 j v cv g1 g2 (fun o ho => r o (by simp only [V.refs, List.mem_append]; exact .inl (refsL_mem (List.mem_of_getElem? g1) ho))) (fun o ho => t o (by simp only [V.nrefs, List.mem_append]; exact .inl (nrefsL_mem (List.mem_of_getElem? g1) ho))))
   (fun j v cv g1 g2 => i2 j v cv g1 g2 (fun o ho => r o (by simp only [V.refs, List.mem_append]; exact .inr (refsL_mem (List.mem_of_getElem? g1) ho))) (fun o ho => t o (by simp only [V.nrefs, List.mem_append]; exact .inr (nrefsL_mem (List.mem_of_getElem? g1) ho))))
 | nilfn => intro _ _; exact .nilfn
 | ifc h ih => intro r t; exact .ifc (ih (fun o ho => r o (by simpa [V.refs] using ho)) (fun o ho => t o (by simpa [V.nrefs] using ho)))
 | nilifc => intro _ _; exact .nilifc
 | agg hl h ih => intro r t; exact .agg hl (fun j v cv g1 g2 => ih j v cv g1 g2 (fun o ho => r o (by simp only [V.refs]; exact refsL_mem (List.mem_of_getElem? g1) ho)) (fun o ho => t o (by simp only [V.nrefs]; exact nrefsL_mem (List.mem_of_getElem? g1) ho)))
 | tup hl h ih => intro r t; exact .tup hl (fun j v cv g1 g2 => ih j v cv g1 g2 (fun o ho => r o (by simp only [V.refs]; exact refsL_mem (List.mem_of_getElem? g1) ho)) (fun o ho => t o (by simp only [V.nrefs]; exact nrefsL_mem (List.mem_of_getElem? g1) ho)))
 | any v => intro _ _; exact .any v
 | @slst t ty l cv h ih => intro _ _; exact .slst (ih (fun o ho => by simp only [V.refs, (map_refs ty l).1] at ho; cases ho) (fun o ho => by simp only [V.nrefs, (map_refs ty l).2] at ho; cases ho))
 | bs0 sy n off => intro _ _; exact .bs0 sy n off
 | bs1 sy n off a => intro _ _; exact .bs1 sy n off a
 | bs h hl => intro _ t; exact .bs (t _ (by simp [V.nrefs]) _ h) hl
 | bp h => intro _ t; exact .bp (t _ (by simp [V.nrefs]) _ h)
 | tp h hd => intro r _; exact .tp (r _ (by simp [V.refs]) _ h) (gd _ _ hd)
 | nls => intro _ _; exact .nls
 | els a c => intro _ _; exact .els a c
 | yl h hs hl ht ih => intro r t; exact .yl (gd _ _ h) hs hl (fun j v cv g1 g2 => ih j v cv g1 g2 (fun o ho => r o (by simp only [V.refs]; exact refsL_mem (List.mem_of_getElem? g1) ho)) (fun o ho => t o (by simp only [V.nrefs]; exact nrefsL_mem (List.mem_of_getElem? g1) ho)))
theorem Rels.byRefs {G G' : Gh} (gm : ∀ b off cv, G.M b off = some cv → G'.M b off = some cv) (gd : ∀ l o, G.D l = some o → G'.D l = some o) {vs : List V} {cvs : List Value} (h : Rels G vs cvs)
 (r : ∀ o ∈ V.refsL vs, ∀ b, G.H o = some b → G'.H o = some b) (t : ∀ n ∈ V.nrefsL vs, ∀ x, G.T n = some x → G'.T n = some x) : Rels G' vs cvs :=
 ⟨h.1, fun j v cv g1 g2 => (h.2 j v cv g1 g2).byRefs gm gd (fun o ho => r o (refsL_mem (List.mem_of_getElem? g1) ho)) (fun o ho => t o (nrefsL_mem (List.mem_of_getElem? g1) ho))⟩
def maskO (to : List Nat) : Nat → Ob → Ob
 | _, [] => []
 | i, none :: r => none :: maskO to (i + 1) r
 | i, some cs :: r => (match to.contains i with | true => some cs | false => some []) :: maskO to (i + 1) r
def maskN (tn : List Nat) : Nat → Nm → Nm
 | _, [] => []
 | i, none :: r => none :: maskN tn (i + 1) r
 | i, some b :: r => (match tn.contains i with | true => some b | false => some .dead) :: maskN tn (i + 1) r
def restO (to : List Nat) : Nat → Ob → Ob → Ob
 | _, [], ob1 => ob1
 | _, _ :: _, [] => []
 | i, c :: r, d :: r1 => (match to.contains i with | true => d | false => c) :: restO to (i + 1) r r1
def restN (tn : List Nat) : Nat → Nm → Nm → Nm
 | _, [], nm1 => nm1
 | _, _ :: _, [] => []
 | i, c :: r, d :: r1 => (match tn.contains i with | true => d | false => c) :: restN tn (i + 1) r r1
theorem maskO_get (to : List Nat) : ∀ (i : Nat) (ob : Ob) (j : Nat), (maskO to i ob)[j]? = (ob[j]?).map fun c => c.map fun cs => if to.contains (i + j) then cs else []
 | i, [], j => by simp [maskO]
 | i, none :: r, 0 => by simp [maskO]
 | i, none :: r, j + 1 => by
  simp only [maskO, List.getElem?_cons_succ, maskO_get to (i + 1) r j, show i + 1 + j = i + (j + 1) by omega]
 | i, some cs :: r, 0 => by
  simp only [maskO, List.getElem?_cons_zero, Option.map_some, Nat.add_zero]
  cases to.contains i <;> rfl
 | i, some cs :: r, j + 1 => by
  simp only [maskO, List.getElem?_cons_succ, maskO_get to (i + 1) r j, show i + 1 + j = i + (j + 1) by omega]
theorem maskN_get (tn : List Nat) : ∀ (i : Nat) (nm : Nm) (j : Nat), (maskN tn i nm)[j]? = (nm[j]?).map fun c => c.map fun b => if tn.contains (i + j) then b else .dead
 | i, [], j => by simp [maskN]
 | i, none :: r, 0 => by simp [maskN]
 | i, none :: r, j + 1 => by
  simp only [maskN, List.getElem?_cons_succ, maskN_get tn (i + 1) r j, show i + 1 + j = i + (j + 1) by omega]
 | i, some cs :: r, 0 => by
  simp only [maskN, List.getElem?_cons_zero, Option.map_some, Nat.add_zero]
  cases tn.contains i <;> rfl
 | i, some cs :: r, j + 1 => by
  simp only [maskN, List.getElem?_cons_succ, maskN_get tn (i + 1) r j, show i + 1 + j = i + (j + 1) by omega]
theorem maskO_len (to : List Nat) : ∀ (i : Nat) (ob : Ob), (maskO to i ob).length = ob.length
 | _, [] => rfl
 | i, none :: r => by simp [maskO, maskO_len to (i + 1) r]
 | i, some cs :: r => by simp [maskO, maskO_len to (i + 1) r]
theorem maskN_len (tn : List Nat) : ∀ (i : Nat) (nm : Nm), (maskN tn i nm).length = nm.length
 | _, [] => rfl
 | i, none :: r => by simp [maskN, maskN_len tn (i + 1) r]
 | i, some cs :: r => by simp [maskN, maskN_len tn (i + 1) r]
theorem restO_get (to : List Nat) : ∀ (i : Nat) (ob ob1 : Ob), ob.length ≤ ob1.length → ∀ j : Nat, (restO to i ob ob1)[j]? = if j < ob.length ∧ to.contains (i + j) = false then ob[j]? else ob1[j]?
 | i, [], ob1, _, j => by simp [restO]
 | i, c :: r, [], h, j => by simp at h
 | i, c :: r, d :: r1, h, 0 => by
  simp only [restO, List.getElem?_cons_zero, List.length_cons, Nat.add_zero]
  cases to.contains i <;> simp
 | i, c :: r, d :: r1, h, j + 1 => by
  simp only [restO, List.getElem?_cons_succ, List.length_cons]
  rw [restO_get to (i + 1) r r1 (by simpa using h) j, show i + 1 + j = i + (j + 1) by omega]
  simp
theorem restN_get (tn : List Nat) : ∀ (i : Nat) (nm nm1 : Nm), nm.length ≤ nm1.length → ∀ j : Nat, (restN tn i nm nm1)[j]? = if j < nm.length ∧ tn.contains (i + j) = false then nm[j]? else nm1[j]?
 | i, [], nm1, _, j => by simp [restN]
 | i, c :: r, [], h, j => by simp at h
 | i, c :: r, d :: r1, h, 0 => by
  simp only [restN, List.getElem?_cons_zero, List.length_cons, Nat.add_zero]
  cases tn.contains i <;> simp
 | i, c :: r, d :: r1, h, j + 1 => by
  simp only [restN, List.getElem?_cons_succ, List.length_cons]
  rw [restN_get tn (i + 1) r r1 (by simpa using h) j, show i + 1 + j = i + (j + 1) by omega]
  simp
theorem restO_len (to : List Nat) : ∀ (i : Nat) (ob ob1 : Ob), ob.length ≤ ob1.length → (restO to i ob ob1).length = ob1.length
 | _, [], ob1, _ => rfl
 | i, c :: r, [], h => by simp at h
 | i, c :: r, d :: r1, h => by simp [restO, restO_len to (i + 1) r r1 (by simpa using h)]
theorem restN_len (tn : List Nat) : ∀ (i : Nat) (nm nm1 : Nm), nm.length ≤ nm1.length → (restN tn i nm nm1).length = nm1.length
 | _, [], nm1, _ => rfl
 | i, c :: r, [], h => by simp at h
 | i, c :: r, d :: r1, h => by simp [restN, restN_len tn (i + 1) r r1 (by simpa using h)]
def NamesIn (po pn : Nat → Prop) (l : List V) : Prop := (∀ o ∈ V.refsL l, po o) ∧ ∀ n ∈ V.nrefsL l, pn n
section
variable {P : Program} {Γ : Nat → Option V}
open Classical in
theorem SemF.maskR {f : FuncId} {args : List V} {ob ob1 : Ob} {nm nm1 : Nm} {v : V} {to tn : List Nat}
 (h : ∀ (G : Gh) (w : World) (cargs : List Value), (∀ o, o ∉ to → G.H o = none) → (∀ n, n ∉ tn → G.T n = none) → WRel Γ G (maskO to 0 ob) (maskN tn 0 nm) w → Rels G args cargs →
  CallsX P f cargs.toArray w fun e w' => ∃ cv G', e = .returned cv ∧ G.le G' ∧ VRel G' v cv ∧ WRel Γ G' ob1 nm1 w')
 (ha : NamesIn (· ∈ to) (· ∈ tn) args) (hin : ∀ o ∈ to, ∀ cs, ob[o]? = some (some cs) → NamesIn (· ∈ to) (· ∈ tn) cs) (hinn : ∀ n ∈ tn, ∀ c, nm[n]? = some (some (.live c)) → NamesIn (· ∈ to) (· ∈ tn) c.els)
 (hk : ob.length ≤ ob1.length) (hkn : nm.length ≤ nm1.length)
 (hv : NamesIn (fun o => o ∈ to ∨ ob.length ≤ o) (fun n => n ∈ tn ∨ nm.length ≤ n) [v])
 (hout : ∀ o, (o ∈ to ∨ ob.length ≤ o) → ∀ cs, ob1[o]? = some (some cs) → NamesIn (fun o => o ∈ to ∨ ob.length ≤ o) (fun n => n ∈ tn ∨ nm.length ≤ n) cs)
 (houtn : ∀ n, (n ∈ tn ∨ nm.length ≤ n) → ∀ c, nm1[n]? = some (some (.live c)) → NamesIn (fun o => o ∈ to ∨ ob.length ≤ o) (fun n => n ∈ tn ∨ nm.length ≤ n) c.els) :
 SemF P Γ f args ob nm v (restO to 0 ob ob1) (restN tn 0 nm nm1) := by
 intro G w cargs hw hr
 let S : Nat → Bool := fun b => decide ((∃ o, o ∈ to ∧ G.H o = some b) ∨ (∃ n x c, n ∈ tn ∧ nm[n]? = some (some (.live c)) ∧ G.T n = some x ∧ x.b = b) ∨ ∃ o, G.D b = some o ∧ o.isCells = false)
 let Gs : Gh := { M := G.M, H := fun o => if o ∈ to then G.H o else none, T := fun n => if n ∈ tn then G.T n else none, D := G.D, kh := G.kh, kt := G.kt, w0 := { w with S := S }, M0 := G.M, kd := G.kd }
 have sH : ∀ {o b}, Gs.H o = some b → o ∈ to ∧ G.H o = some b := fun {o b} hh => by
  have hh : (if o ∈ to then G.H o else none) = some b := hh
  split at hh
  · rename_i ht; exact ⟨ht, hh⟩
  · cases hh
 have sT : ∀ {n x}, Gs.T n = some x → n ∈ tn ∧ G.T n = some x := fun {n x} hh => by
  have hh : (if n ∈ tn then G.T n else none) = some x := hh
  split at hh
  · rename_i ht; exact ⟨ht, hh⟩
  · cases hh
 have tH : ∀ {o}, o ∈ to → Gs.H o = G.H o := fun {o} ht => if_pos ht
 have tT : ∀ {n}, n ∈ tn → Gs.T n = G.T n := fun {n} ht => if_pos ht
 have mO : ∀ {o cs}, (maskO to 0 ob)[o]? = some (some cs) → o ∈ to → ob[o]? = some (some cs) := fun {o cs} hh ht => by
  rw [maskO_get] at hh
  cases hob : ob[o]? with
  | none => rw [hob] at hh; cases hh
  | some c =>
   cases c with
   | none => rw [hob] at hh; cases hh
   | some d =>
    rw [hob] at hh
    simp only [Option.map_some, Nat.zero_add, Option.some.injEq] at hh
    rw [if_pos (by simpa using ht)] at hh
    rw [hh]
 have mN : ∀ {n c}, (maskN tn 0 nm)[n]? = some (some (Bf.live c)) → n ∈ tn ∧ nm[n]? = some (some (.live c)) := fun {n c} hh => by
  rw [maskN_get] at hh
  cases hob : nm[n]? with
  | none => rw [hob] at hh; cases hh
  | some c' =>
   cases c' with
   | none => rw [hob] at hh; cases hh
   | some d =>
    rw [hob] at hh
    simp only [Option.map_some, Nat.zero_add, Option.some.injEq] at hh
    split at hh
    · rename_i ht; exact ⟨by simpa using ht, by rw [hh]⟩
    · cases hh
 have owned : ∀ b, Gs.w0.own b → G.w0.own b := fun b hb => by
  rcases hb with hb | hb
  · exact .inl (Nat.le_trans hw.size hb)
  · have hb : decide _ = true := hb
    rcases of_decide_eq_true hb with ⟨o, _, ho⟩ | ⟨n, x, c, _, hc, hx, rfl⟩ | ⟨o, ho, hoc⟩
    · have hl := (hw.hlt o b ho).1
      cases hc : ob[o]'hl with
      | none =>
       have := hw.habs o (by rw [List.getElem?_eq_getElem hl, hc])
       rw [this] at ho; cases ho
      | some cs => exact (hw.hob o cs b (by rw [List.getElem?_eq_getElem hl, hc]) ho).1
    · exact (hw.hnm n c x hc hx).old
    · exact (hw.dd b o ho).2 hoc
 have ownO : ∀ {o b}, o ∈ to → G.H o = some b → Gs.w0.own b := fun {o b} ht hb => .inr (decide_eq_true (.inl ⟨o, ht, hb⟩))
 have ownN : ∀ {n x c}, n ∈ tn → nm[n]? = some (some (.live c)) → G.T n = some x → Gs.w0.own x.b := fun {n x c} ht hc hx => .inr (decide_eq_true (.inr (.inl ⟨n, x, c, ht, hc, hx, rfl⟩)))
 have ownD : ∀ {l o}, G.D l = some o → o.isCells = false → Gs.w0.own l := fun {l o} ho hoc => .inr (decide_eq_true (.inr (.inr ⟨o, ho, hoc⟩)))
 have gm : ∀ b off cv, G.M b off = some cv → Gs.M b off = some cv := fun _ _ _ h => h
 have gd : ∀ l o, G.D l = some o → Gs.D l = some o := fun _ _ h => h
 have toS : ∀ {vs : List V} {cvs : List Value}, NamesIn (· ∈ to) (· ∈ tn) vs → Rels G vs cvs → Rels Gs vs cvs := fun {vs cvs} hn hr => hr.byRefs gm gd (fun o ho b hb => (tH (hn.1 o ho)).trans hb) (fun n hn' x hx => (tT (hn.2 n hn')).trans hx)
 have elsIn : ∀ {c : BC}, NamesIn (· ∈ to) (· ∈ tn) c.els → NamesIn (· ∈ to) (· ∈ tn) (flat c.els) := fun {c} hc => ⟨fun o ho => by
  obtain ⟨v, hv, ho⟩ := mem_refsL ho
  exact hc.1 o (refs_flat hv ho), fun n hn => by
  obtain ⟨v, hv, hn⟩ := mem_nrefsL hn
  exact hc.2 n (nrefs_flat hv hn)⟩
 have hws : WRel Γ Gs (maskO to 0 ob) (maskN tn 0 nm) w := {
  m := hw.m
  hob := fun o cs b h1 h2 => by
   obtain ⟨ht, hb⟩ := sH h2
   have ho := mO h1 ht
   obtain ⟨q1, ⟨cvs, E, fr, q2, q3, q4, q5⟩, q6⟩ := hw.hob o cs b ho hb
   exact ⟨ownO ht hb, ⟨cvs, E, fr, q2, q3, q4, toS (hin o ht cs ho) q5⟩, q6⟩
  hlt := fun o b h1 => by rw [maskO_len]; exact hw.hlt o b (sH h1).2
  habs := fun o h1 => by
   have h0 : G.H o = none := hw.habs o (by
    rw [maskO_get] at h1
    cases hob : ob[o]? with
    | none => rw [hob] at h1; cases h1
    | some c => cases c with | none => rfl | some d => rw [hob] at h1; simp at h1)
   show (if o ∈ to then G.H o else none) = none
   split
   · exact h0
   · rfl
  inj := fun o o' b h1 h2 => hw.inj o o' b (sH h1).2 (sH h2).2
  hnm := fun n c x h1 h2 => by
   obtain ⟨ht, hc⟩ := mN h1
   obtain ⟨_, hx⟩ := sT h2
   have B := hw.hnm n c x hc hx
   obtain ⟨cvs, E, fr, e1, e2, e3, e4⟩ := B.row
   exact ⟨ownN ht hc hx, ⟨cvs, E, fr, e1, e2, e3, toS (elsIn (hinn n ht c hc)) e4⟩, B.sz, B.el, B.len, B.cap, B.free, fun o ho => B.obj o (sH ho).2, B.u8⟩
  hno := fun n c h1 h2 => by
   obtain ⟨ht, hc⟩ := mN h1
   exact hw.hno n c hc ((tT ht).symm.trans h2)
  nmd := fun n n' c c' x x' hne h1 h2 h3 h4 => hw.nmd n n' c c' x x' hne (mN h1).2 (mN h2).2 (sT h3).2 (sT h4).2
  tabs := fun n h1 => by
   have h0 : G.T n = none := hw.tabs n (by
    rw [maskN_get] at h1
    cases hob : nm[n]? with
    | none => rw [hob] at h1; cases h1
    | some c => cases c with | none => rfl | some d => rw [hob] at h1; simp at h1)
   show (if n ∈ tn then G.T n else none) = none
   split
   · exact h0
   · rfl
  tlt := fun n x h1 => by rw [maskN_len]; exact hw.tlt n x (sT h1).2
  dd := fun l o hl => ⟨(hw.dd l o hl).1, fun hc => ownD hl hc⟩
  kdle := hw.kdle
  gl := fun g v hg => VRel.mono' (G := G.bare) (G' := Gs.bare) ⟨fun _ _ _ h => h, (fun _ _ h => by cases h), (fun _ _ h => by cases h), (fun _ _ h => by cases h)⟩ (hw.gl g v hg)
  mold := fun b off _ => rfl
  os := rfl
  tape := rfl
  output := rfl
  size := Nat.le_refl _
  block := fun k _ => rfl }
 refine (h Gs w cargs (fun o ho => if_neg ho) (fun n hn => if_neg hn) hws (toS ha hr)).mono ?_
 rintro e w' ⟨cv, G1, rfl, hle, hvv, hw1⟩
 have hw0 : G1.w0 = Gs.w0 := hle.w0
 have hm0 : G1.M0 = G.M := hle.m0
 have hfz : ∀ k, ¬ Gs.w0.own k → w'.heap[k]? = w.heap[k]? := fun k hk => by
  have := hw1.block k (by rw [hw0]; exact hk)
  rwa [hw0] at this
 have hmo : ∀ b off, ¬ Gs.w0.own b → G1.M b off = G.M b off := fun b off hb => by
  have := hw1.mold b off (by rw [hw0]; exact hb)
  rwa [hm0] at this
 have hsz : w.heap.size ≤ w'.heap.size := by have := hw1.size; rwa [hw0] at this
 let uO : Nat → Prop := fun o => o < ob.length ∧ o ∉ to
 let uN : Nat → Prop := fun n => n < nm.length ∧ n ∉ tn
 let G' : Gh := { M := G1.M, H := fun o => if uO o then G.H o else G1.H o, T := fun n => if uN n then G.T n else G1.T n, D := G1.D, kh := G.kh, kt := G.kt, w0 := G.w0, M0 := G.M0, kd := G.kd }
 have hle2 : G.le G' := ⟨⟨hle.m, fun o b hh => by
  show (if uO o then G.H o else G1.H o) = some b
  split
  · exact hh
  · rename_i hu
    have ht : o ∈ to := Classical.byContradiction fun ht => hu ⟨(hw.hlt o b hh).1, ht⟩
    exact hle.h o b ((tH ht).trans hh), fun n x hh => by
  show (if uN n then G.T n else G1.T n) = some x
  split
  · exact hh
  · rename_i hu
    have ht : n ∈ tn := Classical.byContradiction fun ht => hu ⟨hw.tlt n x hh, ht⟩
    exact hle.t n x ((tT ht).trans hh), hle.d⟩, rfl, rfl, rfl, rfl, rfl⟩
 have nO : ∀ {o}, (o ∈ to ∨ ob.length ≤ o) → G'.H o = G1.H o := fun {o} ho => if_neg (fun hu => by
  rcases ho with ho | ho
  · exact hu.2 ho
  · exact absurd hu.1 (by omega))
 have nN : ∀ {n}, (n ∈ tn ∨ nm.length ≤ n) → G'.T n = G1.T n := fun {n} ho => if_neg (fun hu => by
  rcases ho with ho | ho
  · exact hu.2 ho
  · exact absurd hu.1 (by omega))
 have notU : ∀ {o}, ¬ uO o → (o ∈ to ∨ ob.length ≤ o) := fun {o} hu => by
  by_cases ht : o ∈ to
  · exact .inl ht
  · exact .inr (Nat.le_of_not_lt fun hl => hu ⟨hl, ht⟩)
 have notUN : ∀ {n}, ¬ uN n → (n ∈ tn ∨ nm.length ≤ n) := fun {o} hu => by
  by_cases ht : o ∈ tn
  · exact .inl ht
  · exact .inr (Nat.le_of_not_lt fun hl => hu ⟨hl, ht⟩)
 have to' : ∀ {vs : List V} {cvs : List Value}, NamesIn (fun o => o ∈ to ∨ ob.length ≤ o) (fun n => n ∈ tn ∨ nm.length ≤ n) vs → Rels G1 vs cvs → Rels G' vs cvs := fun {vs cvs} hn hr => hr.byRefs (G := G1) (G' := G') (fun _ _ _ h => h) (fun _ _ h => h) (fun o ho b hb => (nO (hn.1 o ho)).trans hb) (fun n hn' x hx => (nN (hn.2 n hn')).trans hx)
 have gO : ∀ (o : Nat), (restO to 0 ob ob1)[o]? = if uO o then ob[o]? else ob1[o]? := fun o => by
  rw [restO_get to 0 ob ob1 hk o]
  simp only [Nat.zero_add]
  by_cases hu : uO o
  · rw [if_pos hu, if_pos ⟨hu.1, by simpa using hu.2⟩]
  · rw [if_neg hu, if_neg (fun hc => hu ⟨hc.1, by simpa using hc.2⟩)]
 have gN : ∀ (n : Nat), (restN tn 0 nm nm1)[n]? = if uN n then nm[n]? else nm1[n]? := fun n => by
  rw [restN_get tn 0 nm nm1 hkn n]
  simp only [Nat.zero_add]
  by_cases hu : uN n
  · rw [if_pos hu, if_pos ⟨hu.1, by simpa using hu.2⟩]
  · rw [if_neg hu, if_neg (fun hc => hu ⟨hc.1, by simpa using hc.2⟩)]
 -- the others' blocks are none of those that may turn
 have apO : ∀ {o b}, uO o → G.H o = some b → ¬ Gs.w0.own b := fun {o b} hu hb ho => by
  have hl := hw.hlt o b hb
  rcases ho with ho | ho
  · have : w.heap.size ≤ b := ho; omega
  · have ho : decide _ = true := ho
    rcases of_decide_eq_true ho with ⟨o', ht, ho'⟩ | ⟨n, x, c, _, hc, hx, rfl⟩ | ⟨q, hq, hqc⟩
    · exact hu.2 (hw.inj o o' b hb ho' ▸ ht)
    · exact (hw.hnm n c x hc hx).obj o hb
    · cases hcs : ob[o]'hl.1 with
      | none =>
       have := hw.habs o (by rw [List.getElem?_eq_getElem hl.1, hcs])
       rw [this] at hb; cases hb
      | some cs =>
       obtain ⟨_, ⟨cvs, E, fr, q2, _⟩, _⟩ := hw.hob o cs b (by rw [List.getElem?_eq_getElem hl.1, hcs]) hb
       exact hw.dne hq q2 hqc rfl
 have apN : ∀ {n x c}, uN n → nm[n]? = some (some (.live c)) → G.T n = some x → ¬ Gs.w0.own x.b := fun {n x c} hu hc hx ho => by
  have B := hw.hnm n c x hc hx
  rcases ho with ho | ho
  · have : w.heap.size ≤ x.b := ho; have := B.lt; omega
  · have ho : decide _ = true := ho
    rcases of_decide_eq_true ho with ⟨o', ht, ho'⟩ | ⟨n', x', c', ht, hc', hx', e⟩ | ⟨q, hq, hqc⟩
    · exact B.obj o' ho'
    · by_cases en : n = n'
      · subst en; exact hu.2 ht
      · exact hw.nmd n n' c c' x x' en hc hc' hx hx' e.symm
    · obtain ⟨cvs, E, fr, e1, _⟩ := B.row
      exact hw.dne hq e1 hqc rfl
 have liveO : ∀ {o b}, G1.H o = some b → Gs.w0.own b := fun {o b} hb => by
  have hl := (hw1.hlt o b hb).1
  cases hcs : ob1[o]'hl with
  | none =>
   have := hw1.habs o (by rw [List.getElem?_eq_getElem hl, hcs])
   rw [this] at hb; cases hb
  | some cs =>
   have := (hw1.hob o cs b (by rw [List.getElem?_eq_getElem hl, hcs]) hb).1
   rwa [hw0] at this
 have liveN : ∀ {n x c}, nm1[n]? = some (some (.live c)) → G1.T n = some x → Gs.w0.own x.b := fun {n x c} hc hx => by
  have := (hw1.hnm n c x hc hx).old
  rwa [hw0] at this
 have hH' : ∀ {o b}, G'.H o = some b → (uO o ∧ G.H o = some b) ∨ (¬ uO o ∧ G1.H o = some b) := fun {o b} hb => by
  have hb : (if uO o then G.H o else G1.H o) = some b := hb
  split at hb
  · rename_i hu; exact .inl ⟨hu, hb⟩
  · rename_i hu; exact .inr ⟨hu, hb⟩
 have hT' : ∀ {n x}, G'.T n = some x → (uN n ∧ G.T n = some x) ∨ (¬ uN n ∧ G1.T n = some x) := fun {n x} hb => by
  have hb : (if uN n then G.T n else G1.T n) = some x := hb
  split at hb
  · rename_i hu; exact .inl ⟨hu, hb⟩
  · rename_i hu; exact .inr ⟨hu, hb⟩
 refine ⟨cv, G', rfl, hle2, ?_, ?_⟩
 · have h1 : Rels G1 [v] [cv] := Rels.cons hvv (Rels.nil _)
   exact (to' hv h1).2 0 v cv rfl rfl
 · exact {
    m := hw1.m
    hob := fun o cs b h1 h2 => by
     rw [gO] at h1
     rcases hH' h2 with ⟨hu, hb⟩ | ⟨hu, hb⟩
     · rw [if_pos hu] at h1
       obtain ⟨q1, ⟨cvs, E, fr, q2, q3, q4, q5⟩, q6⟩ := hw.hob o cs b h1 hb
       have hn := apO hu hb
       exact ⟨q1, ⟨cvs, E, fr, (hfz b hn).trans q2, q3, q4, q5.mono hle2⟩, fun off => (hmo b off hn).trans (q6 off)⟩
     · rw [if_neg hu] at h1
       obtain ⟨q1, ⟨cvs, E, fr, q2, q3, q4, q5⟩, q6⟩ := hw1.hob o cs b h1 hb
       exact ⟨owned b (by rw [← hw0]; exact q1), ⟨cvs, E, fr, q2, q3, q4, to' (hout o (notU hu) cs h1) q5⟩, q6⟩
    hlt := fun o b h1 => by
     rw [restO_len to 0 ob ob1 hk]
     rcases hH' h1 with ⟨hu, hb⟩ | ⟨hu, hb⟩
     · exact ⟨Nat.lt_of_lt_of_le hu.1 hk, Nat.lt_of_lt_of_le (hw.hlt o b hb).2 hsz⟩
     · exact hw1.hlt o b hb
    habs := fun o h1 => by
     rw [gO] at h1
     show (if uO o then G.H o else G1.H o) = none
     split
     · rename_i hu; rw [if_pos hu] at h1; exact hw.habs o h1
     · rename_i hu; rw [if_neg hu] at h1; exact hw1.habs o h1
    inj := fun o o' b h1 h2 => by
     rcases hH' h1 with ⟨hu, hb⟩ | ⟨hu, hb⟩ <;> rcases hH' h2 with ⟨hu', hb'⟩ | ⟨hu', hb'⟩
     · exact hw.inj o o' b hb hb'
     · exact absurd (liveO hb') (apO hu hb)
     · exact absurd (liveO hb) (apO hu' hb')
     · exact hw1.inj o o' b hb hb'
    hnm := fun n c x h1 h2 => by
     rw [gN] at h1
     rcases hT' h2 with ⟨hu, hx⟩ | ⟨hu, hx⟩
     · rw [if_pos hu] at h1
       have B := hw.hnm n c x h1 hx
       have hn := apN hu h1 hx
       refine B.to (hfz _ hn) (fun _ _ h => h.mono hle2) (fun _ h => h) (fun off ho => (hmo _ off hn).trans ho) (fun o ho => ?_)
       rcases hH' ho with ⟨hu', hb⟩ | ⟨hu', hb⟩
       · exact B.obj o hb
       · exact hn (liveO hb)
     · rw [if_neg hu] at h1
       have B := hw1.hnm n c x h1 hx
       obtain ⟨cvs, E, fr, e1, e2, e3, e4⟩ := B.row
       have hel : NamesIn (fun o => o ∈ to ∨ ob.length ≤ o) (fun n => n ∈ tn ∨ nm.length ≤ n) (flat c.els) := by
        have hc := houtn n (notUN hu) c h1
        exact ⟨fun o ho => by
         obtain ⟨v, hv, ho⟩ := mem_refsL ho
         exact hc.1 o (refs_flat hv ho), fun n hn => by
         obtain ⟨v, hv, hn⟩ := mem_nrefsL hn
         exact hc.2 n (nrefs_flat hv hn)⟩
       refine ⟨owned _ (by rw [← hw0]; exact B.old), ⟨cvs, E, fr, e1, e2, e3, to' hel e4⟩, B.sz, B.el, B.len, B.cap, B.free, fun o ho => ?_, B.u8⟩
       rcases hH' ho with ⟨hu', hb⟩ | ⟨hu', hb⟩
       · exact apO hu' hb (liveN h1 hx)
       · exact B.obj o hb
    hno := fun n c h1 h2 => by
     rw [gN] at h1
     have h2 : (if uN n then G.T n else G1.T n) = none := h2
     split at h2
     · rename_i hu; rw [if_pos hu] at h1; exact hw.hno n c h1 h2
     · rename_i hu; rw [if_neg hu] at h1; exact hw1.hno n c h1 h2
    nmd := fun n n' c c' x x' hne h1 h2 h3 h4 => by
     rw [gN] at h1 h2
     rcases hT' h3 with ⟨hu, hx⟩ | ⟨hu, hx⟩ <;> rcases hT' h4 with ⟨hu', hx'⟩ | ⟨hu', hx'⟩
     · rw [if_pos hu] at h1; rw [if_pos hu'] at h2; exact hw.nmd n n' c c' x x' hne h1 h2 hx hx'
     · rw [if_pos hu] at h1; rw [if_neg hu'] at h2
       exact fun e => apN hu h1 hx (e ▸ liveN h2 hx')
     · rw [if_neg hu] at h1; rw [if_pos hu'] at h2
       exact fun e => apN hu' h2 hx' (e ▸ liveN h1 hx)
     · rw [if_neg hu] at h1; rw [if_neg hu'] at h2; exact hw1.nmd n n' c c' x x' hne h1 h2 hx hx'
    tabs := fun n h1 => by
     rw [gN] at h1
     show (if uN n then G.T n else G1.T n) = none
     split
     · rename_i hu; rw [if_pos hu] at h1; exact hw.tabs n h1
     · rename_i hu; rw [if_neg hu] at h1; exact hw1.tabs n h1
    tlt := fun n x h1 => by
     rw [restN_len tn 0 nm nm1 hkn]
     rcases hT' h1 with ⟨hu, hx⟩ | ⟨hu, hx⟩
     · exact Nat.lt_of_lt_of_le hu.1 hkn
     · exact hw1.tlt n x hx
    dd := fun l o hl => ⟨(hw1.dd l o hl).1, fun hc => owned l (by rw [← hw0]; exact (hw1.dd l o hl).2 hc)⟩
    kdle := Nat.le_trans hw.kdle hsz
    gl := fun g v hg => VRel.mono' (G := G1.bare) (G' := G'.bare) ⟨fun _ _ _ h => h, (fun _ _ h => by cases h), (fun _ _ h => by cases h), (fun _ _ h => by cases h)⟩ (hw1.gl g v hg)
    mold := fun b off hb => (hmo b off (fun ho => hb (owned b ho))).trans (hw.mold b off hb)
    os := by have := hw1.os; rw [hw0] at this; exact this.trans hw.os
    tape := by have := hw1.tape; rw [hw0] at this; exact this.trans hw.tape
    output := by have := hw1.output; rw [hw0] at this; exact this.trans hw.output
    size := Nat.le_trans hw.size hsz
    block := fun k hk => (hfz k (fun ho => hk (owned k ho))).trans (hw.block k hk) }
theorem SemF.mask {f : FuncId} {args : List V} {ob ob1 : Ob} {nm nm1 : Nm} {v : V} {to tn : List Nat} (h : SemF P Γ f args (maskO to 0 ob) (maskN tn 0 nm) v ob1 nm1)
 (ha : NamesIn (· ∈ to) (· ∈ tn) args) (hin : ∀ o ∈ to, ∀ cs, ob[o]? = some (some cs) → NamesIn (· ∈ to) (· ∈ tn) cs) (hinn : ∀ n ∈ tn, ∀ c, nm[n]? = some (some (.live c)) → NamesIn (· ∈ to) (· ∈ tn) c.els)
 (hk : ob.length ≤ ob1.length) (hkn : nm.length ≤ nm1.length)
 (hv : NamesIn (fun o => o ∈ to ∨ ob.length ≤ o) (fun n => n ∈ tn ∨ nm.length ≤ n) [v])
 (hout : ∀ o, (o ∈ to ∨ ob.length ≤ o) → ∀ cs, ob1[o]? = some (some cs) → NamesIn (fun o => o ∈ to ∨ ob.length ≤ o) (fun n => n ∈ tn ∨ nm.length ≤ n) cs)
 (houtn : ∀ n, (n ∈ tn ∨ nm.length ≤ n) → ∀ c, nm1[n]? = some (some (.live c)) → NamesIn (fun o => o ∈ to ∨ ob.length ≤ o) (fun n => n ∈ tn ∨ nm.length ≤ n) c.els) :
 SemF P Γ f args ob nm v (restO to 0 ob ob1) (restN tn 0 nm nm1) := SemF.maskR (fun G w cargs _ _ hw hr => h G w cargs hw hr) ha hin hinn hk hkn hv hout houtn
end
end Go.Proofs.Ytofbchcclkejgaa

/- A round's end under names that follow from what is kept; loops by induction; buffers born at a loop's head. -/
set_option linter.unusedVariables false
set_option linter.unusedSimpArgs false
namespace Go.Proofs.Ytofbchcclkejgaa
open Go
def addNew : List Nat → List Nat → List Nat
 | l, [] => l
 | l, x :: xs => match l.contains x with | true => addNew l xs | false => addNew (l ++ [x]) xs
def obRefs (ob : Ob) : List Nat → List Nat
 | [] => []
 | o :: r => (match ob[o]? with | some (some cs) => V.refsL cs | _ => []) ++ obRefs ob r
def obNrefs (ob : Ob) : List Nat → List Nat
 | [] => []
 | o :: r => (match ob[o]? with | some (some cs) => V.nrefsL cs | _ => []) ++ obNrefs ob r
def nmNrefs (nm : Nm) : List Nat → List Nat
 | [] => []
 | n :: r => (match nm[n]? with | some (some (.live (.cs _ l))) => V.nrefsL l | _ => []) ++ nmNrefs nm r
def nmRefs (nm : Nm) : List Nat → List Nat
 | [] => []
 | n :: r => (match nm[n]? with | some (some (.live (.cs _ l))) => V.refsL l | _ => []) ++ nmRefs nm r
def St.names (y : St) : Nat → List Nat → List Nat → List Nat × List Nat
 | 0, po, pn => (po, pn)
 | k + 1, po, pn => St.names y k (addNew (addNew po (obRefs y.ob po)) (nmRefs y.nm pn)) (addNew (addNew pn (obNrefs y.ob po)) (nmNrefs y.nm pn))
def St.autoN (y : St) (lv : List Nat) : List Nat × List Nat := y.names 3 (addNew (List.range y.kh) (V.refsL (y.kept lv))) (addNew (List.range y.kt) (V.nrefsL (y.kept lv)))
def outa (lv : Ex → List Nat) (t : Tr (Ex × St)) : Tr (Ex × List V × Ob × Nm × Nat × Nat × Nat) :=
 t.bind fun p => match p.2.ren (p.2.autoN (lv p.1)).1 (p.2.autoN (lv p.1)).2 (lv p.1) with | some r => .leaf (some (p.1, r.1, r.2.1, r.2.2, p.2.tm.length, p.2.kh, p.2.kt)) | none => .leaf none
section
variable {P : Program} {Γ : Nat → Option V} {cf : CallF}
theorem outa_run {t : Tr (Ex × St)} {lv : Ex → List Nat} {e : Ex} {vs : List V} {ob : Ob} {nm : Nm} {n kh kt : Nat} (h : (outa lv t).run = some (e, vs, ob, nm, n, kh, kt)) : ∃ s po pn, t.run = some (e, s) ∧ s.ren po pn (lv e) = some (vs, ob, nm) ∧ s.tm.length = n ∧ s.kh = kh ∧ s.kt = kt := by
 unfold outa at h
 rw [Tr.run_bind] at h
 cases ht : t.run with
 | none => rw [ht] at h; cases h
 | some p =>
  rw [ht] at h
  obtain ⟨e', s⟩ := p
  simp only [Option.bind_some] at h
  split at h
  · rename_i r hl
    simp only [Tr.run, Option.some.injEq, Prod.mk.injEq] at h
    obtain ⟨rfl, rfl, rfl, rfl, rfl, rfl, rfl⟩ := h
    exact ⟨s, _, _, rfl, hl, rfl, rfl, rfl⟩
  · cases h
theorem SemL.ind {A : Type} {b : Code} (emb : A → St) (m : A → Nat) (out : A → Ex × St) (Inv : A → Prop)
 (h : ∀ a, Inv a → (∃ a', SemC P Γ b (emb a) .normal (emb a') ∧ Inv a' ∧ m a' < m a ∧ out a' = out a) ∨ ((out a).1.to ≠ .normal ∧ SemC P Γ b (emb a) (out a).1.to (out a).2)) :
 ∀ a, Inv a → SemL P Γ b (emb a) (out a).1.to (out a).2 := by
 have key : ∀ (k : Nat) a, m a ≤ k → Inv a → SemL P Γ b (emb a) (out a).1.to (out a).2 := by
  intro k
  induction k with
  | zero =>
   intro a hm hi
   rcases h a hi with ⟨a', h1, h2, h3, h4⟩ | ⟨h1, h2⟩
   · omega
   · exact SemL.out h1 h2
  | succ k ih =>
   intro a hm hi
   rcases h a hi with ⟨a', h1, h2, h3, h4⟩ | ⟨h1, h2⟩
   · have := ih a' (by omega) h2
     rw [h4] at this
     exact SemL.next h1 this
   · exact SemL.out h1 h2
 exact fun a hi => key _ a (Nat.le_refl _) hi
theorem St.birth {kh kt n : Nat} {lv : List Nat} {vs : List V} {ob : Ob} {nm : Nm} (k : Nat) {vs' : List V} (hv : vs' = vs.set k (.bs true nm.length 0 0)) (hk : vs[k]? = some (.lst .full [])) {c : BC} (hc : c.len = 0) (hlv : nodupB lv = true) (hlen : vs.length = lv.length) :
 St.imp Γ (St.of n lv vs ob nm kh kt) (St.of n lv vs' ob (nm ++ [some (.live c)]) kh kt) := by
 intro G a w hr
 subst hv
 refine ⟨?_, ?_, hr.df, hr.kh, hr.kt⟩
 · have hset : ∀ (lv : List Nat) (vs : List V) (l : List V) (k : Nat) (v v' : V) (cvs : List Value), nodupB lv = true → vs.length = lv.length → vs[k]? = some v → (∀ cv, VRel G v cv → VRel G v' cv) → Rels G (setVs lv vs l) cvs → Rels G (setVs lv (vs.set k v') l) cvs := by
    intro lv
    induction lv with
    | nil => intro vs l k v v' cvs _ hl hk; have : vs = [] := List.length_eq_zero_iff.1 hl; subst this; simp at hk
    | cons d ds ih =>
     intro vs l k v v' cvs hn hl hk hv hr
     simp only [nodupB, Bool.and_eq_true, Bool.not_eq_true', List.contains_eq_mem, decide_eq_false_iff_not] at hn
     cases vs with
     | nil => simp at hl
     | cons u us =>
      cases k with
      | zero =>
       simp at hk
       subst hk
       simp only [List.set_cons_zero, setVs] at hr ⊢
       -- the slot d is not written again
       have frame : ∀ (ds : List Nat) (us : List V) (l : List V), d ∉ ds → (setVs ds us l)[d]? = l[d]? ∧ (setVs ds us l).length = l.length := by
        intro ds
        induction ds with
        | nil => intro us l _; exact ⟨rfl, rfl⟩
        | cons e es ihe =>
         intro us l hd
         simp only [List.mem_cons, not_or] at hd
         cases us with
         | nil => exact ⟨rfl, rfl⟩
         | cons z zs =>
          simp only [setVs]
          obtain ⟨g1, g2⟩ := ihe zs (l.set e z) hd.2
          exact ⟨g1.trans (List.getElem?_set_ne (Ne.symm hd.1)), g2.trans (by simp)⟩
       have other : ∀ (ds : List Nat) (us : List V) (l l' : List V), l.length = l'.length → (∀ j, j ≠ d → l[j]? = l'[j]?) → ∀ j, j ≠ d → (setVs ds us l)[j]? = (setVs ds us l')[j]? := by
        intro ds
        induction ds with
        | nil => intro us l l' _ h; simpa [setVs] using h
        | cons e es ihe =>
         intro us l l' hll h
         cases us with
         | nil => simpa [setVs] using h
         | cons z zs =>
          simp only [setVs]
          refine ihe zs _ _ (by simpa using hll) (fun j hj => ?_)
          rw [List.getElem?_set, List.getElem?_set, hll, h j hj]
       have f1 := frame ds us (l.set d u) hn.1
       have f2 := frame ds us (l.set d v') hn.1
       refine ⟨by rw [f2.2, hr.1, f1.2]; simp, fun j x cv hx hcv => ?_⟩
       by_cases hj : j = d
       · subst hj
         rw [f2.1, List.getElem?_set] at hx
         split at hx
         · split at hx
           · rename_i hlt
             cases hx
             refine hv cv (hr.2 j u cv ?_ hcv)
             rw [f1.1, List.getElem?_set_self hlt]
           · cases hx
         · rename_i hne; exact absurd rfl hne
       · rw [← other ds us (l.set d u) (l.set d v') (by simp) (fun i hi => by rw [List.getElem?_set_ne (Ne.symm hi), List.getElem?_set_ne (Ne.symm hi)]) j hj] at hx
         exact hr.2 j x cv hx hcv
      | succ k =>
       simp only [List.set_cons_succ, setVs] at hr ⊢
       exact ih us (l.set d u) k v v' cvs hn.2 (by simpa using hl) (by simpa using hk) hv hr
   exact hset lv vs _ k _ _ _ hlv hlen hk (fun cv h => by
    cases h with
    | lst0 t p => cases p with | none => exact .bs0 _ _ _ | some a => exact .bs1 _ _ _ a
    | @lst _ _ b off cap sz cvs h1 h2 h3 h4 h5 h6 =>
     have h6 : cap = 0 := h6
     subst h6
     exact .bs1 _ _ _ _) hr.tm
 · have h1 := hr.wr.padded 0 1
   simp only [List.replicate_zero, List.append_nil] at h1
   have h2 := h1.unborn (s := nm.length) (by simp [St.of]) hc
   have e : (nm ++ List.replicate 1 none).set nm.length (some (Bf.live c)) = nm ++ [some (.live c)] := by simp
   show WRel Γ G ob (nm ++ [some (.live c)]) w
   rw [← e]
   exact h2
end
end Go.Proofs.Ytofbchcclkejgaa

/- The evaluator with a table of loops: a loop that is listed is taken as its entry says, under names that follow from what is kept at its head. -/
set_option linter.unusedVariables false
set_option linter.unusedSimpArgs false
namespace Go.Proofs.Ytofbchcclkejgaa
open Go
section
variable {P : Program} {Γ : Nat → Option V} {cf : CallF}
def evCK (P : Program) (Γ : Nat → Option V) (cf : CallF) (lo : Nat → Option LEnt) (lv : List Nat) : Nat → Nat → Code → St → Tr (Ex × St)
 | 0, _, _, _ => .leaf none
 | n + 1, i, c, x =>
  match c with
  | .skip => .leaf (some (.normal, x))
  | .ret => .leaf (some (.ret, x))
  | .exit id => .leaf (some (.exit id, x))
  | .region _ ops draw => evRegionJ P Γ cf lv ops draw x
  | .seq a b => (evCK P Γ cf lo lv n i a x).bind fun p => match p.1 with | .normal => evCK P Γ cf lo lv n (i + (loops a).length) b p.2 | e => .leaf (some (e, p.2))
  | .cond c t f =>
   match (x.eval Γ c).bool? with
   | some (b, true) => .br b (evCK P Γ cf lo lv n i t x) (evCK P Γ cf lo lv n (i + (loops t).length) f x)
   | some (true, false) => evCK P Γ cf lo lv n i t x
   | some (false, false) => evCK P Γ cf lo lv n (i + (loops t).length) f x
   | none => .leaf none
  | .block id b => (evCK P Γ cf lo lv n i b x).bind fun p => match p.1 with | .exit j => if j = id then .leaf (some (.normal, p.2)) else .leaf (some (.exit j, p.2)) | e => .leaf (some (e, p.2))
  | .loop b =>
   match lo i with
   | none => (evCK P Γ cf lo lv n (i + 1) b x).bind fun p => match p.1 with | .normal => evCK P Γ cf lo lv n i (.loop b) p.2 | e => .leaf (some (e, p.2))
   | some e =>
    match Nat.beq x.tm.length e.n with
    | true =>
     match x.ren (x.autoN e.lv).1 (x.autoN e.lv).2 e.lv with
     | some r => match e.go x.kh x.kt r.1 r.2.1 r.2.2 with | some t => t | none => .leaf none
     | none => .leaf none
    | false => .leaf none
  | .rangeFunc g ps as bd => evRange P Γ cf g ps as bd x
  | _ => .leaf none
def Lies (root : Code) (i : Nat) (c : Code) : Prop := ∀ j b, (loops c)[j]? = some b → (loops root)[i + j]? = some b
theorem evCK_sound' (hcf : CallsOk P Γ cf) (hfit : CallsFit cf) (hm : P.follows .mixedOrders = true) {lo : Nat → Option LEnt} {lv : List Nat} {root : Code}
 (hlo : ∀ i e, lo i = some e → ∀ b, (loops root)[i]? = some b → ∀ kh kt vs ob nm t ex s, e.go kh kt vs ob nm = some t → t.run = some (ex, s) → SemL P Γ b (St.of e.n e.lv vs ob nm kh kt) ex.to s) :
 ∀ (n i : Nat) (c : Code) (x : St) (e : Ex) (x' : St), Lies root i c → (evCK P Γ cf lo lv n i c x).run = some (e, x') → SemC P Γ c x e.to x' ∧ ∀ b, c = .loop b → SemL P Γ b x e.to x'
 | 0, i, c, x, e, x', _, h => by cases h
 | n + 1, i, c, x, e, x', hl, h => by
  have ihl := evCK_sound' hcf hfit hm hlo (lv := lv) n
  have ih := fun i c x e x' hl h => (ihl i c x e x' hl h).1
  have hbind : ∀ {i : Nat} {c : Code} {y : St} {f : Ex × St → Tr (Ex × St)} {r : Ex × St}, ((evCK P Γ cf lo lv n i c y).bind f).run = some r → ∃ p, (evCK P Γ cf lo lv n i c y).run = some p ∧ (f p).run = some r := fun {i c y f r} hh => by
   rw [Tr.run_bind] at hh
   cases hp : (evCK P Γ cf lo lv n i c y).run with
   | none => rw [hp] at hh; cases hh
   | some p => rw [hp] at hh; exact ⟨p, rfl, hh⟩
  cases c with
  | skip => cases h; exact ⟨SemC.skip, fun b hb => by cases hb⟩
  | ret => cases h; exact ⟨SemC.ret, fun b hb => by cases hb⟩
  | exit id => cases h; exact ⟨SemC.exit, fun b hb => by cases hb⟩
  | region id ops draw => exact ⟨evRegionJ_sound hcf hfit hm h, fun b hb => by cases hb⟩
  | seq a b =>
   refine ⟨?_, fun b hb => by cases hb⟩
   have hla : Lies root i a := fun j c hj => hl j c (by
    simp only [loops]
    rw [List.getElem?_append_left (by
     rcases Nat.lt_or_ge j (loops a).length with hh | hh
     · exact hh
     · rw [List.getElem?_eq_none hh] at hj; cases hj)]
    exact hj)
   have hlb : Lies root (i + (loops a).length) b := fun j c hj => by
    have := hl ((loops a).length + j) c (by simp only [loops]; rw [List.getElem?_append_right (by omega)]; simpa using hj)
    rw [Nat.add_assoc]; exact this
   obtain ⟨⟨e1, x1⟩, h1, h2⟩ := hbind h
   cases e1 with
   | normal => exact SemC.seq (ih _ a x .normal x1 hla h1) (ih _ b x1 e x' hlb h2)
   | exit i => cases h2; exact SemC.seq_out (by simp [Ex.to]) (ih _ a x _ _ hla h1)
   | ret => cases h2; exact SemC.seq_out (by simp [Ex.to]) (ih _ a x _ _ hla h1)
  | cond q t f =>
   refine ⟨?_, fun b hb => by cases hb⟩
   have hla : Lies root i t := fun j c hj => hl j c (by
    simp only [loops]
    rw [List.getElem?_append_left (by
     rcases Nat.lt_or_ge j (loops t).length with hh | hh
     · exact hh
     · rw [List.getElem?_eq_none hh] at hj; cases hj)]
    exact hj)
   have hlb : Lies root (i + (loops t).length) f := fun j c hj => by
    have := hl ((loops t).length + j) c (by simp only [loops]; rw [List.getElem?_append_right (by omega)]; simpa using hj)
    rw [Nat.add_assoc]; exact this
   simp only [evCK] at h
   cases hq : (x.eval Γ q).bool? with
   | none => rw [hq] at h; cases h
   | some p =>
    obtain ⟨b, s⟩ := p
    rw [hq] at h
    intro ro G a w hr ho
    have hb := bool?_eq hq (hr.eval q)
    cases b
    · have h' : (evCK P Γ cf lo lv n (i + (loops t).length) f x).run = some (e, x') := by cases s <;> exact h
      exact wpIn_cond_false hb (ih _ f x e x' hlb h' ro G a w hr ho)
    · have h' : (evCK P Γ cf lo lv n i t x).run = some (e, x') := by cases s <;> exact h
      exact wpIn_cond_true hb (ih _ t x e x' hla h' ro G a w hr ho)
  | block id b =>
   refine ⟨?_, fun b hb => by cases hb⟩
   have hl' : Lies root i b := fun j c hj => hl j c hj
   obtain ⟨⟨e1, x1⟩, h1, h2⟩ := hbind h
   cases e1 with
   | normal => cases h2; exact SemC.block (by simp [Ex.to]) (ih _ b x _ _ hl' h1)
   | ret => cases h2; exact SemC.block (by simp [Ex.to]) (ih _ b x _ _ hl' h1)
   | exit j =>
    simp only [] at h2
    split at h2
    · rename_i hi; subst hi; cases h2; exact SemC.block_exit (ih _ b x _ _ hl' h1)
    · rename_i hi; cases h2; exact SemC.block (by simpa [Ex.to] using hi) (ih _ b x _ _ hl' h1)
  | loop b =>
   have hl' : Lies root (i + 1) b := fun j c hj => by
    have := hl (j + 1) c (by simp only [loops]; simpa using hj)
    rw [show i + 1 + j = i + (j + 1) by omega]; exact this
   have key : SemL P Γ b x e.to x' := by
    simp only [evCK] at h
    cases hk : lo i with
    | none =>
     rw [hk] at h
     obtain ⟨⟨e1, x1⟩, h1, h2⟩ := hbind h
     cases e1 with
     | normal => exact SemL.next (ih _ b x .normal x1 hl' h1) ((ihl i (.loop b) x1 e x' hl h2).2 b rfl)
     | exit i => cases h2; exact SemL.out (by simp [Ex.to]) (ih _ b x _ _ hl' h1)
     | ret => cases h2; exact SemL.out (by simp [Ex.to]) (ih _ b x _ _ hl' h1)
    | some le =>
     rw [hk] at h
     simp only [] at h
     split at h
     · rename_i hn
       split at h
       · rename_i r hren
         split at h
         · rename_i t ht
           exact (hlo i le hk b (hl 0 b (by simp [loops])) _ _ _ _ _ t e x' ht h).preRen (Nat.eq_of_beq_eq_true hn) hren
         · cases h
       · cases h
     · cases h
   exact ⟨SemC.loop key, fun b' hb => by cases hb; exact key⟩
  | rangeFunc g ps as bd => exact ⟨evRange_sound hcf h, fun b hb => by cases hb⟩
  | _ => cases h
def evFK (P : Program) (Γ : Nat → Option V) (cf : CallF) (lo : LOrc) (lv : List Nat) (n : Nat) (f : FuncId) (args : List V) (ob : Ob) (nm : Nm) : Tr (V × St) :=
 match P.funcs[f]? with
 | none => .leaf none
 | some fn =>
  match fn.body with
  | none => .leaf none
  | some c =>
   if fn.name == "runtime.NumGoroutine" then .leaf none else
   (evCK P Γ cf (lo f) lv n 0 c (St.start fn.ntmps args ob nm)).bind fun p =>
    match p.1 with
    | .exit _ => .leaf none
    | _ => match resV P p.2 fn.results.toList with | some v => .leaf (some (v, p.2)) | none => .leaf none
theorem evFK_sound (hcf : CallsOk P Γ cf) (hfit : CallsFit cf) (hm : P.follows .mixedOrders = true) {lo : LOrc} (hlo : LOrcOk P Γ lo) {lv : List Nat} {n : Nat} {f : FuncId} {args : List V} {ob : Ob} {nm : Nm} {v : V} {x : St} (h : (evFK P Γ cf lo lv n f args ob nm).run = some (v, x)) :
 SemF P Γ f args ob nm v x.ob x.nm := by
 unfold evFK at h
 cases hf : P.funcs[f]? with
 | none => rw [hf] at h; cases h
 | some fn =>
  rw [hf] at h
  simp only [] at h
  cases hb : fn.body with
  | none => rw [hb] at h; cases h
  | some c =>
   rw [hb] at h
   simp only [] at h
   split at h
   · cases h
   · rw [Tr.run_bind] at h
     cases hc : (evCK P Γ cf (lo f) lv n 0 c (St.start fn.ntmps args ob nm)).run with
     | none => rw [hc] at h; cases h
     | some p =>
      obtain ⟨e, y⟩ := p
      rw [hc] at h
      simp only [Option.bind_some] at h
      have hlo' : ∀ i e, lo f i = some e → ∀ b, (loops c)[i]? = some b → ∀ kh kt vs ob nm t ex s, e.go kh kt vs ob nm = some t → t.run = some (ex, s) → SemL P Γ b (St.of e.n e.lv vs ob nm kh kt) ex.to s := fun i e he b hb' => by
       obtain ⟨fn', c', b', h1, h2, h3, h4⟩ := hlo f i e he
       rw [hf] at h1
       obtain rfl := Option.some.inj h1
       rw [hb] at h2
       obtain rfl := Option.some.inj h2
       rw [hb'] at h3
       obtain rfl := Option.some.inj h3
       exact h4
      have hs := (evCK_sound' hcf hfit hm hlo' n 0 c _ e y (fun j b hj => by simpa using hj) hc).1
      have key : ∀ v', resV P y fn.results.toList = some v' → (e = .ret ∨ e = .normal) → SemF P Γ f args ob nm v' y.ob y.nm := fun v' hv he =>
       SemF.of_body hf hb (by rcases he with rfl | rfl <;> simp [Ex.to]) hs hv
      cases e with
      | exit i => cases h
      | ret =>
       simp only [] at h
       cases hv : resV P y fn.results.toList with
       | none => rw [hv] at h; cases h
       | some v' => rw [hv] at h; cases h; exact key _ hv (.inl rfl)
      | normal =>
       simp only [] at h
       cases hv : resV P y fn.results.toList with
       | none => rw [hv] at h; cases h
       | some v' => rw [hv] at h; cases h; exact key _ hv (.inr rfl)
theorem LOrcOk.none : LOrcOk P Γ (fun _ _ => Option.none) := fun f i e h => by cases h
theorem Lies.of_take {root c : Code} {i n : Nat} (h : loops c = ((loops root).drop i).take n) : Lies root i c := fun j b hj => by
 rw [h, List.getElem?_take, List.getElem?_drop] at hj
 split at hj
 · exact hj
 · cases hj
end
end Go.Proofs.Ytofbchcclkejgaa

/- Calls with memory: the callee is reckoned in the caller's memory; what it made and is still asked for is laid behind. -/
set_option linter.unusedVariables false
set_option linter.unusedSimpArgs false
namespace Go.Proofs.Ytofbchcclkejgaa
open Go
def isRange : Nat → Nat → List Nat → Bool
 | _, 0, _ => true
 | s, k + 1, x :: xs => x == s && isRange (s + 1) k xs
 | _, _ + 1, [] => false
theorem isRange_get : ∀ {k s : Nat} {l : List Nat}, isRange s k l = true → ∀ i, i < k → l[i]? = some (s + i)
 | 0, s, l, h, i, hi => by omega
 | k + 1, s, [], h, i, hi => by simp [isRange] at h
 | k + 1, s, x :: xs, h, i, hi => by
  simp only [isRange, Bool.and_eq_true, beq_iff_eq] at h
  cases i with
  | zero => simp [h.1]
  | succ i =>
   have := isRange_get h.2 i (by omega)
   simp only [List.getElem?_cons_succ, this]
   congr 1
   omega
section
variable {P : Program} {Γ : Nat → Option V} {cf : CallF}
theorem SemF.ren {f : FuncId} {args : List V} {ob ob1 ob' : Ob} {nm nm1 nm' : Nm} {v v' : V} (h : SemF P Γ f args ob nm v ob1 nm1) {po pn : List Nat} (hv : v.cl (renP po pn) = some v') (ho : renOb po pn ob1 po = some ob') (hn : renNm po pn nm1 pn = some nm')
 (d1 : nodupB po = true) (d2 : nodupB pn = true) (k1 : isRange 0 ob.length po = true) (k2 : isRange 0 nm.length pn = true) : SemF P Γ f args ob nm v' ob' nm' := by
 intro G w cargs hw hr
 refine (h G w cargs hw hr).mono ?_
 rintro e w' ⟨cv, G1, rfl, hle, hv1, hw1⟩
 refine ⟨cv, G1.ren po pn, rfl, ⟨⟨hle.m, fun o b hh => ?_, fun n x hh => ?_, hle.d⟩, hle.kh, hle.kt, hle.w0, hle.m0, hle.kd⟩, VRel.cl (G := G1) (G' := G1.ren po pn) (renP_cell po pn) (fun _ _ _ h => h) (renP_rel po pn) hv1 hv, hw1.ren ho hn d1 d2⟩
 · have := isRange_get k1 o (hw.hlt o b hh).1
   show (po[o]?).bind G1.H = some b
   rw [this, Nat.zero_add]
   exact hle.h o b hh
 · have := isRange_get k2 n (hw.tlt n x hh)
   show (pn[n]?).bind G1.T = some x
   rw [this, Nat.zero_add]
   exact hle.t n x hh
theorem WRel.weakOb {G : Gh} {ob ob' : Ob} {nm : Nm} {w : World} (h : WRel Γ G ob nm w) (hl : ob'.length = ob.length) (hs : ∀ (o : Nat) (cs' : List V), ob'[o]? = some (some cs') → ∃ cs, ob[o]? = some (some cs) ∧ cs'.length = cs.length ∧ ∀ (j : Nat) (x' : V), cs'[j]? = some x' → ∃ x, cs[j]? = some x ∧ ∀ (G : Gh) (cv : Value), VRel G x cv → VRel G x' cv)
 (hn : ∀ o : Nat, ob'[o]? = some none → ob[o]? = some none) : WRel Γ G ob' nm w :=
 { h with
  hob := fun o cs' b h1 h2 => by
   obtain ⟨cs, e1, e2, e3⟩ := hs o cs' h1
   obtain ⟨a1, ⟨c, E, fr, q1, q2, q3, q4⟩, a3⟩ := h.hob o cs b e1 h2
   refine ⟨a1, ⟨c, E, fr, q1, q2, by omega, ?_⟩, a3⟩
   rw [e2]
   refine ⟨by rw [q4.1, e2], fun j x' cv g1 g2 => ?_⟩
   obtain ⟨x, gx, hx⟩ := e3 j x' g1
   exact hx G cv (q4.2 j x cv gx g2)
  hlt := fun o b h1 => by rw [hl]; exact h.hlt o b h1
  habs := fun o h1 => h.habs o (hn o h1) }
structure BCw (c c' : BC) : Prop where
 sz : c'.sz = c.sz
 len : c'.len = c.len
 el : (∀ v ∈ c.els, v.cells.length = c.sz) → ∀ v ∈ c'.els, v.cells.length = c'.sz
 fl : (flat c'.els).length = (flat c.els).length
 rel : ∀ (G : Gh) (cvs : List Value), Rels G (flat c.els) cvs → Rels G (flat c'.els) cvs
 u8 : ∀ E, c'.u8E = some E → c.u8E = some E := by intro E h; cases h
theorem BCw.refl (c : BC) : BCw c c := ⟨rfl, rfl, fun h => h, rfl, fun _ _ h => h, fun _ h => h⟩
theorem WRel.weakNm {G : Gh} {ob : Ob} {nm nm' : Nm} {w : World} (h : WRel Γ G ob nm w) (hl : nm'.length = nm.length) (hs : ∀ (n : Nat) (c' : BC), nm'[n]? = some (some (.live c')) → ∃ c, nm[n]? = some (some (.live c)) ∧ BCw c c') (hn : ∀ n : Nat, nm'[n]? = some none → nm[n]? = some none) : WRel Γ G ob nm' w :=
 { h with
  hnm := fun n c' x h1 h2 => by
   obtain ⟨c, h3, k⟩ := hs n c' h1
   have B := h.hnm n c x h3 h2
   obtain ⟨cvs, E, fr, e1, e2, e3, e4⟩ := B.row
   exact ⟨B.old, ⟨cvs, E, fr, e1, e2, e3, by rw [k.fl]; exact k.rel G _ e4⟩, B.sz.trans k.sz.symm, k.el B.el, k.len.trans B.len, B.cap, B.free, B.obj, fun F hF => B.u8 F (k.u8 F hF)⟩
  hno := fun n c' h1 h2 => by obtain ⟨c, h3, k⟩ := hs n c' h1; exact k.len.trans (h.hno n c h3 h2)
  nmd := fun n n' c c' x x' hne h1 h2 h3 h4 => by
   obtain ⟨d, g1, _⟩ := hs n c h1
   obtain ⟨d', g2, _⟩ := hs n' c' h2
   exact h.nmd n n' d d' x x' hne g1 g2 h3 h4
  tabs := fun n h1 => h.tabs n (hn n h1)
  tlt := fun n x h1 => by rw [hl]; exact h.tlt n x h1 }
theorem mergeL_append (b : Bool) : ∀ {xs ys zs us vs ws : List V}, mergeL b xs ys = some zs → mergeL b us vs = some ws → mergeL b (xs ++ us) (ys ++ vs) = some (zs ++ ws)
 | [], ys, zs, us, vs, ws, h, k => by
  cases ys with
  | nil => simp [mergeL] at h; subst h; exact k
  | cons y ys => simp [mergeL] at h
 | x :: xs, ys, zs, us, vs, ws, h, k => by
  cases ys with
  | nil => simp [mergeL] at h
  | cons y ys =>
   simp only [mergeL] at h
   split at h
   · rename_i z zs' h1 h2
     cases h
     have := mergeL_append b h2 k
     simp only [List.cons_append, mergeL, h1, this]
   · cases h
theorem mergeL_flat (b : Bool) : ∀ {xs ys zs : List V}, mergeL b xs ys = some zs → mergeL b (flat xs) (flat ys) = some (flat zs)
 | [], ys, zs, h => by
  cases ys with
  | nil => simp [mergeL] at h; subst h; rfl
  | cons y ys => simp [mergeL] at h
 | x :: xs, ys, zs, h => by
  cases ys with
  | nil => simp [mergeL] at h
  | cons y ys =>
   simp only [mergeL] at h
   split at h
   · rename_i z zs' h1 h2
     cases h
     rw [flat_cons, flat_cons, flat_cons]
     exact mergeL_append b (mergeV_cells b h1) (mergeL_flat b h2)
   · cases h
def mergeO (b : Bool) : Ob → Ob → Option Ob
 | [], [] => some []
 | x :: xs, y :: ys =>
  match mergeO b xs ys with
  | none => none
  | some r =>
   match x, y with
   | none, none => some (none :: r)
   | some a, some c => match mergeL b a c with | some z => some (some z :: r) | none => none
   | _, _ => none
 | _, _ => none
def V.tyG : V → Option Ty
 | .b _ => some .bool
 | .sb _ => some .bool
 | .i k _ => some (.int k)
 | .si k _ => some (.int k)
 | .s _ => some .str
 | .ss _ => some .str
 | .slst _ e _ => some (.slice e)
 | .agg cs => match optMap (fun (v : V) => match v with | .b _ => some Ty.bool | .sb _ => some Ty.bool | .i k _ => some (Ty.int k) | .si k _ => some (Ty.int k) | .s _ => some Ty.str | .ss _ => some Ty.str | .slst _ e _ => some (Ty.slice e) | _ => none) cs with | some ts => some (.agg ts) | none => none
 | _ => none
def BC.tyG : BC → Option Ty
 | .arr ty _ => some ty
 | .u8 _ _ _ => none
 | .cs _ (v :: _) => v.tyG
 | .cs _ [] => none
def BC.as (ty : Ty) : BC → Option (List ty.den)
 | .arr _ l => listAs ty l
 | .u8 _ _ _ => none
 | .cs sz l => if sz = ty.size then optMap (whole ty.ofC) l else none
def mergeArr (b : Bool) (c d : BC) : Bf :=
 match (c.tyG).or d.tyG with
 | some ty => match c.as ty, d.as ty with | some l, some l' => .live (.arr ty (bif b then l else l')) | _, _ => .dead
 | none => .dead
def mergeBf (b : Bool) : Bf → Bf → Bf
 | .live (.cs sz l), .live (.cs sz' l') => if sz = sz' then (match mergeL b l l' with | some z => .live (.cs sz z) | none => mergeArr b (.cs sz l) (.cs sz' l')) else .dead
 | .live c, .live d => mergeArr b c d
 | _, _ => .dead
def mergeN (b : Bool) : Nm → Nm → Option Nm
 | [], [] => some []
 | x :: xs, y :: ys =>
  match mergeN b xs ys with
  | none => none
  | some r =>
   match x, y with
   | none, none => some (none :: r)
   | some a, some c => some (some (mergeBf b a c) :: r)
   | _, _ => none
 | _, _ => none
theorem mergeL_get (b : Bool) : ∀ {xs ys zs : List V}, mergeL b xs ys = some zs → zs.length = (bif b then xs else ys).length ∧ ∀ (j : Nat) (z : V), zs[j]? = some z → ∃ x, (bif b then xs else ys)[j]? = some x ∧ ∀ (G : Gh) (cv : Value), VRel G x cv → VRel G z cv
 | [], ws, zs, h => by
  cases ws with
  | nil => simp [mergeL] at h; subst h; cases b <;> exact ⟨rfl, fun j z hj => by simp at hj⟩
  | cons w ws => simp [mergeL] at h
 | x :: xs, ws, zs, h => by
  cases ws with
  | nil => simp [mergeL] at h
  | cons w ws =>
   simp only [mergeL] at h
   split at h
   · rename_i z zs' h1 h2
     cases h
     obtain ⟨g1, g2⟩ := mergeL_get b h2
     have hm := mergeV_ok b x w z h1
     refine ⟨by cases b <;> simpa using g1, fun j u hj => ?_⟩
     cases j with
     | zero =>
      simp at hj
      subst hj
      cases b
      · exact ⟨w, rfl, fun G cv hr => hm G cv hr⟩
      · exact ⟨x, rfl, fun G cv hr => hm G cv hr⟩
     | succ j =>
      obtain ⟨y, hy, hr⟩ := g2 j u (by simpa using hj)
      cases b
      · exact ⟨y, by simpa using hy, hr⟩
      · exact ⟨y, by simpa using hy, hr⟩
   · cases h
theorem mergeO_get (b : Bool) : ∀ {xs ys zs : Ob}, mergeO b xs ys = some zs → zs.length = (bif b then xs else ys).length ∧
 (∀ (o : Nat) (cs' : List V), zs[o]? = some (some cs') → ∃ cs, (bif b then xs else ys)[o]? = some (some cs) ∧ cs'.length = cs.length ∧ ∀ (j : Nat) (x' : V), cs'[j]? = some x' → ∃ x, cs[j]? = some x ∧ ∀ (G : Gh) (cv : Value), VRel G x cv → VRel G x' cv) ∧
 ∀ o : Nat, zs[o]? = some none → (bif b then xs else ys)[o]? = some none
 | [], [], zs, h => by simp [mergeO] at h; subst h; cases b <;> exact ⟨rfl, fun o cs h => by simp at h, fun o h => by simp at h⟩
 | [], y :: ys, zs, h => by simp [mergeO] at h
 | x :: xs, [], zs, h => by simp [mergeO] at h
 | x :: xs, y :: ys, zs, h => by
  simp only [mergeO] at h
  cases hr : mergeO b xs ys with
  | none => rw [hr] at h; cases h
  | some r =>
   rw [hr] at h
   simp only [] at h
   obtain ⟨g1, g2, g3⟩ := mergeO_get b hr
   have e : (bif b then x :: xs else y :: ys) = (bif b then x else y) :: (bif b then xs else ys) := by cases b <;> rfl
   rw [e]
   split at h
   · cases h
     refine ⟨by simp [g1], fun o cs' ho => ?_, fun o ho => ?_⟩
     · cases o with
       | zero => simp at ho
       | succ o => simpa using g2 o cs' (by simpa using ho)
     · cases o with
       | zero => cases b <;> rfl
       | succ o => simpa using g3 o (by simpa using ho)
   · rename_i a c
     split at h
     · rename_i z hz
       cases h
       obtain ⟨l1, l2⟩ := mergeL_get b hz
       refine ⟨by simp [g1], fun o cs' ho => ?_, fun o ho => ?_⟩
       · cases o with
         | zero =>
          simp at ho
          subst ho
          exact ⟨bif b then a else c, by cases b <;> rfl, l1, l2⟩
         | succ o => simpa using g2 o cs' (by simpa using ho)
       · cases o with
         | zero => simp at ho
         | succ o => simpa using g3 o (by simpa using ho)
     · cases h
   · cases h
theorem BC.as_w {ty : Ty} {c : BC} {l : List ty.den} (h : c.as ty = some l) : BCw c (.arr ty l) := by
 cases c with
 | arr ty' l' =>
  simp only [BC.as, listAs] at h
  split at h
  · rename_i he
    obtain rfl := Ty.eqb_eq he
    cases h
    exact .refl _
  · cases h
 | u8 sy E l => cases h
 | cs sz xs =>
  simp only [BC.as] at h
  split at h
  · rename_i hs
    subst hs
    obtain ⟨h1, h2, h3⟩ := optMap_ok (Ty.ofC_ok ty) h
    refine ⟨rfl, h1, fun _ v hv => ?_, ?_, fun G cvs hr => h3 G cvs hr, fun E h => by cases h⟩
    · obtain ⟨x, _, rfl⟩ := List.mem_map.1 hv
      exact Ty.val_len ty x
    · show (flat (l.map ty.val)).length = (flat xs).length
      rw [flat_length (sz := ty.size) (fun v hv => by obtain ⟨x, _, rfl⟩ := List.mem_map.1 hv; exact Ty.val_len ty x), flat_length h2, List.length_map, h1]
  · cases h
theorem mergeArr_live {b : Bool} {c d e : BC} (h : mergeArr b c d = .live e) : ∃ d0, (bif b then Bf.live c else Bf.live d) = .live d0 ∧ BCw d0 e := by
 unfold mergeArr at h
 split at h
 · split at h
   · rename_i l l' h1 h2
     cases h
     cases b
     · exact ⟨d, rfl, BC.as_w h2⟩
     · exact ⟨c, rfl, BC.as_w h1⟩
   · cases h
 · cases h
theorem mergeBf_live {b : Bool} {x y : Bf} {c : BC} (h : mergeBf b x y = .live c) : ∃ d, (bif b then x else y) = .live d ∧ BCw d c := by
 unfold mergeBf at h
 split at h
 · rename_i sz l sz' l'
   split at h
   · rename_i hs
     subst hs
     split at h
     · rename_i z hz
       cases h
       obtain ⟨g1, g0, g2⟩ := mergeL_get0 b hz
       have hfl := mergeL_flat b hz
       obtain ⟨f1, f2⟩ := mergeL_get b hfl
       refine ⟨.cs sz (bif b then l else l'), by cases b <;> rfl, rfl, g1, fun hel v hv => ?_, ?_, fun G cvs hr => ?_, fun E h => by cases h⟩
       · obtain ⟨j, hj⟩ := List.getElem?_of_mem hv
         obtain ⟨p, q, e1, e2, e3⟩ := g2 j v hj
         obtain ⟨k1, k2, _⟩ := mergeL_get0 b (mergeV_cells b e3)
         have : (bif b then p else q) ∈ (bif b then l else l') := by
          cases b
          · exact List.mem_of_getElem? e2
          · exact List.mem_of_getElem? e1
         have hc := hel _ this
         have : (bif b then p.cells else q.cells).length = (bif b then p else q).cells.length := by cases b <;> rfl
         show v.cells.length = sz
         rw [k1, this]
         exact hc
       · show (flat z).length = (flat (bif b then l else l')).length
         rw [f1]
         cases b <;> rfl
       · have e : flat (BC.cs sz (bif b then l else l')).els = (bif b then flat l else flat l') := by cases b <;> rfl
         rw [e] at hr
         refine ⟨by show cvs.length = (flat z).length; rw [f1]; exact hr.1, fun j v cv h1 h2 => ?_⟩
         obtain ⟨x, e1, e2⟩ := f2 j v h1
         exact e2 G cv (hr.2 j x cv e1 h2)
     · exact mergeArr_live h
   · cases h
 · exact mergeArr_live h
 · cases h
theorem mergeN_get (b : Bool) : ∀ {xs ys zs : Nm}, mergeN b xs ys = some zs → zs.length = (bif b then xs else ys).length ∧ (∀ (n : Nat) (c : BC), zs[n]? = some (some (.live c)) → ∃ d, (bif b then xs else ys)[n]? = some (some (.live d)) ∧ BCw d c) ∧ ∀ n : Nat, zs[n]? = some none → (bif b then xs else ys)[n]? = some none
 | [], [], zs, h => by simp [mergeN] at h; subst h; cases b <;> exact ⟨rfl, fun o cs h => by simp at h, fun o h => by simp at h⟩
 | [], y :: ys, zs, h => by simp [mergeN] at h
 | x :: xs, [], zs, h => by simp [mergeN] at h
 | x :: xs, y :: ys, zs, h => by
  simp only [mergeN] at h
  cases hr : mergeN b xs ys with
  | none => rw [hr] at h; cases h
  | some r =>
   rw [hr] at h
   simp only [] at h
   obtain ⟨g1, g2, g3⟩ := mergeN_get b hr
   have e : (bif b then x :: xs else y :: ys) = (bif b then x else y) :: (bif b then xs else ys) := by cases b <;> rfl
   rw [e]
   split at h
   · cases h
     refine ⟨by simp [g1], fun o c ho => ?_, fun o ho => ?_⟩
     · cases o with
       | zero => simp at ho
       | succ o => simpa using g2 o c (by simpa using ho)
     · cases o with
       | zero => cases b <;> rfl
       | succ o => simpa using g3 o (by simpa using ho)
   · rename_i a c
     cases h
     refine ⟨by simp [g1], fun o d ho => ?_, fun o ho => ?_⟩
     · cases o with
       | zero =>
        simp at ho
        obtain ⟨d0, this, hw⟩ := mergeBf_live ho
        refine ⟨d0, ?_, hw⟩
        cases b
        · simp only [cond_false] at this ⊢; rw [this]; rfl
        · simp only [cond_true] at this ⊢; rw [this]; rfl
       | succ o => simpa using g2 o d (by simpa using ho)
     · cases o with
       | zero => simp at ho
       | succ o => simpa using g3 o (by simpa using ho)
   · cases h
inductive MR where
 | bad | dead | ok (c : Option Bool) (v : V) (ob : Ob) (nm : Nm)
def MR.mg (b : Bool) : MR → MR → MR
 | .bad, _ => .bad
 | _, .bad => .bad
 | .dead, .dead => .dead
 | .ok c v ob nm, .dead => .ok (some (b && c.getD true)) v ob nm
 | .dead, .ok c v ob nm => .ok (some (!b && c.getD true)) v ob nm
 | .ok c v ob nm, .ok c' v' ob' nm' =>
  match mergeV b v v', mergeO b ob ob', mergeN b nm nm' with
  | some z, some o, some n => .ok (match c, c' with | none, none => none | _, _ => some (bif b then c.getD true else c'.getD true)) z o n
  | _, _, _ => .bad
def leafM (k kt : Nat) (v : V) (s : St) : MR :=
 match s.names 3 (addNew (List.range k) v.refs) (addNew (List.range kt) v.nrefs) with
 | (po, pn) =>
  match nodupB po && nodupB pn && isRange 0 k po && isRange 0 kt pn with
  | false => .bad
  | true =>
   match v.cl (renP po pn), renOb po pn s.ob po, renNm po pn s.nm pn with
   | some v', some ob', some nm' => .ok none v' ob' nm'
   | _, _, _ => .bad
def mergeM (k kt : Nat) : Tr (V × St) → MR
 | .leaf none => .dead
 | .leaf (some p) => leafM k kt p.1 p.2
 | .br b x y => (mergeM k kt x).mg b (mergeM k kt y)
theorem mergeM_ok {f : FuncId} {args : List V} {ob : Ob} {nm : Nm} : ∀ (t : Tr (V × St)), (∀ v s, t.run = some (v, s) → SemF P Γ f args ob nm v s.ob s.nm) → ∀ (c : Option Bool) (v : V) (ob' : Ob) (nm' : Nm), mergeM ob.length nm.length t = .ok c v ob' nm' → c.getD true = true → SemF P Γ f args ob nm v ob' nm'
 | .leaf none, _, c, v, ob', nm', h, _ => by cases h
 | .leaf (some p), hs, c, v, ob', nm', h, _ => by
  simp only [mergeM, leafM] at h
  split at h
  · cases h
  · rename_i hc
    simp only [Bool.and_eq_true] at hc
    split at h
    · rename_i v1 ob1 nm1 e1 e2 e3
      cases h
      exact (hs p.1 p.2 rfl).ren e1 e2 e3 hc.1.1.1 hc.1.1.2 hc.1.2 hc.2
    · cases h
 | .br b x y, hs, c, v, ob', nm', h, hc => by
  simp only [mergeM] at h
  have hx : b = true → ∀ v s, x.run = some (v, s) → SemF P Γ f args ob nm v s.ob s.nm := fun hb v s hr => hs v s (by subst hb; exact hr)
  have hy : b = false → ∀ v s, y.run = some (v, s) → SemF P Γ f args ob nm v s.ob s.nm := fun hb v s hr => hs v s (by subst hb; exact hr)
  cases hmx : mergeM ob.length nm.length x with
  | bad => rw [hmx] at h; cases h
  | dead =>
   cases hmy : mergeM ob.length nm.length y with
   | bad => rw [hmx, hmy] at h; cases h
   | dead => rw [hmx, hmy] at h; cases h
   | ok d u o n =>
    rw [hmx, hmy] at h
    cases h
    have hc' : b = false ∧ d.getD true = true := by simpa using hc
    exact mergeM_ok y (hy hc'.1) d _ _ _ hmy hc'.2
  | ok d u o n =>
   cases hmy : mergeM ob.length nm.length y with
   | bad => rw [hmx, hmy] at h; cases h
   | dead =>
    rw [hmx, hmy] at h
    cases h
    have hc' : b = true ∧ d.getD true = true := by simpa using hc
    exact mergeM_ok x (hx hc'.1) d _ _ _ hmx hc'.2
   | ok d2 u2 o2 n2 =>
    rw [hmx, hmy] at h
    simp only [MR.mg] at h
    split at h
    · rename_i z oz nz e1 e2 e3
      cases h
      have hcc : (bif b then d.getD true else d2.getD true) = true := by
       cases d <;> cases d2 <;> cases b <;> first | rfl | simpa using hc
      obtain ⟨o1, o2', o3⟩ := mergeO_get b e2
      obtain ⟨n1, n2', n3⟩ := mergeN_get b e3
      have hm := mergeV_ok b u u2 _ e1
      have base : SemF P Γ f args ob nm (bif b then u else u2) (bif b then o else o2) (bif b then n else n2) := by
       cases b
       · exact mergeM_ok y (hy rfl) d2 _ _ _ hmy hcc
       · exact mergeM_ok x (hx rfl) d _ _ _ hmx hcc
      intro G w cargs hw hr
      refine (base G w cargs hw hr).mono ?_
      rintro e w' ⟨cv, G1, rfl, hle, hv, hw1⟩
      exact ⟨cv, G1, rfl, hle, hm G1 cv hv, (hw1.weakOb o1 o2' o3).weakNm n1 n2' n3⟩
    · cases h
end
end Go.Proofs.Ytofbchcclkejgaa

/- The calls: contracts, effects that are told, loops by table; and with memory. -/
set_option linter.unusedVariables false
set_option linter.unusedSimpArgs false
namespace Go.Proofs.Ytofbchcclkejgaa
open Go
structure Cfg where
 orc : Orc
 omd : FuncId → Bool
 om : CallF
 lo : LOrc
 lv : FuncId → List Nat
 mem : FuncId → Bool
 n : Nat
 wy : FuncId → List V → Option (List Bool) := fun _ _ => none   -- of these calls one way alone is looked at
structure CfgOk (P : Program) (Γ : Nat → Option V) (C : Cfg) : Prop where
 orc : OrcOk P Γ C.orc
 om : CallsOk P Γ C.om
 fit : CallsFit C.om
 lo : LOrcOk P Γ C.lo
 mixed : P.follows .mixedOrders = true
def Tr.prune {α : Type} : Tr α → List Bool → Tr α
 | .leaf a, _ => .leaf a
 | .br b x _, true :: ds => .br b (x.prune ds) (.leaf none)
 | .br b _ y, false :: ds => .br b (.leaf none) (y.prune ds)
 | .br _ _ _, [] => .leaf none
theorem Tr.prune_run {α : Type} : ∀ (t : Tr α) (ds : List Bool) (a : α), (t.prune ds).run = some a → t.run = some a
 | .leaf x, _, a, h => h
 | .br b x y, [], a, h => by cases h
 | .br b x y, true :: ds, a, h => by
  cases b with
  | true => exact Tr.prune_run x ds a h
  | false => cases h
 | .br b x y, false :: ds, a, h => by
  cases b with
  | true => cases h
  | false => exact Tr.prune_run y ds a h
def Tr.only {α : Type} (t : Tr α) : Option (List Bool) → Tr α
 | none => t
 | some ds => t.prune ds
theorem Tr.only_run {α : Type} {t : Tr α} {o : Option (List Bool)} {a : α} (h : (t.only o).run = some a) : t.run = some a := by
 cases o with
 | none => exact h
 | some ds => exact Tr.prune_run t ds a h
def callK (P : Program) (Γ : Nat → Option V) (C : Cfg) (cf : CallF) (f : FuncId) (args : List V) : Option (Option Bool × V) :=
 match C.orc f args with
 | some p => some p
 | none =>
  match C.orc f (V.syL args) with
  | some p => some p
  | none =>
   match mergeT ((evFK P Γ cf C.lo (C.lv f) C.n f args [] []).only (C.wy f args)) with
   | .ok c v => some (c, v)
   | _ => none
def freeKeep {α : Type} : List (Option α) → List (Option α) → Bool
 | [], _ => true
 | some _ :: xs, _ :: ys => freeKeep xs ys
 | none :: xs, y :: ys => y.isNone && freeKeep xs ys
 | _ :: _, [] => false
theorem freeKeep_get {α : Type} : ∀ {l l' : List (Option α)}, freeKeep l l' = true → ∀ s : Nat, l[s]? = some none → l'[s]? = some none
 | [], l', h, s, hs => by simp at hs
 | some a :: xs, y :: ys, h, s, hs => by
  simp only [freeKeep] at h
  cases s with
  | zero => simp at hs
  | succ s => simpa using freeKeep_get h s (by simpa using hs)
 | none :: xs, y :: ys, h, s, hs => by
  simp only [freeKeep, Bool.and_eq_true] at h
  cases s with
  | zero => simp at h ⊢; exact h.1
  | succ s => simpa using freeKeep_get h.2 s (by simpa using hs)
 | x :: xs, [], h, s, hs => by cases x <;> simp [freeKeep] at h
def inB (po pn : Nat → Bool) (l : List V) : Bool := (V.refsL l).all po && (V.nrefsL l).all pn
def allO (p : Nat → Bool) (q : List V → Bool) : Nat → Ob → Bool
 | _, [] => true
 | i, none :: r => allO p q (i + 1) r
 | i, some cs :: r => (!p i || q cs) && allO p q (i + 1) r
def allN (p : Nat → Bool) (q : List V → Bool) : Nat → Nm → Bool
 | _, [] => true
 | i, some (.live (.cs _ xs)) :: r => (!p i || q xs) && allN p q (i + 1) r
 | i, _ :: r => allN p q (i + 1) r
def callM (P : Program) (Γ : Nat → Option V) (C : Cfg) (cf : CallF) (f : FuncId) (args : List V) (ob : Ob) (nm : Nm) : Option Out :=
 match dO ob nm 3 args, dN ob nm 3 args with
 | to, tn =>
  match inB to.contains tn.contains args && allO to.contains (inB to.contains tn.contains) 0 ob && allN tn.contains (inB to.contains tn.contains) 0 nm with
  | false => none
  | true =>
   match mergeM (maskO to 0 ob).length (maskN tn 0 nm).length ((evFK P Γ cf C.lo (C.lv f) C.n f args (maskO to 0 ob) (maskN tn 0 nm)).only (C.wy f args)) with
   | .ok c v ob1 nm1 =>
    match freeKeep (maskO to 0 ob) ob1 && freeKeep (maskN tn 0 nm) nm1 && inB (fun o => to.contains o || Nat.ble ob.length o) (fun n => tn.contains n || Nat.ble nm.length n) [v] &&
     allO (fun o => to.contains o || Nat.ble ob.length o) (inB (fun o => to.contains o || Nat.ble ob.length o) (fun n => tn.contains n || Nat.ble nm.length n)) 0 ob1 &&
     allN (fun n => tn.contains n || Nat.ble nm.length n) (inB (fun o => to.contains o || Nat.ble ob.length o) (fun n => tn.contains n || Nat.ble nm.length n)) 0 nm1 with
    | true => some (outC c v { ro := to, rn := tn, blk := some (restO to 0 ob ob1, restN tn 0 nm nm1), bl := (ob.length, nm.length), ko := to, kn := tn })
    | false => none
   | _ => none
def evY (P : Program) (Γ : Nat → Option V) (cf : CallF) (n : Nat) (tm : List V) (ps : Array Tmp) (as bd : Code) (vs : List V) (ob : Ob) (nm : Nm) : Tr (V × St) :=
 match Nat.beq vs.length ps.size with
 | false => .leaf none
 | true =>
  (evC P Γ cf n as ⟨setPs ps.toList vs tm, ob, nm, ob.length, nm.length⟩).bind fun p =>
   match p.1 with
   | .normal =>
    match p.2.noY with
    | true => (evC P Γ cf n bd p.2).bind fun q => match q.1 with | .normal => .leaf (some (.b true, q.2)) | _ => .leaf none
    | false => .leaf none
   | _ => .leaf none
def callY (P : Program) (Γ : Nat → Option V) (C : Cfg) (cf : CallF) (args : List V) (ob : Ob) (nm : Nm) : Option Out :=
 match args with
 | .yl tm ps as bd :: vs =>
  match P.funcs[yid]? with
  | some _ => none
  | none =>
   match mergeM ob.length nm.length (evY P Γ cf C.n tm ps as bd vs ob nm) with
   | .ok c v ob' nm' => if freeKeep ob ob' && freeKeep nm nm' then some (outC c v { blk := some (ob', nm') }) else none
   | _ => none
 | _ => none
def cfM (P : Program) (Γ : Nat → Option V) (C : Cfg) : Nat → CallF
 | 0, _, _, _, _ => none
 | d + 1, f, args, ob, nm =>
  match Nat.beq f yid with
  | true => callY P Γ C (cfM P Γ C d) args ob nm
  | false =>
   match C.omd f with
   | true => C.om f args ob nm
   | false =>
    match C.mem f with
    | true => callM P Γ C (cfM P Γ C d) f args ob nm
    | false =>
     match V.clnL args with
     | some args' =>
      match callK P Γ C (cfM P Γ C d) f args' with
      | some (c, v) => some (outC c v .pure)
      | none => none
     | none =>
      match V.lndL ob nm args with
      | none => callM P Γ C (cfM P Γ C d) f args ob nm
      | some args' =>
       match callK P Γ C (cfM P Γ C d) f args' with
       | some (c, v) => if v.flt then some (outC c v (.rds (dO ob nm 3 args) (dN ob nm 3 args))) else none
       | none => none
section
variable {P : Program} {Γ : Nat → Option V} {C : Cfg}
theorem evFK_fn {cf : CallF} {lo : LOrc} {lv : List Nat} {n : Nat} {f : FuncId} {args : List V} {ob : Ob} {nm : Nm} {p : V × St} (h : (evFK P Γ cf lo lv n f args ob nm).run = some p) : ∃ fn, P.funcs[f]? = some fn ∧ fn.body.isSome = true ∧ (fn.name == "runtime.NumGoroutine") = false := by
 unfold evFK at h
 cases hf : P.funcs[f]? with
 | none => rw [hf] at h; cases h
 | some fn =>
  rw [hf] at h
  simp only [] at h
  cases hb : fn.body with
  | none => rw [hb] at h; cases h
  | some c =>
   rw [hb] at h
   simp only [] at h
   split at h
   · cases h
   · rename_i hn
     exact ⟨fn, rfl, by rw [hb]; rfl, by simpa using hn⟩
theorem mergeM_fn {k kt : Nat} : ∀ (t : Tr (V × St)) (c : Option Bool) (v : V) (ob' : Ob) (nm' : Nm), mergeM k kt t = .ok c v ob' nm' → c.getD true = true → ∃ p, t.run = some p
 | .leaf none, c, v, ob', nm', h, _ => by cases h
 | .leaf (some p), c, v, ob', nm', h, _ => ⟨p, rfl⟩
 | .br b x y, c, v, ob', nm', h, hc => by
  simp only [mergeM] at h
  cases hmx : mergeM k kt x with
  | bad => rw [hmx] at h; cases h
  | dead =>
   cases hmy : mergeM k kt y with
   | bad => rw [hmx, hmy] at h; cases h
   | dead => rw [hmx, hmy] at h; cases h
   | ok d u o n =>
    rw [hmx, hmy] at h
    cases h
    have hc' : b = false ∧ d.getD true = true := by simpa using hc
    obtain ⟨rfl, hd⟩ := hc'
    exact mergeM_fn y d _ _ _ hmy hd
  | ok d u o n =>
   cases hmy : mergeM k kt y with
   | bad => rw [hmx, hmy] at h; cases h
   | dead =>
    rw [hmx, hmy] at h
    cases h
    have hc' : b = true ∧ d.getD true = true := by simpa using hc
    obtain ⟨rfl, hd⟩ := hc'
    exact mergeM_fn x d _ _ _ hmx hd
   | ok d2 u2 o2 n2 =>
    rw [hmx, hmy] at h
    simp only [MR.mg] at h
    split at h
    · cases h
      have hcc : (bif b then d.getD true else d2.getD true) = true := by
       cases d <;> cases d2 <;> cases b <;> first | rfl | simpa using hc
      cases b
      · exact mergeM_fn y d2 _ _ _ hmy hcc
      · exact mergeM_fn x d _ _ _ hmx hcc
    · cases h
theorem callK_ok (hC : CfgOk P Γ C) {cf : CallF} (hok : CallsOk P Γ cf) (hfit : CallsFit cf) {f : FuncId} {args : List V} {c : Option Bool} {v : V} (h : callK P Γ C cf f args = some (c, v)) (hc : c.getD true = true) :
 SemF P Γ f args [] [] v [] [] ∧ ∃ fn, P.funcs[f]? = some fn ∧ fn.body.isSome = true ∧ (fn.name == "runtime.NumGoroutine") = false := by
 unfold callK at h
 split at h
 · rename_i p hv
   cases h
   exact hC.orc f _ _ _ hv hc
 · split at h
   · rename_i p hv
     cases h
     obtain ⟨g1, g2⟩ := hC.orc f _ _ _ hv hc
     exact ⟨g1.of_sy, g2⟩
   · split at h
     · rename_i c' v' hk
       cases h
       obtain ⟨u, s, u', h1, h2, h3⟩ := mergeT_run _ c v hk hc
       have h1 := Tr.only_run h1
       exact ⟨((evFK_sound hok hfit hC.mixed hC.lo h1).drop h2).weaken h3, evFK_fn h1⟩
     · cases h
theorem freeKeep_len {α : Type} : ∀ {l l' : List (Option α)}, freeKeep l l' = true → l.length ≤ l'.length
 | [], l', h => Nat.zero_le _
 | some a :: xs, y :: ys, h => by simpa using freeKeep_len (l := xs) (by simpa [freeKeep] using h)
 | none :: xs, y :: ys, h => by
  simp only [freeKeep, Bool.and_eq_true] at h
  simpa using freeKeep_len h.2
 | x :: xs, [], h => by cases x <;> simp [freeKeep] at h
theorem inB_ok {po pn : Nat → Bool} {l : List V} (h : inB po pn l = true) : NamesIn (fun o => po o = true) (fun n => pn n = true) l := by
 simp only [inB, Bool.and_eq_true] at h
 exact ⟨fun o ho => List.all_eq_true.1 h.1 o ho, fun n hn => List.all_eq_true.1 h.2 n hn⟩
theorem NamesIn.mono {p q p' q' : Nat → Prop} {l : List V} (h : NamesIn p q l) (hp : ∀ o, p o → p' o) (hq : ∀ n, q n → q' n) : NamesIn p' q' l := ⟨fun o ho => hp o (h.1 o ho), fun n hn => hq n (h.2 n hn)⟩
theorem allO_get {p : Nat → Bool} {q : List V → Bool} : ∀ {i : Nat} {ob : Ob}, allO p q i ob = true → ∀ (j : Nat) (cs : List V), ob[j]? = some (some cs) → p (i + j) = true → q cs = true
 | i, [], _, j, cs, hj, _ => by simp at hj
 | i, none :: r, h, 0, cs, hj, _ => by simp at hj
 | i, none :: r, h, j + 1, cs, hj, hp => allO_get (i := i + 1) (ob := r) (by simpa [allO] using h) j cs (by simpa using hj) (by rw [show i + 1 + j = i + (j + 1) by omega]; exact hp)
 | i, some c :: r, h, 0, cs, hj, hp => by
  simp at hj
  subst hj
  simp only [allO, Bool.and_eq_true, Bool.or_eq_true, Bool.not_eq_true'] at h
  rcases h.1 with h1 | h1
  · rw [Nat.add_zero] at hp; rw [hp] at h1; cases h1
  · exact h1
 | i, some c :: r, h, j + 1, cs, hj, hp => by
  simp only [allO, Bool.and_eq_true] at h
  exact allO_get (i := i + 1) (ob := r) h.2 j cs (by simpa using hj) (by rw [show i + 1 + j = i + (j + 1) by omega]; exact hp)
theorem allN_get {p : Nat → Bool} {q : List V → Bool} : ∀ {i : Nat} {nm : Nm}, allN p q i nm = true → ∀ (j sz : Nat) (xs : List V), nm[j]? = some (some (.live (.cs sz xs))) → p (i + j) = true → q xs = true
 | i, [], _, j, sz, xs, hj, _ => by simp at hj
 | i, c :: r, h, 0, sz, xs, hj, hp => by
  simp at hj
  subst hj
  simp only [allN, Bool.and_eq_true, Bool.or_eq_true, Bool.not_eq_true'] at h
  rcases h.1 with h1 | h1
  · rw [Nat.add_zero] at hp; rw [hp] at h1; cases h1
  · exact h1
 | i, c :: r, h, j + 1, sz, xs, hj, hp => by
  have h2 : allN p q (i + 1) r = true := by
   unfold allN at h
   split at h
   · rename_i e; cases e
   · rename_i e1 e2; cases e2; exact (Bool.and_eq_true _ _ ▸ h : _ ∧ _).2
   · rename_i e2; cases e2; exact h
  exact allN_get (i := i + 1) (nm := r) h2 j sz xs (by simpa using hj) (by rw [show i + 1 + j = i + (j + 1) by omega]; exact hp)
theorem u8_refs (sy : Bool) (E : TypeId) : ∀ (l : List Int), V.refsL (BC.u8 sy E l).els = [] ∧ V.nrefsL (BC.u8 sy E l).els = []
 | [] => ⟨rfl, rfl⟩
 | x :: l => by
  obtain ⟨h1, h2⟩ := u8_refs sy E l
  simp only [BC.els] at h1 h2
  cases sy <;> simp only [BC.els, List.map_cons, V.refsL, V.nrefsL, V.refs, V.nrefs, h1, h2, List.append_nil, and_self]
theorem els_names {p q : Nat → Prop} {c : BC} (h : ∀ sz xs, c = .cs sz xs → NamesIn p q xs) : NamesIn p q c.els := by
 cases c with
 | cs sz xs => exact h sz xs rfl
 | u8 sy E l => exact ⟨(fun o ho => by rw [(u8_refs sy E l).1] at ho; cases ho), (fun o ho => by rw [(u8_refs sy E l).2] at ho; cases ho)⟩
 | arr ty l => exact ⟨(fun o ho => by
  have : V.refsL (l.map ty.val) = [] := (map_refs ty l).1
  rw [show (BC.arr ty l).els = l.map ty.val from rfl, this] at ho; cases ho), (fun o ho => by
  have : V.nrefsL (l.map ty.val) = [] := (map_refs ty l).2
  rw [show (BC.arr ty l).els = l.map ty.val from rfl, this] at ho; cases ho)⟩
theorem okB {to : List Nat} {L o : Nat} : ((to.contains o || Nat.ble L o) = true) ↔ (o ∈ to ∨ L ≤ o) := by
 rw [Bool.or_eq_true, List.contains_iff_mem, Nat.ble_eq]
theorem callM_ok (hC : CfgOk P Γ C) {cf : CallF} (hok : CallsOk P Γ cf) (hfit : CallsFit cf) {f : FuncId} {args : List V} {ob : Ob} {nm : Nm} {out : Out} (h : callM P Γ C cf f args ob nm = some out) :
 EffOk 0 false ob nm out.eff ∧ out.eff.lays = true ∧ (out.chk = true → SemF P Γ f args ob nm out.v (out.eff.ob ob) (out.eff.nm nm) ∧ ∃ fn, P.funcs[f]? = some fn ∧ fn.body.isSome = true ∧ (fn.name == "runtime.NumGoroutine") = false) := by
 unfold callM at h
 simp only [] at h
 generalize dO ob nm 3 args = to at h
 generalize dN ob nm 3 args = tn at h
 split at h
 · cases h
 · rename_i hin
   simp only [Bool.and_eq_true] at hin
   obtain ⟨⟨i1, i2⟩, i3⟩ := hin
   split at h
   · rename_i c v ob1 nm1 hm
     split at h
     · rename_i hk
       simp only [Bool.and_eq_true] at hk
       obtain ⟨⟨⟨⟨k1, k2⟩, k3⟩, k4⟩, k5⟩ := hk
       have l1 : ob.length ≤ ob1.length := by have := freeKeep_len k1; rwa [maskO_len] at this
       have l2 : nm.length ≤ nm1.length := by have := freeKeep_len k2; rwa [maskN_len] at this
       cases h
       refine ⟨?_, ?_, fun hchk => ?_⟩
       · rw [outC_eff]
         refine ⟨(fun p hp => by cases hp), (fun p hp => by cases hp), (fun p hp => by
          cases hp
          refine ⟨fun s hs => ?_, fun s hs => ?_, fun o ho hno => ?_, fun n hn hno => ?_⟩
          · show (restO to 0 ob ob1)[s]? = some none
            rw [restO_get to 0 ob ob1 l1]
            split
            · exact hs
            · exact freeKeep_get k1 s (by rw [maskO_get, hs]; rfl)
          · show (restN tn 0 nm nm1)[s]? = some none
            rw [restN_get tn 0 nm nm1 l2]
            split
            · exact hs
            · exact freeKeep_get k2 s (by rw [maskN_get, hs]; rfl)
          · show (restO to 0 ob ob1)[o]? = ob[o]?
            rw [restO_get to 0 ob ob1 l1, if_pos ⟨ho, by simpa using hno⟩]
          · show (restN tn 0 nm nm1)[n]? = nm[n]?
            rw [restN_get tn 0 nm nm1 l2, if_pos ⟨hn, by simpa using hno⟩])⟩
       · rw [outC_eff]; rfl
       · rw [outC_chk] at hchk
         rw [outC_eff, outC_v]
         obtain ⟨p, hp⟩ := mergeM_fn _ c v ob1 nm1 hm hchk
         have hs : SemF P Γ f args (maskO to 0 ob) (maskN tn 0 nm) v ob1 nm1 := mergeM_ok _ (fun v s hr => evFK_sound hok hfit hC.mixed hC.lo (Tr.only_run hr)) c v ob1 nm1 hm hchk
         refine ⟨hs.mask ((inB_ok i1).mono (fun o ho => by simpa using ho) (fun n hn => by simpa using hn)) (fun o ho cs hcs => ?_) (fun n hn c hc => ?_) l1 l2 ((inB_ok k3).mono (fun o ho => okB.1 ho) (fun n hn => okB.1 hn)) (fun o ho cs hcs => ?_) (fun n hn c hc => ?_), evFK_fn (Tr.only_run hp)⟩
         · exact (inB_ok (allO_get i2 o cs hcs (by simpa using ho))).mono (fun o ho => by simpa using ho) (fun n hn => by simpa using hn)
         · refine els_names fun sz xs e => ?_
           subst e
           exact (inB_ok (allN_get i3 n sz xs hc (by simpa using hn))).mono (fun o ho => by simpa using ho) (fun n hn => by simpa using hn)
         · exact (inB_ok (allO_get k4 o cs hcs (by rw [Nat.zero_add]; exact okB.2 ho))).mono (fun o ho => okB.1 ho) (fun n hn => okB.1 hn)
         · refine els_names fun sz xs e => ?_
           subst e
           exact (inB_ok (allN_get k5 n sz xs hc (by rw [Nat.zero_add]; exact okB.2 hn))).mono (fun o ho => okB.1 ho) (fun n hn => okB.1 hn)
     · cases h
   · cases h
theorem evY_sound {cf : CallF} (hok : CallsOk P Γ cf) (hfit : CallsFit cf) (hm : P.follows .mixedOrders = true) {n : Nat} {tm : List V} {ps : Array Tmp} {as bd : Code} {vs : List V} {ob : Ob} {nm : Nm} {v : V} {s : St} (hf : P.funcs[yid]? = none)
 (h : (evY P Γ cf n tm ps as bd vs ob nm).run = some (v, s)) : SemF P Γ yid (.yl tm ps as bd :: vs) ob nm v s.ob s.nm := by
 unfold evY at h
 split at h
 · cases h
 · rename_i hl
   rw [Tr.run_bind] at h
   cases h1 : (evC P Γ cf n as ⟨setPs ps.toList vs tm, ob, nm, ob.length, nm.length⟩).run with
   | none => rw [h1] at h; cases h
   | some p =>
    obtain ⟨e, x⟩ := p
    rw [h1] at h
    simp only [Option.bind_some] at h
    split at h
    · rename_i he
      split at h
      · rename_i hY
        rw [Tr.run_bind] at h
        cases h2 : (evC P Γ cf n bd x).run with
        | none => rw [h2] at h; cases h
        | some q =>
         obtain ⟨e2, y⟩ := q
         rw [h2] at h
         simp only [Option.bind_some] at h
         split at h
         · rename_i he2
           simp only [Tr.run, Option.some.injEq, Prod.mk.injEq] at h
           obtain ⟨rfl, rfl⟩ := h
           exact SemF.yield hf (Nat.eq_of_beq_eq_true hl) (evC_sound hok hfit hm h1) hY (evC_sound hok hfit hm h2)
         · cases h
      · cases h
    · cases h
theorem callY_ok (hC : CfgOk P Γ C) {cf : CallF} (hok : CallsOk P Γ cf) (hfit : CallsFit cf) {args : List V} {ob : Ob} {nm : Nm} {out : Out} (h : callY P Γ C cf args ob nm = some out) :
 EffOk 0 false ob nm out.eff ∧ out.eff.lays = true ∧ (out.chk = true → SemF P Γ yid args ob nm out.v (out.eff.ob ob) (out.eff.nm nm) ∧ P.funcs[yid]? = none) := by
 unfold callY at h
 split at h
 · split at h
   · cases h
   · rename_i hf
     split at h
     · rename_i c v ob' nm' hm
       split at h
       · rename_i hk
         simp only [Bool.and_eq_true] at hk
         cases h
         refine ⟨?_, ?_, fun hchk => ?_⟩
         · rw [outC_eff]
           exact ⟨(fun p hp => by cases hp), (fun p hp => by cases hp), (fun p hp => by cases hp; exact ⟨freeKeep_get hk.1, freeKeep_get hk.2, (fun o ho => absurd ho (Nat.not_lt_zero _)), (fun o ho => absurd ho (Nat.not_lt_zero _))⟩)⟩
         · rw [outC_eff]; rfl
         · rw [outC_chk] at hchk
           rw [outC_eff, outC_v]
           exact ⟨mergeM_ok _ (fun v s hr => evY_sound hok hfit hC.mixed hf hr) c v ob' nm' hm hchk, hf⟩
       · cases h
     · cases h
 · cases h
theorem cfM_fit (hC : CfgOk P Γ C) : ∀ (d : Nat), CallsOk P Γ (cfM P Γ C d) ∧ CallsFit (cfM P Γ C d)
 | 0 => ⟨(fun f args ob nm out h => by cases h), ⟨(fun f args ob nm out h => by cases h), (fun f args ob nm out h => by cases h)⟩⟩
 | d + 1 => by
  obtain ⟨ihok, ihfit⟩ := cfM_fit hC d
  refine ⟨(fun f args ob nm out h hchk => ?_), ⟨(fun f args ob nm out h => ?_), (fun f args ob nm out h ob' nm' hs => ?_)⟩⟩
  · simp only [cfM] at h
    split at h
    · rename_i hy
      obtain rfl := Nat.eq_of_beq_eq_true hy
      obtain ⟨g1, g2⟩ := (callY_ok hC ihok ihfit h).2.2 hchk
      exact ⟨g1, .inl ⟨rfl, g2⟩⟩
    · rename_i hy
      split at h
      · exact hC.om f args ob nm out h hchk
      · split at h
        · obtain ⟨g1, g2⟩ := (callM_ok hC ihok ihfit h).2.2 hchk
          exact ⟨g1, .inr ⟨beq_ne hy, g2⟩⟩
        · split at h
          · rename_i args' hcl
            split at h
            · rename_i c v hk
              cases h
              rw [outC_chk] at hchk
              obtain ⟨g1, g2⟩ := callK_ok hC ihok ihfit hk hchk
              rw [outC_v, outC_eff]
              exact ⟨g1.frame hcl ob nm, .inr ⟨beq_ne hy, g2⟩⟩
            · cases h
          · split at h
            · obtain ⟨g1, g2⟩ := (callM_ok hC ihok ihfit h).2.2 hchk
              exact ⟨g1, .inr ⟨beq_ne hy, g2⟩⟩
            · rename_i args' hl
              split at h
              · rename_i c v hk
                split at h
                · rename_i hf
                  cases h
                  rw [outC_chk] at hchk
                  obtain ⟨g1, g2⟩ := callK_ok hC ihok ihfit hk hchk
                  rw [outC_v, outC_eff]
                  exact ⟨g1.lend hl hf, .inr ⟨beq_ne hy, g2⟩⟩
                · cases h
              · cases h
  · simp only [cfM] at h
    split at h
    · exact (callY_ok hC ihok ihfit h).1
    · split at h
      · exact hC.fit.eff f args ob nm out h
      · split at h
        · exact (callM_ok hC ihok ihfit h).1
        · split at h
          · split at h
            · cases h; rw [outC_eff]; exact EffOk.none _ _ _ _
            · cases h
          · split at h
            · exact (callM_ok hC ihok ihfit h).1
            · split at h
              · split at h
                · cases h; rw [outC_eff]; exact EffOk.rds _ _ _ _ _ _
                · cases h
              · cases h
  · simp only [cfM] at h ⊢
    split at h
    · have hl := (callY_ok hC ihok ihfit h).2.1
      obtain ⟨rfl, rfl⟩ := hs.2.2 hl
      exact h
    · split at h
      · exact hC.fit.frame f args ob nm out h ob' nm' hs
      · split at h
        · have hl := (callM_ok hC ihok ihfit h).2.1
          obtain ⟨rfl, rfl⟩ := hs.2.2 hl
          exact h
        · split at h
          · exact h
          · split at h
            · have hl := (callM_ok hC ihok ihfit h).2.1
              obtain ⟨rfl, rfl⟩ := hs.2.2 hl
              rename_i hlnd
              rw [hlnd]
              exact h
            · rename_i args' hl
              split at h
              · rename_i c v hk
                split at h
                · rename_i hf
                  cases h
                  rw [outC_eff] at hs
                  obtain ⟨q1, q2, q3⟩ := clL_refs args hs.1 hs.2.1
                  have hl' : V.lndL ob' nm' args = some args' := by
                   rw [← hl]; exact q1.symm
                  simp only [hl', hk, hf, if_true, q2, q3]
                · cases h
              · cases h
theorem SemF.of_evM (hC : CfgOk P Γ C) {lv : List Nat} {n d : Nat} {f : FuncId} {args : List V} {c : Option Bool} {v v' : V} (h : mergeT (evFK P Γ (cfM P Γ C d) C.lo lv n f args [] []) = .ok c v) (hc : c.getD true = true) (hv : v = v') : SemF P Γ f args [] [] v' [] [] := by
 subst hv
 obtain ⟨u, s, u', h1, h2, h3⟩ := mergeT_run _ c v h hc
 exact ((evFK_sound (cfM_fit hC d).1 (cfM_fit hC d).2 hC.mixed hC.lo h1).drop h2).weaken h3
theorem LOrcOk.at (hC : LOrcOk P Γ C.lo) {f : FuncId} {fn : Func} {root : Code} (hf : P.funcs[f]? = some fn) (hb : fn.body = some root) : ∀ i e, C.lo f i = some e → ∀ b, (loops root)[i]? = some b → ∀ kh kt vs ob nm t ex s, e.go kh kt vs ob nm = some t → t.run = some (ex, s) → SemL P Γ b (St.of e.n e.lv vs ob nm kh kt) ex.to s := fun i e he b hb' => by
 obtain ⟨fn', c', b', g1, g2, g3, g4⟩ := hC f i e he
 rw [hf] at g1
 obtain rfl := Option.some.inj g1
 rw [hb] at g2
 obtain rfl := Option.some.inj g2
 rw [hb'] at g3
 obtain rfl := Option.some.inj g3
 exact g4
theorem SemC.of_evM (hC : CfgOk P Γ C) {f : FuncId} {fn : Func} {root : Code} (hf : P.funcs[f]? = some fn) (hb : fn.body = some root) {lv : List Nat} {lv' : Ex → List Nat} {n d i : Nat} {c : Code} (hl : Lies root i c) {x : St} {e : Ex} {vs : List V} {ob : Ob} {nm : Nm} {m kh kt : Nat}
 (h : (outa lv' (evCK P Γ (cfM P Γ C d) (C.lo f) lv n i c x)).run = some (e, vs, ob, nm, m, kh, kt)) : SemC P Γ c x e.to (St.of m (lv' e) vs ob nm kh kt) := by
 obtain ⟨s, po, pn, h1, h2, h3, rfl, rfl⟩ := outa_run h
 exact ((evCK_sound' (cfM_fit hC d).1 (cfM_fit hC d).2 hC.mixed (hC.lo.at hf hb) n i c x e s hl h1).1).ren h3 h2
theorem OrcOk.plain {orc : Orc} (h : OrcOk P Γ orc) (f0 : FuncId) (ts : List Ty) (g : Ty.dens ts → Option Bool × V) (fn : Func) (hf : P.funcs[f0]? = some fn) (hb : fn.body.isSome = true) (hn : (fn.name == "runtime.NumGoroutine") = false)
 (hg : ∀ x : Ty.dens ts, (g x).1.getD true = true → SemF P Γ f0 (Ty.vals ts x) [] [] (g x).2 [] []) : OrcOk P Γ (fun f args => if f = f0 then (Ty.ofVs ts args).map g else orc f args) := by
 intro f args c v hv hc
 simp only at hv
 split at hv
 · rename_i he
   subst he
   rw [Option.map_eq_some_iff] at hv
   obtain ⟨x, hx, hgx⟩ := hv
   have hs := hg x (by rw [hgx]; exact hc)
   rw [hgx] at hs
   exact ⟨hs.args (fun G cv hr => Ty.ofVs_ok hx hr), fn, hf, hb, hn⟩
 · exact h f args c v hv hc
end
end Go.Proofs.Ytofbchcclkejgaa

/- Calls by contracts that speak of a memory of their own: what the arguments lead to, under the names 0, 1, .. -/
set_option linter.unusedVariables false
set_option linter.unusedSimpArgs false
namespace Go.Proofs.Ytofbchcclkejgaa
open Go
abbrev CallT := FuncId → List V → Ob → Nm → Option (Option Bool × V × Ob × Nm)
def CtOk (P : Program) (Γ : Nat → Option V) (T : CallT) : Prop :=
 ∀ f args ob nm c v ob1 nm1, T f args ob nm = some (c, v, ob1, nm1) → c.getD true = true → SemF P Γ f args ob nm v ob1 nm1 ∧ f ≠ yid ∧ ∃ fn, P.funcs[f]? = some fn ∧ fn.body.isSome = true ∧ (fn.name == "runtime.NumGoroutine") = false
def uniq : List Nat → List Nat → List Nat
 | acc, [] => acc.reverse
 | acc, x :: xs => match acc.contains x with | true => uniq acc xs | false => uniq (x :: acc) xs
def backL (to : List Nat) (k x : Nat) : List Nat := (List.range k).map (fun o => match ixOf to o with | some i => i | none => to.length + x + o) ++ (List.range x).map (fun j => to.length + j)
def callC (T : CallT) : CallF := fun f args ob nm =>
 match uniq [] (dO ob nm 3 args), uniq [] (dN ob nm 3 args) with
 | to, tn =>
  match inB to.contains tn.contains args && allO to.contains (inB to.contains tn.contains) 0 ob && allN tn.contains (inB to.contains tn.contains) 0 nm && nodupB to && nodupB tn with
  | false => none
  | true =>
   match V.clL (renP to tn) args, renOb to tn ob to, renNm to tn nm tn with
   | some a, some o, some n =>
    match T f a o n with
    | some (c, v, o1, n1) =>
     match backL to ob.length (o1.length - o.length), backL tn nm.length (n1.length - n.length) with
     | po, pn =>
      match V.clL (renP po pn) [v], renOb po pn o1 po, renNm po pn n1 pn with
      | some [v'], some ob1, some nm1 =>
       match nodupB po && nodupB pn && freeKeep (maskO to 0 ob) ob1 && freeKeep (maskN tn 0 nm) nm1 && inB (fun o => to.contains o || Nat.ble ob.length o) (fun n => tn.contains n || Nat.ble nm.length n) [v'] &&
        allO (fun o => to.contains o || Nat.ble ob.length o) (inB (fun o => to.contains o || Nat.ble ob.length o) (fun n => tn.contains n || Nat.ble nm.length n)) 0 ob1 &&
        allN (fun n => tn.contains n || Nat.ble nm.length n) (inB (fun o => to.contains o || Nat.ble ob.length o) (fun n => tn.contains n || Nat.ble nm.length n)) 0 nm1 with
       | true => some (outC c v' { ro := to, rn := tn, blk := some (restO to 0 ob ob1, restN tn 0 nm nm1), bl := (ob.length, nm.length), ko := to, kn := tn })
       | false => none
      | _, _, _ => none
    | none => none
   | _, _, _ => none
theorem ixOf_mem : ∀ {l : List Nat} {o : Nat}, o ∈ l → ∃ i, ixOf l o = some i
 | x :: xs, o, h => by
  simp only [ixOf]
  by_cases e : x = o
  · exact ⟨0, by rw [if_pos e]⟩
  · obtain ⟨i, hi⟩ := ixOf_mem (l := xs) (by rcases List.mem_cons.1 h with h | h; exact absurd h.symm e; exact h)
    exact ⟨i + 1, by rw [if_neg e, hi]⟩
theorem backL_get {to : List Nat} {k x o i : Nat} (ho : o < k) (hi : ixOf to o = some i) : (backL to k x)[o]? = some i := by
 unfold backL
 rw [List.getElem?_append_left (by simpa using ho), List.getElem?_map, List.getElem?_range ho]
 simp [hi]
theorem renOb_congr {po pn : List Nat} {ob ob' : Ob} : ∀ {l : List Nat}, (∀ o ∈ l, ob[o]? = ob'[o]?) → renOb po pn ob l = renOb po pn ob' l
 | [], _ => rfl
 | o :: r, h => by
  simp only [renOb]
  rw [renOb_congr (l := r) fun x hx => h x (List.mem_cons_of_mem _ hx), h o (List.mem_cons_self ..)]
theorem renNm_congr {po pn : List Nat} {nm nm' : Nm} : ∀ {l : List Nat}, (∀ o ∈ l, nm[o]? = nm'[o]?) → renNm po pn nm l = renNm po pn nm' l
 | [], _ => rfl
 | o :: r, h => by
  simp only [renNm]
  rw [renNm_congr (l := r) fun x hx => h x (List.mem_cons_of_mem _ hx), h o (List.mem_cons_self ..)]
theorem maskO_in {to : List Nat} {ob : Ob} {o : Nat} (h : o ∈ to) : (maskO to 0 ob)[o]? = ob[o]? := by
 rw [maskO_get]
 cases hc : ob[o]? with
 | none => rfl
 | some c => cases c with | none => rfl | some d => simp [h]
theorem maskN_in {tn : List Nat} {nm : Nm} {o : Nat} (h : o ∈ tn) : (maskN tn 0 nm)[o]? = nm[o]? := by
 rw [maskN_get]
 cases hc : nm[o]? with
 | none => rfl
 | some c => cases c with | none => rfl | some d => simp [h]
section
variable {P : Program} {Γ : Nat → Option V}
theorem SemF.backR {f : FuncId} {args a : List V} {ob o o1 ob1 : Ob} {nm n n1 nm1 : Nm} {v v' : V} {to tn : List Nat} {x y : Nat} (h : SemF P Γ f a o n v o1 n1)
 (e1 : V.clL (renP to tn) args = some a) (e2 : renOb to tn ob to = some o) (e3 : renNm to tn nm tn = some n) (d1 : nodupB to = true) (d2 : nodupB tn = true)
 (f1 : V.clL (renP (backL to ob.length x) (backL tn nm.length y)) [v] = some [v']) (f2 : renOb (backL to ob.length x) (backL tn nm.length y) o1 (backL to ob.length x) = some ob1) (f3 : renNm (backL to ob.length x) (backL tn nm.length y) n1 (backL tn nm.length y) = some nm1)
 (d3 : nodupB (backL to ob.length x) = true) (d4 : nodupB (backL tn nm.length y) = true) :
 ∀ (G : Gh) (w : World) (cargs : List Value), (∀ o, o ∉ to → G.H o = none) → (∀ n, n ∉ tn → G.T n = none) → WRel Γ G (maskO to 0 ob) (maskN tn 0 nm) w → Rels G args cargs →
  CallsX P f cargs.toArray w fun e w' => ∃ cv G', e = .returned cv ∧ G.le G' ∧ VRel G' v' cv ∧ WRel Γ G' ob1 nm1 w' := by
 intro G w cargs gH gT hw hr
 have e2' : renOb to tn (maskO to 0 ob) to = some o := (renOb_congr fun x hx => maskO_in hx).trans e2
 have e3' : renNm to tn (maskN tn 0 nm) tn = some n := (renNm_congr fun x hx => maskN_in hx).trans e3
 have hwc := hw.ren e2' e3' d1 d2
 have hrc : Rels (G.ren to tn) a cargs := Rels.cl (G := G) (G' := G.ren to tn) (renP_cell to tn) (fun _ _ _ h => h) (renP_rel to tn) hr e1
 refine (h (G.ren to tn) w cargs hwc hrc).mono ?_
 rintro e w' ⟨cv, G1, rfl, hle, hv, hw1⟩
 have hvl : Rels G1 [v] [cv] := Rels.cons hv (Rels.nil _)
 have hvr : Rels (G1.ren (backL to ob.length x) (backL tn nm.length y)) [v'] [cv] := Rels.cl (G := G1) (G' := G1.ren (backL to ob.length x) (backL tn nm.length y)) (renP_cell _ _) (fun _ _ _ h => h) (renP_rel _ _) hvl f1
 refine ⟨cv, G1.ren (backL to ob.length x) (backL tn nm.length y), rfl, ⟨⟨hle.m, fun q b hh => ?_, fun q z hh => ?_, hle.d⟩, hle.kh, hle.kt, hle.w0, hle.m0, hle.kd⟩, hvr.2 0 v' cv rfl rfl, hw1.ren f2 f3 d3 d4⟩
 · have hq : q ∈ to := Classical.byContradiction fun hq => by rw [gH q hq] at hh; cases hh
   obtain ⟨i, hi⟩ := ixOf_mem hq
   have hl := (hw.hlt q b hh).1
   rw [maskO_len] at hl
   show ((backL to ob.length x)[q]?).bind G1.H = some b
   rw [backL_get hl hi]
   exact hle.h i b (by show (to[i]?).bind G.H = some b; rw [ixOf_get hi]; exact hh)
 · have hq : q ∈ tn := Classical.byContradiction fun hq => by rw [gT q hq] at hh; cases hh
   obtain ⟨i, hi⟩ := ixOf_mem hq
   have hl := hw.tlt q z hh
   rw [maskN_len] at hl
   show ((backL tn nm.length y)[q]?).bind G1.T = some z
   rw [backL_get hl hi]
   exact hle.t i z (by show (tn[i]?).bind G.T = some z; rw [ixOf_get hi]; exact hh)
theorem callC_ok {T : CallT} (hT : CtOk P Γ T) {f : FuncId} {args : List V} {ob : Ob} {nm : Nm} {out : Out} (h : callC T f args ob nm = some out) :
 EffOk 0 false ob nm out.eff ∧ out.eff.lays = true ∧ (out.chk = true → SemF P Γ f args ob nm out.v (out.eff.ob ob) (out.eff.nm nm) ∧ f ≠ yid ∧ ∃ fn, P.funcs[f]? = some fn ∧ fn.body.isSome = true ∧ (fn.name == "runtime.NumGoroutine") = false) := by
 unfold callC at h
 simp only [] at h
 generalize uniq [] (dO ob nm 3 args) = to at h
 generalize uniq [] (dN ob nm 3 args) = tn at h
 split at h
 · cases h
 · rename_i hin
   simp only [Bool.and_eq_true] at hin
   obtain ⟨⟨⟨⟨i1, i2⟩, i3⟩, d1⟩, d2⟩ := hin
   split at h
   · rename_i a o n e1 e2 e3
     split at h
     · rename_i c v o1 n1 ht
       split at h
       · rename_i v' ob1 nm1 f1 f2 f3
         split at h
         · rename_i hk
           simp only [Bool.and_eq_true] at hk
           obtain ⟨⟨⟨⟨⟨⟨d3, d4⟩, k1⟩, k2⟩, k3⟩, k4⟩, k5⟩ := hk
           have l1 : ob.length ≤ ob1.length := by have := freeKeep_len k1; rwa [maskO_len] at this
           have l2 : nm.length ≤ nm1.length := by have := freeKeep_len k2; rwa [maskN_len] at this
           cases h
           refine ⟨?_, ?_, fun hchk => ?_⟩
           · rw [outC_eff]
             refine ⟨(fun p hp => by cases hp), (fun p hp => by cases hp), (fun p hp => by
              cases hp
              refine ⟨fun s hs => ?_, fun s hs => ?_, fun o ho hno => ?_, fun n hn hno => ?_⟩
              · show (restO to 0 ob ob1)[s]? = some none
                rw [restO_get to 0 ob ob1 l1]
                split
                · exact hs
                · exact freeKeep_get k1 s (by rw [maskO_get, hs]; rfl)
              · show (restN tn 0 nm nm1)[s]? = some none
                rw [restN_get tn 0 nm nm1 l2]
                split
                · exact hs
                · exact freeKeep_get k2 s (by rw [maskN_get, hs]; rfl)
              · show (restO to 0 ob ob1)[o]? = ob[o]?
                rw [restO_get to 0 ob ob1 l1, if_pos ⟨ho, by simpa using hno⟩]
              · show (restN tn 0 nm nm1)[n]? = nm[n]?
                rw [restN_get tn 0 nm nm1 l2, if_pos ⟨hn, by simpa using hno⟩])⟩
           · rw [outC_eff]; rfl
           · rw [outC_chk] at hchk
             rw [outC_eff, outC_v]
             obtain ⟨hs, hfn⟩ := hT f a o n c v o1 n1 ht hchk
             refine ⟨SemF.maskR (SemF.backR hs e1 e2 e3 d1 d2 f1 f2 f3 d3 d4) ((inB_ok i1).mono (fun o ho => by simpa using ho) (fun n hn => by simpa using hn)) (fun o ho cs hcs => ?_) (fun n hn c hc => ?_) l1 l2 ((inB_ok k3).mono (fun o ho => okB.1 ho) (fun n hn => okB.1 hn)) (fun o ho cs hcs => ?_) (fun n hn c hc => ?_), hfn⟩
             · exact (inB_ok (allO_get i2 o cs hcs (by simpa using ho))).mono (fun o ho => by simpa using ho) (fun n hn => by simpa using hn)
             · refine els_names fun sz xs e => ?_
               subst e
               exact (inB_ok (allN_get i3 n sz xs hc (by simpa using hn))).mono (fun o ho => by simpa using ho) (fun n hn => by simpa using hn)
             · exact (inB_ok (allO_get k4 o cs hcs (by rw [Nat.zero_add]; exact okB.2 ho))).mono (fun o ho => okB.1 ho) (fun n hn => okB.1 hn)
             · refine els_names fun sz xs e => ?_
               subst e
               exact (inB_ok (allN_get k5 n sz xs hc (by rw [Nat.zero_add]; exact okB.2 hn))).mono (fun o ho => okB.1 ho) (fun n hn => okB.1 hn)
         · cases h
       · cases h
     · cases h
   · cases h
theorem callC_calls {T : CallT} (hT : CtOk P Γ T) : CallsOk P Γ (callC T) := fun f args ob nm out h hchk => by
 obtain ⟨g1, g2⟩ := (callC_ok hT h).2.2 hchk
 exact ⟨g1, .inr g2⟩
theorem callC_fit {T : CallT} (hT : CtOk P Γ T) : CallsFit (callC T) where
 eff := fun f args ob nm out h => (callC_ok hT h).1
 frame := fun f args ob nm out h ob' nm' hs => by
  obtain ⟨rfl, rfl⟩ := hs.2.2 (callC_ok hT h).2.1
  exact h
end
end Go.Proofs.Ytofbchcclkejgaa

/- Loops by patterns: what is read off the state at a loop's head, and the loop's entry; loops that count. -/
set_option linter.unusedVariables false
set_option linter.unusedSimpArgs false
namespace Go.Proofs.Ytofbchcclkejgaa
open Go
inductive SP where
 | ty (t : Ty) | bs (n : Nat) | bz (n : Nat) | ptr (o off : Nat) | pel (t : Ty) | pea (l : List SP) | nil | nl | cb (b : Bool) | ci (n : Int) | fn (f : FuncId) (cap : List SP) | any | yv
mutual
def SP.den : SP → Type
 | .ty t => t.den
 | .bs _ => Nat × Nat
 | .bz _ => Nat
 | .ptr _ _ => Unit
 | .pel t => t.den
 | .pea l => SP.dens l
 | .nil => Unit
 | .nl => Unit
 | .cb _ => Unit
 | .ci _ => Unit
 | .fn _ cap => SP.dens cap
 | .any => Unit
 | .yv => Nat
def SP.dens : List SP → Type
 | [] => Unit
 | p :: ps => p.den × SP.dens ps
end
mutual
def SP.val : (p : SP) → p.den → V
 | .ty t, x => t.val x
 | .bs n, x => .bs true n (show Nat × Nat from x).1 (show Nat × Nat from x).2
 | .bz n, l => .bs true n 0 l
 | .ptr o off, _ => .ptr o off
 | .pel t, x => .pel [t.val x] 0 0
 | .pea l, x => .pel [.agg (SP.vals l x)] 0 0
 | .nil, _ => .nil
 | .nl, _ => .lst .full []
 | .cb b, _ => .b b
 | .ci n, _ => .i .i64 n
 | .fn f cap, x => .fn (.func f) [] (SP.vals cap x)
 | .any, _ => .any
 | .yv, l => .fn (.yield l) [] []
def SP.vals : (ps : List SP) → SP.dens ps → List V
 | [], _ => []
 | p :: ps, x => p.val x.1 :: SP.vals ps x.2
end
mutual
def SP.rd : (p : SP) → V → Option p.den
 | .ty t, v => t.ofV v
 | .bs n, v => match v with | .bs _ m o l => (match Nat.beq m n with | true => some (show Nat × Nat from (o, l)) | false => none) | _ => none
 | .bz n, v => match v with | .bs _ m o l => (match Nat.beq m n && Nat.beq o 0 with | true => some (show Nat from l) | false => none) | _ => none
 | .ptr o off, v => match v with | .ptr o' off' => (match Nat.beq o' o && Nat.beq off' off with | true => some () | false => none) | _ => none
 | .pel t, v => match v with | .pel [u] 0 0 => (match t.ofV u with | some x => some (show t.den from x) | none => none) | _ => none
 | .pea l, v => match v with | .pel [.agg cs] 0 0 => (match SP.rds l cs with | some x => some (show SP.dens l from x) | none => none) | _ => none
 | .nil, v => match v with | .nil => some () | _ => none
 | .nl, v => match v with | .lst .full [] => some () | _ => none
 | .cb b, v => match v with | .b c => (match c == b with | true => some () | false => none) | _ => none
 | .ci n, v => match v with | .i .i64 k => (match decide (k = n) with | true => some () | false => none) | _ => none
 | .fn f cap, v => match v with | .fn (.func g) [] cs => (match Nat.beq g f with | true => (match SP.rds cap cs with | some x => some (show SP.dens cap from x) | none => none) | false => none) | _ => none
 | .any, _ => some ()
 | .yv, v => match v with | .fn (.yield l) [] [] => some (show Nat from l) | _ => none
def SP.rds : (ps : List SP) → List V → Option (SP.dens ps)
 | [], vs => match vs with | [] => some () | _ => none
 | p :: ps, vs => match vs with | v :: vs => (match p.rd v with | some x => (match SP.rds ps vs with | some y => some (show p.den × SP.dens ps from (x, y)) | none => none) | none => none) | [] => none
end
theorem VRel.bs_sy {G : Gh} {sy sy' : Bool} {n off len : Nat} {cv : Value} (h : VRel G (.bs sy n off len) cv) : VRel G (.bs sy' n off len) cv := by
 cases h with
 | bs0 => exact .bs0 _ _ _
 | bs1 => exact .bs1 _ _ _ _
 | bs h hl => exact .bs h hl
theorem Ty.ofV_cells {t : Ty} {u : V} {y : t.den} (h : t.ofV u = some y) {G : Gh} : (t.val y).cells.length = u.cells.length ∧ ∀ cvs, Rels G u.cells cvs → Rels G (t.val y).cells cvs := by
 unfold Ty.ofV at h
 split at h
 · obtain ⟨h1, h2⟩ := whole_ok (Ty.ofC_ok t) h
   have e : (t.val y).cells = t.cells y := by cases t <;> rfl
   rw [e, Ty.cells_len, h1]
   exact ⟨rfl, h2 G⟩
 · cases h
theorem VRel.pel_imp {G : Gh} {u v : V} {cv : Value} (hs : v.cells.length = u.cells.length) (hf : ∀ cvs, Rels G u.cells cvs → Rels G v.cells cvs) (h : VRel G (.pel [u] 0 0) cv) : VRel G (.pel [v] 0 0) cv := by
 cases h with
 | @pel _ _ _ b o0 sz cvs h1 h2 h3 h4 =>
  have e1 : flat [u] = u.cells := by simp [flat]
  have e2 : flat [v] = v.cells := by simp [flat]
  rw [e1] at h2 h4
  have hr := hf cvs ⟨h2, h4⟩
  refine .pel (fun x hx => ?_) ?_ h3 ?_
  · simp at hx; subst hx; rw [hs]; exact h1 u (by simp)
  · rw [e2]; exact hr.1
  · rw [e2]; exact hr.2
mutual
theorem SP.rd_ok : ∀ {p : SP} {v : V} {x : p.den}, p.rd v = some x → ∀ {G : Gh} {cv : Value}, VRel G v cv → VRel G (p.val x) cv
 | .ty t, v, x, h, G, cv, hr => Ty.ofV_ok h hr
 | .bs n, v, x, h, G, cv, hr => by
  simp only [SP.rd] at h
  split at h
  · split at h
    · rename_i e
      obtain rfl := Nat.eq_of_beq_eq_true e
      cases h
      exact hr.bs_sy
    · cases h
  · cases h
 | .bz n, v, x, h, G, cv, hr => by
  simp only [SP.rd] at h
  split at h
  · split at h
    · rename_i e
      rw [Bool.and_eq_true] at e
      obtain rfl := Nat.eq_of_beq_eq_true e.1
      have e2 := Nat.eq_of_beq_eq_true e.2
      cases h
      rw [e2] at hr
      exact hr.bs_sy
    · cases h
  · cases h
 | .ptr o off, v, x, h, G, cv, hr => by
  simp only [SP.rd] at h
  split at h
  · split at h
    · rename_i e
      rw [Bool.and_eq_true] at e
      obtain rfl := Nat.eq_of_beq_eq_true e.1
      obtain rfl := Nat.eq_of_beq_eq_true e.2
      cases h
      exact hr
    · cases h
  · cases h
 | .pel t, v, x, h, G, cv, hr => by
  simp only [SP.rd] at h
  split at h
  · split at h
    · rename_i y hy
      have hc := fun G => Ty.ofV_cells hy (G := G)
      obtain rfl : y = x := Option.some.inj h
      exact hr.pel_imp (hc G).1 (hc G).2
    · cases h
  · cases h
 | .pea l, v, x, h, G, cv, hr => by
  simp only [SP.rd] at h
  split at h
  · rename_i cs
    split at h
    · rename_i y hy
      obtain rfl : y = x := Option.some.inj h
      have hk := SP.rds_ok hy
      refine hr.pel_imp (u := .agg cs) (v := .agg (SP.vals l y)) hk.1 (fun cvs hc => ⟨hc.1.trans hk.1.symm, fun j u cv hu hcv => ?_⟩)
      have hlt : j < cs.length := by
       have : j < cvs.length := by
        rcases Nat.lt_or_ge j cvs.length with h | h
        · exact h
        · rw [List.getElem?_eq_none h] at hcv; cases hcv
       rwa [show cvs.length = cs.length from hc.1] at this
      exact hk.2 G j _ u (List.getElem?_eq_getElem hlt) hu cv (hc.2 j _ cv (List.getElem?_eq_getElem hlt) hcv)
    · cases h
  · cases h
 | .nil, v, x, h, G, cv, hr => by
  simp only [SP.rd] at h
  split at h
  · exact hr
  · cases h
 | .cb b, v, x, h, G, cv, hr => by
  simp only [SP.rd] at h
  split at h
  · split at h
    · rename_i e
      obtain rfl := eq_of_beq e
      exact hr
    · cases h
  · cases h
 | .ci n, v, x, h, G, cv, hr => by
  simp only [SP.rd] at h
  split at h
  · split at h
    · rename_i e
      obtain rfl := of_decide_eq_true e
      exact hr
    · cases h
  · cases h
 | .nl, v, x, h, G, cv, hr => by
  simp only [SP.rd] at h
  split at h
  · exact hr
  · cases h
 | .fn f cap, v, x, h, G, cv, hr => by
  simp only [SP.rd] at h
  split at h
  · split at h
    · rename_i e
      obtain rfl := Nat.eq_of_beq_eq_true e
      split at h
      · rename_i y hy
        cases h
        cases hr with
        | @fn _ _ _ a c ha hc h1 h2 =>
         have hk := SP.rds_ok hy
         refine .fn ha (hc.trans hk.1.symm) h1 (fun j u cv hu hcv => ?_)
         have hlt : j < c.toList.length := by
          rcases Nat.lt_or_ge j c.size with h | h
          · simpa using h
          · rw [Array.getElem?_eq_none h] at hcv; cases hcv
         rw [Array.length_toList, hc] at hlt
         exact hk.2 G j _ u (List.getElem?_eq_getElem hlt) hu cv (h2 j _ cv (List.getElem?_eq_getElem hlt) hcv)
      · cases h
    · cases h
  · cases h
 | .any, v, x, h, G, cv, hr => .any _
 | .yv, v, x, h, G, cv, hr => by
  simp only [SP.rd] at h
  split at h
  · cases h
    exact hr
  · cases h
theorem SP.rds_ok : ∀ {ps : List SP} {vs : List V} {x : SP.dens ps}, SP.rds ps vs = some x → (SP.vals ps x).length = vs.length ∧ ∀ (G : Gh) (j : Nat) (v v' : V), vs[j]? = some v → (SP.vals ps x)[j]? = some v' → ∀ cv, VRel G v cv → VRel G v' cv
 | [], vs, x, h => by
  simp only [SP.rds] at h
  split at h
  · exact ⟨rfl, fun G j v v' h => by simp at h⟩
  · cases h
 | p :: ps, vs, x, h => by
  simp only [SP.rds] at h
  split at h
  · split at h
    · rename_i v vs a ha
      split at h
      · rename_i b hb
        cases h
        obtain ⟨h1, h2⟩ := SP.rds_ok hb
        refine ⟨by simp [SP.vals, h1], fun G j u u' hu hu' cv hr => ?_⟩
        cases j with
        | zero =>
         simp [SP.vals] at hu hu'
         subst hu; subst hu'
         exact SP.rd_ok ha hr
        | succ j => exact h2 G j u u' (by simpa using hu) (by simpa [SP.vals] using hu') cv hr
      · cases h
    · cases h
  · cases h
end
inductive OP where
 | keep | cells (l : List SP) | fre
def OP.den : OP → Type
 | .keep => Option (List V)
 | .cells l => SP.dens l
 | .fre => Unit
def OP.val : (p : OP) → p.den → Option (List V)
 | .keep, x => x
 | .cells l, x => some (SP.vals l x)
 | .fre, _ => none
def OP.rd : (p : OP) → Option (List V) → Option p.den
 | .keep, x => some x
 | .cells l, x => match x with | some cs => SP.rds l cs | none => none
 | .fre, x => match x with | some _ => none | none => some ()
def OP.dens : List OP → Type
 | [] => Unit
 | p :: ps => p.den × OP.dens ps
def OP.vals : (ps : List OP) → OP.dens ps → Ob
 | [], _ => []
 | p :: ps, x => p.val x.1 :: OP.vals ps x.2
def OP.rds : (ps : List OP) → Ob → Option (OP.dens ps)
 | [], [] => some ()
 | p :: ps, v :: vs => match p.rd v with | some x => (match OP.rds ps vs with | some y => some (x, y) | none => none) | none => none
 | _, _ => none
theorem OP.rds_ok : ∀ {ps : List OP} {ob : Ob} {x : OP.dens ps}, OP.rds ps ob = some x → (OP.vals ps x).length = ob.length ∧
 (∀ (o : Nat) (cs' : List V), (OP.vals ps x)[o]? = some (some cs') → ∃ cs, ob[o]? = some (some cs) ∧ cs'.length = cs.length ∧ ∀ (j : Nat) (x' : V), cs'[j]? = some x' → ∃ x, cs[j]? = some x ∧ ∀ (G : Gh) (cv : Value), VRel G x cv → VRel G x' cv) ∧
 ∀ o : Nat, (OP.vals ps x)[o]? = some none → ob[o]? = some none
 | [], [], _, _ => ⟨rfl, fun o cs h => by simp [OP.vals] at h, fun o h => by simp [OP.vals] at h⟩
 | [], _ :: _, _, h => by cases h
 | _ :: _, [], _, h => by cases h
 | p :: ps, v :: vs, x, h => by
  simp only [OP.rds] at h
  split at h
  · rename_i a ha
    split at h
    · rename_i b hb
      cases h
      obtain ⟨h1, h2, h3⟩ := OP.rds_ok hb
      refine ⟨by simp [OP.vals, h1], fun o cs' ho => ?_, fun o ho => ?_⟩
      · cases o with
        | zero =>
         simp only [OP.vals, List.getElem?_cons_zero, Option.some.injEq] at ho
         cases p with
         | keep =>
          cases ha
          have ho : v = some cs' := ho
          subst ho
          exact ⟨cs', rfl, rfl, fun j x' hx => ⟨x', hx, fun _ _ h => h⟩⟩
         | cells l =>
          simp only [OP.rd] at ha
          split at ha
          · rename_i cs
            have ho : some (SP.vals l a) = some cs' := ho
            cases ho
            obtain ⟨k1, k2⟩ := SP.rds_ok ha
            refine ⟨cs, rfl, k1, fun j x' hx => ?_⟩
            have hlt : j < cs.length := by
             rw [← k1]
             rcases Nat.lt_or_ge j (SP.vals l a).length with h | h
             · exact h
             · rw [List.getElem?_eq_none h] at hx; cases hx
            exact ⟨cs[j], List.getElem?_eq_getElem hlt, fun G cv hr => k2 G j _ _ (List.getElem?_eq_getElem hlt) hx cv hr⟩
          · cases ha
         | fre => cases ho
        | succ o => exact h2 o cs' (by simpa [OP.vals] using ho)
      · cases o with
        | zero =>
         simp only [OP.vals, List.getElem?_cons_zero, Option.some.injEq] at ho
         cases p with
         | keep => cases ha; have ho : v = none := ho; subst ho; rfl
         | cells l => cases ho
         | fre =>
          simp only [OP.rd] at ha
          split at ha
          · cases ha
          · rfl
        | succ o => exact h3 o (by simpa [OP.vals] using ho)
    · cases h
  · cases h
inductive BP where
 | keep | arr (t : Ty) | dead | fre
def BP.den : BP → Type
 | .keep => Option Bf
 | .arr t => List t.den
 | .dead => Unit
 | .fre => Unit
def BP.val : (p : BP) → p.den → Option Bf
 | .keep, x => x
 | .arr t, l => some (.live (.arr t l))
 | .dead, _ => some .dead
 | .fre, _ => none
def BP.rd : (p : BP) → Option Bf → Option p.den
 | .keep, x => some x
 | .arr t, x => match x with | some (.live c) => c.as t | _ => none
 | .dead, x => match x with | some _ => some () | none => none
 | .fre, x => match x with | some _ => none | none => some ()
def BP.dens : List BP → Type
 | [] => Unit
 | p :: ps => p.den × BP.dens ps
def BP.vals : (ps : List BP) → BP.dens ps → Nm
 | [], _ => []
 | p :: ps, x => p.val x.1 :: BP.vals ps x.2
def BP.rds : (ps : List BP) → Nm → Option (BP.dens ps)
 | [], [] => some ()
 | p :: ps, v :: vs => match p.rd v with | some x => (match BP.rds ps vs with | some y => some (x, y) | none => none) | none => none
 | _, _ => none
theorem BP.rd_ok {p : BP} {v : Option Bf} {a : p.den} (h : p.rd v = some a) : (∀ c', p.val a = some (.live c') → ∃ c, v = some (.live c) ∧ BCw c c') ∧ (p.val a = none → v = none) := by
 cases p with
 | keep =>
  have h : v = a := Option.some.inj h
  subst h
  exact ⟨fun c' e => ⟨c', e, .refl _⟩, fun e => e⟩
 | arr t =>
  match v, h with
  | some (.live c), h =>
   have h : c.as t = some a := h
   exact ⟨fun c' e => ⟨c, rfl, by have e : Bf.live (.arr t a) = .live c' := Option.some.inj e; injection e with e; subst e; exact BC.as_w h⟩, fun e => nomatch (show some (Bf.live (.arr t a)) = none from e)⟩
 | dead => exact ⟨fun c' e => (nomatch (show some Bf.dead = some (.live c') from e)), fun e => nomatch (show some Bf.dead = none from e)⟩
 | fre =>
  refine ⟨fun c' e => (nomatch (show (none : Option Bf) = some (.live c') from e)), fun _ => ?_⟩
  match v, h with
  | none, _ => rfl
theorem BP.rds_ok : ∀ {ps : List BP} {nm : Nm} {x : BP.dens ps}, BP.rds ps nm = some x → (BP.vals ps x).length = nm.length ∧
 (∀ (n : Nat) (c' : BC), (BP.vals ps x)[n]? = some (some (.live c')) → ∃ c, nm[n]? = some (some (.live c)) ∧ BCw c c') ∧ ∀ n : Nat, (BP.vals ps x)[n]? = some none → nm[n]? = some none
 | [], [], _, _ => ⟨rfl, fun o cs h => by simp [BP.vals] at h, fun o h => by simp [BP.vals] at h⟩
 | [], _ :: _, _, h => by cases h
 | _ :: _, [], _, h => by cases h
 | p :: ps, v :: vs, (x, y), h => by
  simp only [BP.rds] at h
  split at h
  · rename_i a ha
    split at h
    · rename_i b hb
      have h := Option.some.inj h
      obtain rfl : a = x := congrArg Prod.fst h
      obtain rfl : b = y := congrArg Prod.snd h
      obtain ⟨h1, h2, h3⟩ := BP.rds_ok hb
      obtain ⟨k1, k2⟩ := BP.rd_ok ha
      refine ⟨congrArg (· + 1) h1, fun o cs' ho => ?_, fun o ho => ?_⟩
      · cases o with
        | zero =>
         obtain ⟨c, e, w⟩ := k1 cs' (Option.some.inj ho)
         exact ⟨c, congrArg some e, w⟩
        | succ o => exact h2 o cs' ho
      · cases o with
        | zero => exact congrArg some (k2 (Option.some.inj ho))
        | succ o => exact h3 o ho
    · cases h
  · cases h
structure HP where
 n : Nat
 lv : List Nat
 sp : List SP
 op : List OP
 bp : List BP
 bv : List (Nat × Ty) := []
 bo : List (Nat × Nat × Ty) := []
 kh : Nat := 0
 kt : Nat := 0
structure HP.den (h : HP) where
 s : SP.dens h.sp
 o : OP.dens h.op
 b : BP.dens h.bp
def HP.st (h : HP) (x : h.den) : St := St.of h.n h.lv (SP.vals h.sp x.s) (OP.vals h.op x.o) (BP.vals h.bp x.b) h.kh h.kt
def birthsV : List (Nat × Ty) → List V → Nm → List V × Nm
 | [], vs, nm => (vs, nm)
 | (k, t) :: r, vs, nm => match vs[k]? with | some (.lst .full []) => birthsV r (vs.set k (.bs true nm.length 0 0)) (nm ++ [some (.live (.arr t []))]) | _ => birthsV r vs nm
def birthsO : List (Nat × Nat × Ty) → Ob → Nm → Ob × Nm
 | [], ob, nm => (ob, nm)
 | (o, k, t) :: r, ob, nm =>
  match ob[o]? with
  | some (some cs) => (match cs[k]? with | some (.lst .full []) => birthsO r (ob.set o (some (cs.set k (.bs true nm.length 0 0)))) (nm ++ [some (.live (.arr t []))]) | _ => birthsO r ob nm)
  | _ => birthsO r ob nm
def HP.rd1 (h : HP) (vs : List V) (ob : Ob) (nm : Nm) : Option h.den :=
 match SP.rds h.sp vs with
 | some s => (match OP.rds h.op ob with | some o => (match BP.rds h.bp nm with | some b => some ⟨s, o, b⟩ | none => none) | none => none)
 | none => none
def HP.rd2 (h : HP) (vs : List V) (ob : Ob) (nm : Nm) : Option h.den :=
 match (St.of h.n h.lv vs ob nm h.kh h.kt).ren ((St.of h.n h.lv vs ob nm h.kh h.kt).autoN h.lv).1 ((St.of h.n h.lv vs ob nm h.kh h.kt).autoN h.lv).2 h.lv with
 | some r => h.rd1 r.1 r.2.1 r.2.2
 | none => none
def HP.rd (h : HP) (kh kt : Nat) (vs : List V) (ob : Ob) (nm : Nm) : Option h.den :=
 match Nat.beq kh h.kh && Nat.beq kt h.kt && Nat.beq vs.length h.lv.length && nodupB h.lv with
 | false => none
 | true =>
  match h.bv.isEmpty && h.bo.isEmpty with
  | true => h.rd1 vs ob nm
  | false =>
   match birthsV h.bv vs nm with
   | (vs1, nm1) => match birthsO h.bo ob nm1 with | (ob1, nm2) => h.rd2 vs1 ob1 nm2
section
variable {P : Program} {Γ : Nat → Option V}
theorem setVs_imp' {G : Gh} : ∀ (lv : List Nat) (vs vs' l l' : List V), vs.length = vs'.length → (∀ (j : Nat) v v', vs[j]? = some v → vs'[j]? = some v' → ∀ cv, VRel G v cv → VRel G v' cv) → l.length = l'.length → (∀ (j : Nat) v v', l[j]? = some v → l'[j]? = some v' → ∀ cv, VRel G v cv → VRel G v' cv) →
 (setVs lv vs l).length = (setVs lv vs' l').length ∧ ∀ (j : Nat) v v', (setVs lv vs l)[j]? = some v → (setVs lv vs' l')[j]? = some v' → ∀ cv, VRel G v cv → VRel G v' cv
 | [], vs, vs', l, l', _, _, h3, h4 => by simpa [setVs] using ⟨h3, h4⟩
 | d :: ds, [], vs', l, l', h1, _, h3, h4 => by
  have : vs' = [] := List.eq_nil_of_length_eq_zero (by simpa using h1.symm)
  subst this
  simpa [setVs] using ⟨h3, h4⟩
 | d :: ds, v :: vs, [], l, l', h1, _, h3, h4 => by simp at h1
 | d :: ds, v :: vs, v' :: vs', l, l', h1, h2, h3, h4 => by
  simp only [setVs]
  refine setVs_imp' ds vs vs' (l.set d v) (l'.set d v') (by simpa using h1) (fun j u u' a b => h2 (j + 1) u u' (by simpa using a) (by simpa using b)) (by simpa using h3) (fun j u u' a b => ?_)
  rw [List.getElem?_set] at a b
  split at a
  · rename_i hj
    rw [if_pos hj] at b
    split at a
    · split at b
      · cases a; cases b; exact h2 0 v v' rfl rfl
      · cases b
    · cases a
  · rename_i hj
    rw [if_neg hj] at b
    exact h4 j u u' a b
theorem St.of_imps {n : Nat} {lv : List Nat} {vs vs' : List V} {ob : Ob} {nm : Nm} {kh kt : Nat} (h1 : vs.length = vs'.length) (h2 : ∀ (G : Gh) (j : Nat) v v', vs[j]? = some v → vs'[j]? = some v' → ∀ cv, VRel G v cv → VRel G v' cv) :
 St.imp Γ (St.of n lv vs ob nm kh kt) (St.of n lv vs' ob nm kh kt) := fun G a w hr => by
 obtain ⟨e1, e2⟩ := setVs_imp' (G := G) lv vs vs' (List.replicate n .any) (List.replicate n .any) h1 (h2 G) rfl (fun j v v' a b cv h => by rw [a] at b; cases b; exact h)
 refine ⟨⟨?_, fun j v cv hv hc => ?_⟩, hr.wr, hr.df, hr.kh, hr.kt⟩
 · have := hr.tm.1
   show a.tmps.toList.length = (setVs lv vs' (List.replicate n .any)).length
   rw [← e1]; exact this
 · have hv : (setVs lv vs' (List.replicate n .any))[j]? = some v := hv
   have hlt : j < (setVs lv vs (List.replicate n .any)).length := by
    rw [e1]
    rcases Nat.lt_or_ge j (setVs lv vs' (List.replicate n .any)).length with h | h
    · exact h
    · rw [List.getElem?_eq_none h] at hv; cases hv
   exact e2 j _ v (List.getElem?_eq_getElem hlt) hv cv (hr.tm.2 j _ cv (List.getElem?_eq_getElem hlt) hc)
theorem HP.rd1_imp {h : HP} {vs : List V} {ob : Ob} {nm : Nm} {x : h.den} (hx : h.rd1 vs ob nm = some x) : St.imp Γ (St.of h.n h.lv vs ob nm h.kh h.kt) (h.st x) := by
 unfold HP.rd1 at hx
 split at hx
 · rename_i s hs
   split at hx
   · rename_i o ho
     split at hx
     · rename_i b hb
       cases hx
       obtain ⟨s1, s2⟩ := SP.rds_ok hs
       obtain ⟨o1, o2, o3⟩ := OP.rds_ok ho
       obtain ⟨b1, b2, b3⟩ := BP.rds_ok hb
       intro G a w hr
       have h1 := St.of_imps (Γ := Γ) (n := h.n) (lv := h.lv) (ob := ob) (nm := nm) (kh := h.kh) (kt := h.kt) s1.symm s2 G a w hr
       exact ⟨h1.tm, (h1.wr.weakOb o1 o2 o3).weakNm b1 b2 b3, h1.df, h1.kh, h1.kt⟩
     · cases hx
   · cases hx
 · cases hx
theorem nil_bs' {G : Gh} {n off : Nat} {sy : Bool} {cv : Value} (h : VRel G (.lst .full []) cv) : VRel G (.bs sy n off 0) cv := by
 cases h with
 | lst0 t p => cases p with | none => exact .bs0 _ _ _ | some a => exact .bs1 _ _ _ a
 | @lst _ _ b off cap sz cvs h1 h2 h3 h4 h5 h6 =>
  have h6 : cap = 0 := h6
  subst h6
  exact .bs1 _ _ _ _
theorem St.birthOb {kh kt n : Nat} {lv : List Nat} {vs : List V} {ob : Ob} {nm : Nm} (o k : Nat) {cs : List V} (ho : ob[o]? = some (some cs)) (hk : cs[k]? = some (.lst .full [])) {c : BC} (hc : c.len = 0) :
    St.imp Γ (St.of n lv vs ob nm kh kt) (St.of n lv vs (ob.set o (some (cs.set k (.bs true nm.length 0 0)))) (nm ++ [some (.live c)]) kh kt) := by
  intro G a w hr
  refine ⟨hr.tm, ?_, hr.df, hr.kh, hr.kt⟩
  have h1 := hr.wr.padded 0 1
  simp only [List.replicate_zero, List.append_nil] at h1
  have h2 := h1.unborn (s := nm.length) (by simp [St.of]) hc
  have e : (nm ++ List.replicate 1 none).set nm.length (some (Bf.live c)) = nm ++ [some (.live c)] := by simp
  have h3 : WRel Γ G ob (nm ++ [some (.live c)]) w := by rw [← e]; exact h2
  have key : WRel Γ G (ob.set o (some (cs.set k (.bs true nm.length 0 0)))) (nm ++ [some (.live c)]) w := by
   refine h3.weakOb (by simp) (fun o' cs' h => ?_) (fun o' h => ?_)
   · rw [List.getElem?_set] at h
     split at h
     · rename_i e
       subst e
       split at h
       · cases h
         refine ⟨cs, ho, by simp, fun j x' hx => ?_⟩
         rw [List.getElem?_set] at hx
         split at hx
         · rename_i e
           subst e
           split at hx
           · cases hx
             exact ⟨_, hk, fun G cv h => nil_bs' h⟩
           · cases hx
         · exact ⟨x', hx, fun _ _ h => h⟩
       · cases h
     · exact ⟨cs', h, rfl, fun j x' hx => ⟨x', hx, fun _ _ h => h⟩⟩
   · rw [List.getElem?_set] at h
     split at h
     · split at h <;> cases h
     · exact h
  exact key
theorem imp_trans {x y z : St} (h : St.imp Γ x y) (k : St.imp Γ y z) : St.imp Γ x z := fun G a w hr => k G a w (h G a w hr)
theorem birthsV_imp {kh kt n : Nat} {lv : List Nat} {ob : Ob} (hlv : nodupB lv = true) : ∀ (l : List (Nat × Ty)) {vs : List V} {nm : Nm}, vs.length = lv.length →
 (birthsV l vs nm).1.length = lv.length ∧ St.imp Γ (St.of n lv vs ob nm kh kt) (St.of n lv (birthsV l vs nm).1 ob (birthsV l vs nm).2 kh kt)
 | [], vs, nm, hl => ⟨hl, fun _ _ _ h => h⟩
 | (k, t) :: r, vs, nm, hl => by
  simp only [birthsV]
  split
  · rename_i hk
    obtain ⟨h1, h2⟩ := birthsV_imp (ob := ob) hlv r (vs := vs.set k (.bs true nm.length 0 0)) (nm := nm ++ [some (.live (.arr t []))]) (by simpa using hl)
    exact ⟨h1, imp_trans (St.birth k rfl hk (c := .arr t []) rfl hlv hl) h2⟩
  · exact birthsV_imp hlv r hl
theorem birthsO_imp {kh kt n : Nat} {lv : List Nat} {vs : List V} : ∀ (l : List (Nat × Nat × Ty)) {ob : Ob} {nm : Nm},
 St.imp Γ (St.of n lv vs ob nm kh kt) (St.of n lv vs (birthsO l ob nm).1 (birthsO l ob nm).2 kh kt)
 | [], ob, nm => fun _ _ _ h => h
 | (o, k, t) :: r, ob, nm => by
  simp only [birthsO]
  split
  · rename_i cs ho
    split
    · rename_i hk
      exact imp_trans (St.birthOb o k ho hk (c := .arr t []) rfl) (birthsO_imp r)
    · exact birthsO_imp r
  · exact birthsO_imp r
theorem setVs_len : ∀ (lv : List Nat) (vs l : List V), (setVs lv vs l).length = l.length
 | [], _, _ => by simp [setVs]
 | d :: ds, [], l => by simp [setVs]
 | d :: ds, v :: vs, l => by simp only [setVs]; rw [setVs_len ds vs]; simp
theorem HP.rd_ok {h : HP} {b : Code} {kh kt : Nat} {vs : List V} {ob : Ob} {nm : Nm} {x : h.den} (hx : h.rd kh kt vs ob nm = some x) {e : Exit} {s : St} (k : SemL P Γ b (h.st x) e s) : SemL P Γ b (St.of h.n h.lv vs ob nm kh kt) e s := by
 unfold HP.rd at hx
 split at hx
 · cases hx
 · rename_i hc
   simp only [Bool.and_eq_true] at hc
   obtain ⟨⟨⟨c1, c2⟩, c3⟩, c4⟩ := hc
   obtain rfl := Nat.eq_of_beq_eq_true c1
   obtain rfl := Nat.eq_of_beq_eq_true c2
   have c3 := Nat.eq_of_beq_eq_true c3
   split at hx
   · exact k.pre (HP.rd1_imp hx)
   · obtain ⟨g1, g2⟩ := birthsV_imp (Γ := Γ) (kh := h.kh) (kt := h.kt) (n := h.n) (ob := ob) c4 h.bv (vs := vs) (nm := nm) c3
     have g3 := birthsO_imp (Γ := Γ) (kh := h.kh) (kt := h.kt) (n := h.n) (lv := h.lv) (vs := (birthsV h.bv vs nm).1) h.bo (ob := ob) (nm := (birthsV h.bv vs nm).2)
     refine SemL.pre ?_ (imp_trans g2 g3)
     have hx : h.rd2 (birthsV h.bv vs nm).1 (birthsO h.bo ob (birthsV h.bv vs nm).2).1 (birthsO h.bo ob (birthsV h.bv vs nm).2).2 = some x := hx
     unfold HP.rd2 at hx
     split at hx
     · rename_i r hr
       obtain ⟨v2, ob2, nm2⟩ := r
       exact SemL.preRen (n := h.n) (by simp [St.of, setVs_len]) hr (k.pre (HP.rd1_imp hx))
     · cases hx
def LEnt.by (h : HP) (res : h.den → Tr (Ex × St)) : LEnt := ⟨h.n, h.lv, fun kh kt vs ob nm => match h.rd kh kt vs ob nm with | some x => some (res x) | none => none⟩
def EntOk (P : Program) (Γ : Nat → Option V) (b : Code) (e : LEnt) : Prop := ∀ kh kt vs ob nm t ex s, e.go kh kt vs ob nm = some t → t.run = some (ex, s) → SemL P Γ b (St.of e.n e.lv vs ob nm kh kt) ex.to s
theorem LEnt.by_ok {h : HP} {res : h.den → Tr (Ex × St)} {b : Code} (H : ∀ x ex s, (res x).run = some (ex, s) → SemL P Γ b (h.st x) ex.to s) : EntOk P Γ b (LEnt.by h res) := fun kh kt vs ob nm t ex s hg ht => by
 simp only [LEnt.by] at hg
 split at hg
 · rename_i x hx
   cases hg
   exact HP.rd_ok hx (H x ex s ht)
 · cases hg
def LOrc.add (lo : LOrc) (f0 i0 : Nat) (e : LEnt) : LOrc := fun f i => match Nat.beq f f0 && Nat.beq i i0 with | true => some e | false => lo f i
theorem LOrcOk.add {lo : LOrc} (h : LOrcOk P Γ lo) (f0 i0 : Nat) {e : LEnt} {fn : Func} {root b : Code} (hf : P.funcs[f0]? = some fn) (hb : fn.body = some root) (hl : (loops root)[i0]? = some b) (he : EntOk P Γ b e) : LOrcOk P Γ (lo.add f0 i0 e) := fun f i e' h' => by
 simp only [LOrc.add] at h'
 split at h'
 · rename_i hc
   rw [Bool.and_eq_true] at hc
   obtain rfl := Nat.eq_of_beq_eq_true hc.1
   obtain rfl := Nat.eq_of_beq_eq_true hc.2
   cases h'
   exact ⟨fn, root, b, hf, hb, hl, he⟩
 · exact h _ _ _ h'
theorem SemL.scan {b : Code} (n k : Nat) (hk : k ≤ n) (emb : Nat → St) (p : Nat → Bool) (out : Ex × St)
 (hs : ∀ i, k ≤ i → i < n → (∀ j, k ≤ j → j < i → p j = true) → p i = true → SemC P Γ b (emb i) .normal (emb (i + 1)))
 (hb : ∀ i, k ≤ i → i < n → (∀ j, k ≤ j → j < i → p j = true) → p i = false → out.1.to ≠ .normal ∧ SemC P Γ b (emb i) out.1.to out.2)
 (he : (∀ j, k ≤ j → j < n → p j = true) → out.1.to ≠ .normal ∧ SemC P Γ b (emb n) out.1.to out.2) : SemL P Γ b (emb k) out.1.to out.2 :=
 SemL.ind (P := P) (Γ := Γ) (b := b) emb (fun i => n - i) (fun _ => out) (fun i => k ≤ i ∧ i ≤ n ∧ ∀ j, k ≤ j → j < i → p j = true) (fun i ⟨i1, i2, i3⟩ => by
  by_cases hlt : i < n
  · cases hp : p i with
    | true =>
     refine .inl ⟨i + 1, hs i i1 hlt i3 hp, ⟨by omega, hlt, fun j h1 h2 => ?_⟩, by show n - (i + 1) < n - i; omega, rfl⟩
     by_cases e : j = i
     · subst e; exact hp
     · exact i3 j h1 (by omega)
    | false => exact .inr (hb i i1 hlt i3 hp)
  · have e : i = n := by omega
    subst e
    exact .inr (he i3)) k ⟨Nat.le_refl _, hk, fun j h1 h2 => by omega⟩
theorem Tr.run_ite {α : Type} {C : Prop} [Decidable C] {x y : Tr α} {a b : α} (hx : x.run = some a) (hy : y.run = some b) : (Tr.br (decide C) x y).run = some (if C then a else b) := by
 by_cases h : C
 · rw [if_pos h, decide_eq_true h]; exact hx
 · rw [if_neg h, decide_eq_false h]; exact hy
theorem Tr.run_no {α : Type} {C : Prop} [Decidable C] {x : Tr α} (h : ¬ C) : (Tr.br (decide C) x (.leaf none)).run = none := by
 rw [decide_eq_false h]; rfl
theorem SemL.br {P : Program} {Γ : Nat → Option V} {b : Code} {σ : St} {p : Prop} {_ : Decidable p} {t : Tr (Ex × St)} {out : Ex × St} (hr : t.run = some out) (hgo : p → SemL P Γ b σ out.1.to out.2) {ex : Ex} {s : St} (h : (Tr.br (decide p) t (.leaf none)).run = some (ex, s)) : SemL P Γ b σ ex.to s := by
 by_cases hp : p
 · rw [decide_eq_true hp] at h
   have h : t.run = some (ex, s) := h
   rw [hr] at h
   cases h
   exact hgo hp
 · rw [Tr.run_no hp] at h
   cases h
theorem findIdx_at {α : Type} {l : List α} {p : α → Bool} (d : α) {i : Nat} (hi : i < l.length) (h : ∀ j, j < i → p (l.getD j d) = false) (hp : p (l.getD i d) = true) : l.findIdx p = i := by
 have e : ∀ j (hj : j < l.length), l.getD j d = l[j] := fun j hj => by simp [List.getD, hj]
 rw [List.findIdx_eq hi]
 exact ⟨by rw [← e i hi]; exact hp, fun j hj => by rw [← e j (by omega)]; exact h j hj⟩
theorem findIdx_before {α : Type} {l : List α} {p : α → Bool} (d : α) {j : Nat} (h : j < l.findIdx p) : p (l.getD j d) = false := by
 have hl : j < l.length := Nat.lt_of_lt_of_le h List.findIdx_le_length
 have := List.not_of_lt_findIdx h
 simpa [List.getD, hl] using this
theorem findIdx_here {α : Type} {l : List α} {p : α → Bool} (d : α) (h : l.findIdx p < l.length) : p (l.getD (l.findIdx p) d) = true := by
 have := List.findIdx_getElem (w := h)
 simpa [List.getD, h] using this
structure FP where
 sp : List SP
 op : List OP
 bp : List BP
structure FP.den (h : FP) where
 s : SP.dens h.sp
 o : OP.dens h.op
 b : BP.dens h.bp
end
end Go.Proofs.Ytofbchcclkejgaa

