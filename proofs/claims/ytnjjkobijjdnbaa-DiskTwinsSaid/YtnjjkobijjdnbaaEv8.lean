/- Structs, arrays and slices that are built. -/
import Derived.Test.YtnjjkobijjdnbaaEv7
set_option linter.unusedVariables false
set_option linter.unusedSimpArgs false
namespace Go.Proofs.Ytnjjkobijjdnbaa
open Go

section
variable {P : Program} {Γ : Nat → Option V} {G : Gh} {ob : Ob} {nm : Nm} {w : World} {σ : St}

def V.notAny : V → Bool
  | .any => false
  | _ => true
theorem V.notAny_ne {v : V} (h : v.notAny = true) : v ≠ .any := fun e => by subst e; simp [V.notAny] at h
def splice (cs : List V) (off : Nat) (vs : List V) : List V := cs.take off ++ vs ++ cs.drop (off + vs.length)
def fillV (place : Nat → Option (Nat × Nat)) : List V → List (Nat × V) → Option (List V)
  | cs, [] => some cs
  | cs, (i, v) :: rest =>
    match place i with
    | none => none
    | some (off, size) => if v.notAny ∧ v.cells.length = size ∧ off + size ≤ cs.length then fillV place (splice cs off v.cells) rest else none

theorem foldl_sets (off : Nat) : ∀ (vs : List Value) (k : Nat) (c : Array Value), off + k + vs.length ≤ c.size →
    ((vs.zipIdx k).foldl (fun (cs : Array Value) (x : Value × Nat) => cs.setIfInBounds (off + x.2) x.1) c).toList = c.toList.take (off + k) ++ vs ++ c.toList.drop (off + k + vs.length)
  | [], k, c, _ => by simp
  | v :: rest, k, c, h => by
    simp only [List.length_cons] at h
    have ih := foldl_sets off rest (k + 1) (c.setIfInBounds (off + k) v) (by simp; omega)
    simp only [List.zipIdx_cons, List.foldl_cons]
    rw [ih]
    have e := splice_step c.toList (off + k) v rest (by simp; omega)
    simp only [Array.toList_setIfInBounds, ← Nat.add_assoc, List.length_cons] at e ⊢
    exact e

theorem fill_run {place : Nat → Option (Nat × Nat)} : ∀ (parts : List (Nat × V)) (cparts : List (Nat × Value)) (cs cs' : List V) (c : Array Value), fillV place cs parts = some cs' → Rels G cs c.toList →
    cparts.map (·.1) = parts.map (·.1) → Rels G (parts.map (·.2)) (cparts.map (·.2)) → ∃ c', Instr.fill place c cparts = some c' ∧ Rels G cs' c'.toList
  | [], cparts, cs, cs', c, h, hr, h1, h2 => by
    have : cparts = [] := by simpa using h1
    subst this
    simp [fillV] at h
    subst h
    exact ⟨c, by simp [Instr.fill], hr⟩
  | (i, v) :: rest, cparts, cs, cs', c, h, hr, h1, h2 => by
    cases cparts with
    | nil => simp at h1
    | cons p cparts =>
      obtain ⟨ci, cv⟩ := p
      simp only [List.map_cons, List.cons.injEq] at h1
      obtain ⟨rfl, h1⟩ := h1
      have hv : VRel G v cv := h2.2 0 v cv (by simp) (by simp)
      have h2' : Rels G (rest.map (·.2)) (cparts.map (·.2)) := by
        have := h2.drop 1
        simpa using this
      simp only [fillV] at h
      split at h
      · cases h
      · rename_i off size hp
        split at h
        · rename_i hc
          obtain ⟨n1, n2, n3⟩ := hc
          have hcl := hv.cells (V.notAny_ne n1)
          have hsz : cv.cells.size = size := by have := hcl.1; simp at this; omega
          have hcsz : c.size = cs.length := by have := hr.1; simpa using this
          have hf := foldl_sets off cv.cells.toList 0 c (by simp [hsz]; omega)
          simp only [Nat.add_zero, Array.length_toList, hsz] at hf
          have hr2 : Rels G (splice cs off v.cells) ((cv.cells.toList.zipIdx 0).foldl (fun (cs : Array Value) (x : Value × Nat) => cs.setIfInBounds (off + x.2) x.1) c).toList := by
            rw [hf]
            unfold splice
            rw [n2]
            exact ((hr.take off).append hcl).append (hr.drop (off + size))
          obtain ⟨c', g1, g2⟩ := fill_run rest cparts _ cs' _ h hr2 h1 h2'
          refine ⟨c', ?_, g2⟩
          have hz : cv.cells.zipIdx.foldl (fun cs (x : Value × Nat) => cs.setIfInBounds (off + x.2) x.1) c = (cv.cells.toList.zipIdx 0).foldl (fun (cs : Array Value) (x : Value × Nat) => cs.setIfInBounds (off + x.2) x.1) c := by
            rw [← Array.foldl_toList]
            simp
          simp only [Instr.fill, hp, hsz]
          rw [if_neg (by simp; omega)]
          rw [← g1]
          exact congrArg (fun z => Instr.fill place z cparts) hz
        · cases h

def partsV (σ : St) (Γ : Nat → Option V) (ps : List (Nat × Operand)) : List (Nat × V) := ps.map fun (i, x) => (i, σ.eval Γ x)
theorem parts_rel {a : Act} (hr : Rel Γ G σ a w) (ps : List (Nat × Operand)) :
    ((ps.map fun (i, x) => (i, a.eval x)).map (·.1)) = (partsV σ Γ ps).map (·.1) ∧ Rels G ((partsV σ Γ ps).map (·.2)) ((ps.map fun (i, x) => (i, a.eval x)).map (·.2)) := by
  induction ps with
  | nil => exact ⟨rfl, Rels.nil G⟩
  | cons p ps ih => exact ⟨by simp [partsV] at ih ⊢, Rels.cons (hr.eval p.2) ih.2⟩

/-- The places of a struct's fields. -/
def tyPlaces (P : Program) (T : TypeId) : Option (List (Nat × Nat)) :=
  match P.underlying T with
  | some (.struct fs) => fs.toList.foldr (fun f r => match tySize P f.type, r with | some s, some l => some ((f.offset, s) :: l) | _, _ => none) (some [])
  | _ => none
theorem run_places {fs : List Field} {l : List (Nat × Nat)} (h : fs.foldr (fun f r => match tySize P f.type, r with | some s, some l => some ((f.offset, s) :: l) | _, _ => none) (some []) = some l) (w : World) :
    (fs.mapM (m := Sem) fun f => do pure (f.offset, ← sizeOf f.type)).run P w = .ok l w := by
  induction fs generalizing l with
  | nil => simp at h; subst h; simp
  | cons f fs ih =>
    simp only [List.foldr_cons] at h
    split at h
    · rename_i s l' hs hl
      cases h
      have := ih hl
      simp only [List.mapM_cons, Sem.run_bind, run_sizeOf hs, Result.andThen_ok, Sem.run_pure, this]
    · cases h
theorem SemV.build_struct {o : Oper} {T : TypeId} {ps : Array (Nat × Operand)} {pl : List (Nat × Nat)} {z : V} {cs : List V} (ho : o.op = .build T ps) (hz : tyZero P T = some z) (hn : z.notAny = true) (hp : tyPlaces P T = some pl)
    (hf : fillV (pl[·]?) z.cells (partsV σ Γ ps.toList) = some cs) : SemV P Γ o σ (.agg cs) σ.ob σ.nm :=
  SemV.of_pure fun G a w hr => by
    obtain ⟨zv, h1, rfl⟩ := run_zero hz w
    have hc := (ofVal_rel G zv).cells (V.notAny_ne hn)
    obtain ⟨q1, q2⟩ := parts_rel hr ps.toList
    obtain ⟨c', g1, g2⟩ := fill_run _ _ _ _ _ hf hc q1 q2
    unfold tyPlaces at hp
    split at hp
    · rename_i fs hu
      have hpl := run_places hp w
      refine ⟨.agg c', ?_, VRel.mk_agg g2⟩
      have hm : (fs.mapM (m := Sem) fun f => do pure (f.offset, ← sizeOf f.type)).run P w = .ok pl.toArray w := by
        rw [Array.mapM_eq_mapM_toList]
        simp only [Sem.run_map, hpl, Result.andThen_ok]
      have hm2 : (ps.map fun (x : Nat × Operand) => (x.1, a.eval x.2)).toList = ps.toList.map fun (x : Nat × Operand) => (x.1, a.eval x.2) := by simp
      have g1' : Instr.fill (fun x => (pl.toArray)[x]?) zv.cells (ps.map fun (x : Nat × Operand) => (x.1, a.eval x.2)).toList = some c' := by rw [hm2]; simpa using g1
      simp only [execOp, ho, Instr.build, Sem.run_bind, h1, Result.andThen_ok, run_underlying hu, hm]
      rw [g1']
      simp
    · cases hp
theorem SemV.build_array {o : Oper} {T e : TypeId} {n sz : Nat} {ps : Array (Nat × Operand)} {z : V} {cs : List V} (ho : o.op = .build T ps) (hz : tyZero P T = some z) (hn : z.notAny = true) (ht : tyElem P T = some (some n, e)) (hs : tySize P e = some sz)
    (hf : fillV (fun i => some (i * sz, sz)) z.cells (partsV σ Γ ps.toList) = some cs) : SemV P Γ o σ (.agg cs) σ.ob σ.nm :=
  SemV.of_pure fun G a w hr => by
    obtain ⟨zv, h1, rfl⟩ := run_zero hz w
    have hc := (ofVal_rel G zv).cells (V.notAny_ne hn)
    obtain ⟨q1, q2⟩ := parts_rel hr ps.toList
    obtain ⟨c', g1, g2⟩ := fill_run _ _ _ _ _ hf hc q1 q2
    refine ⟨.agg c', ?_, VRel.mk_agg g2⟩
    have hm2 : (ps.map fun (x : Nat × Operand) => (x.1, a.eval x.2)).toList = ps.toList.map fun (x : Nat × Operand) => (x.1, a.eval x.2) := by simp
    have g1' : Instr.fill (fun i => some (i * sz, sz)) zv.cells (ps.map fun (x : Nat × Operand) => (x.1, a.eval x.2)).toList = some c' := by rw [hm2]; exact g1
    simp only [execOp, ho, Instr.build, Sem.run_bind, h1, Result.andThen_ok, run_underlying (tyElem_array ht), run_sizeOf hs]
    rw [g1']
    simp

/-! ### Slices -/
theorem flat_length {xs : List V} {sz : Nat} (h : ∀ x ∈ xs, x.cells.length = sz) : (flat xs).length = xs.length * sz := VRel.load.flat_length h
theorem flat_get {xs : List V} {sz : Nat} (h : ∀ x ∈ xs, x.cells.length = sz) {k : Nat} {x : V} (hx : xs[k]? = some x) (j : Nat) (v : V) (hj : x.cells[j]? = some v) : (flat xs)[k * sz + j]? = some v := VRel.load.flat_get h hx j v hj
theorem flat_append (xs ys : List V) : flat (xs ++ ys) = flat xs ++ flat ys := by simp [flat]
theorem flat_cons (x : V) (xs : List V) : flat (x :: xs) = x.cells ++ flat xs := by simp [flat]
theorem flat_set {sz : Nat} : ∀ {xs : List V} (h : ∀ x ∈ xs, x.cells.length = sz) {v : V} (hv : v.cells.length = sz) (i : Nat), i < xs.length → flat (xs.set i v) = splice (flat xs) (i * sz) v.cells
  | [], h, v, hv, i, hi => by simp at hi
  | x :: xs, h, v, hv, 0, hi => by
    simp [flat_cons, splice, hv, ← h x (by simp)]
  | x :: xs, h, v, hv, i + 1, hi => by
    have ih := flat_set (xs := xs) (fun y hy => h y (by simp [hy])) hv i (by simpa using hi)
    have hx := h x (by simp)
    simp only [List.set_cons_succ, flat_cons, ih, splice]
    have e1 : (x.cells ++ flat xs).take ((i + 1) * sz) = x.cells ++ (flat xs).take (i * sz) := by
      rw [List.take_append, hx, Nat.succ_mul, List.take_of_length_le (by rw [hx]; omega)]
      congr 2
      omega
    have e2 : (x.cells ++ flat xs).drop ((i + 1) * sz + v.cells.length) = (flat xs).drop (i * sz + v.cells.length) := by
      rw [List.drop_append, hx, Nat.succ_mul, List.drop_of_length_le (by rw [hx]; omega)]
      simp
      congr 1
      omega
    rw [e1, e2]
    simp
def fillE (sz : Nat) : List V → List (Nat × V) → Option (List V)
  | xs, [] => some xs
  | xs, (i, v) :: rest => if v.notAny ∧ v.cells.length = sz ∧ i < xs.length then fillE sz (xs.set i v) rest else none
theorem fillE_fillV {sz : Nat} : ∀ (parts : List (Nat × V)) (xs xs' : List V), (∀ x ∈ xs, x.cells.length = sz) → fillE sz xs parts = some xs' →
    fillV (fun i => some (i * sz, sz)) (flat xs) parts = some (flat xs') ∧ (∀ x ∈ xs', x.cells.length = sz) ∧ xs'.length = xs.length
  | [], xs, xs', h, hf => by simp [fillE] at hf; subst hf; exact ⟨rfl, h, rfl⟩
  | (i, v) :: rest, xs, xs', h, hf => by
    simp only [fillE] at hf
    split at hf
    · rename_i hc
      obtain ⟨h1, h2, h3⟩ := hc
      have hset : ∀ x ∈ xs.set i v, x.cells.length = sz := fun x hx => by
        rcases List.mem_or_eq_of_mem_set hx with hx | rfl
        · exact h x hx
        · exact h2
      obtain ⟨g1, g2, g3⟩ := fillE_fillV rest _ _ hset hf
      refine ⟨?_, g2, by simpa using g3⟩
      simp only [fillV]
      rw [if_pos ⟨h1, h2, by rw [flat_length h, ← Nat.succ_mul]; exact Nat.mul_le_mul_right _ h3⟩, ← flat_set h h2 i h3]
      exact g1
    · cases hf

theorem flat_replicate_get (x : V) (sz : Nat) (hx : x.cells.length = sz) : ∀ (n j : Nat), j < n * sz → (flat (List.replicate n x))[j]? = x.cells[j % sz]?
  | 0, j, h => by simp at h
  | n + 1, j, h => by
    rw [List.replicate_succ, flat_cons]
    by_cases hj : j < sz
    · rw [List.getElem?_append_left (by omega), Nat.mod_eq_of_lt hj]
    · rw [List.getElem?_append_right (by omega), hx, flat_replicate_get x sz hx n (j - sz) (by rw [Nat.succ_mul] at h; omega)]
      congr 1
      exact (Nat.mod_eq_sub_mod (by omega)).symm
theorem zeros_rel {z : Value} {x : V} {sz : Nat} (h : Rels G x.cells z.cells.toList) (hx : x.cells.length = sz) (n : Nat) : Rels G (flat (List.replicate n x)) ((Array.range (n * sz)).map (z.cells[· % z.cells.size]!)).toList := by
  have hzs : z.cells.size = sz := by have := h.1; simp at this; omega
  have hfl := flat_length (xs := List.replicate n x) (sz := sz) (fun y hy => (congrArg (fun q : V => q.cells.length) (List.eq_of_mem_replicate hy)).trans hx)
  refine ⟨by simp [hfl], fun j v cv h1 h2 => ?_⟩
  simp only [Array.toList_map, Array.toList_range, List.getElem?_map] at h2
  by_cases hj : j < n * sz
  · rw [flat_replicate_get x sz hx n j hj] at h1
    rw [List.getElem?_range hj] at h2
    simp only [Option.map_some, Option.some.injEq, hzs] at h2
    subst h2
    have hpos : 0 < sz := by
      rcases Nat.eq_zero_or_pos sz with h0 | h0
      · subst h0; simp at hj
      · exact h0
    have hlt : j % sz < z.cells.size := by rw [hzs]; exact Nat.mod_lt _ hpos
    rw [getElem!_pos z.cells (j % sz) hlt]
    exact h.2 _ v _ h1 (by rw [Array.getElem?_toList, Array.getElem?_eq_getElem hlt])
  · rw [List.getElem?_eq_none (by simp; omega)] at h2
    cases h2

/-- A row of new cells as a list that never changes. -/
theorem VRel.new_list {xs : List V} {sz : Nat} {c : Array Value} {b : Nat} (h1 : ∀ x ∈ xs, x.cells.length = sz) (h2 : Rels G (flat xs) c.toList) (hm : ∀ off, G.M b off = c[off]?) (t : Tag) (cap : Nat) (hc : xs.length ≤ cap) (ht : TagOk G xs.length b 0 cap sz t) :
    VRel G (.lst t xs) (.slice (some ⟨b, 0, none⟩) xs.length cap) :=
  .lst (cvs := c.toList) h1 h2.1 (fun j cv h => by rw [Nat.zero_add, hm]; simpa using h) h2.2 hc ht
theorem SemV.buildSlice {o : Oper} {T e : TypeId} {len sz : Nat} {ps : Array (Nat × Operand)} {z : V} {xs : List V} (ho : o.op = .buildSlice T len ps) (ht : tyElem P T = some (none, e)) (hs : tySize P e = some sz) (h24 : ¬ len * sz > 2 ^ 24)
    (hz : tyZero P e = some z) (hn : z.notAny = true) (hzs : z.cells.length = sz) (hf : fillE sz (List.replicate len z) (partsV σ Γ ps.toList) = some xs) : SemV P Γ o σ (.lst .full xs) σ.ob σ.nm :=
  SemV.of_val (ob' := σ.ob) (nm' := σ.nm) fun G a w hr => by
    obtain ⟨zv, h1, rfl⟩ := run_zero hz w
    have hc := (ofVal_rel G zv).cells (V.notAny_ne hn)
    obtain ⟨g1, g2, g3⟩ := fillE_fillV _ _ _ (fun y hy => by rw [List.eq_of_mem_replicate hy]; exact hzs) hf
    obtain ⟨q1, q2⟩ := parts_rel hr ps.toList
    obtain ⟨c', g4, g5⟩ := fill_run _ _ _ _ _ g1 (zeros_rel hc hzs len) q1 q2
    obtain ⟨hle, hw⟩ := hr.wr.newRow c' e
    have hxl : xs.length = len := by simpa using g3
    refine ⟨.slice (some ⟨w.heap.size, 0, none⟩) len len, _, _, ?_, hle, ?_, hw⟩
    · have hm2 : (ps.map fun (x : Nat × Operand) => (x.1, a.eval x.2)).toList = ps.toList.map fun (x : Nat × Operand) => (x.1, a.eval x.2) := by simp
      have g4' : ∀ (zs : Array Value), zs = (Array.range (len * sz)).map (zv.cells[· % zv.cells.size]!) → Instr.fill (fun i => some (i * sz, sz)) zs (ps.map fun (x : Nat × Operand) => (x.1, a.eval x.2)).toList = some c' := fun zs e => by rw [e, hm2]; exact g4
      by_cases h0 : len * sz = 0
      · have g5' := g4' ((Array.range (len * sz)).map ((#[] : Array Value)[· % (#[] : Array Value).size]!)) (by simp [h0])
        simp only [execOp, ho, Instr.buildSlice, Sem.run_bind, run_underlying (tyElem_slice ht), Result.andThen_ok, run_sizeOf hs, h24, if_false, Sem.run_ite, h0, if_true, Sem.run_pure]
        simp only [h0] at g5'
        rw [g5']
        simp [Go.newRow, World.alloc_eq]
      · have g5' := g4' _ rfl
        simp only [execOp, ho, Instr.buildSlice, Sem.run_bind, run_underlying (tyElem_slice ht), Result.andThen_ok, run_sizeOf hs, h24, if_false, Sem.run_ite, h0, Sem.run_pure, h1]
        rw [g5']
        simp [Go.newRow, World.alloc_eq]
    · have := VRel.new_list (G := G.addM w.heap.size c') (t := .full) (cap := xs.length) g2 (g5.mono hle) (fun off => addM_new _ _ _ _) (Nat.le_refl _) rfl
      rw [hxl] at this
      exact this
end
end Go.Proofs.Ytnjjkobijjdnbaa
