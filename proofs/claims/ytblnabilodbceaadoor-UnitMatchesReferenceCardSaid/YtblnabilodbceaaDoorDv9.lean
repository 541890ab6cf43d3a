/- Calls: values without objects, the frame of a call, the entry of a body. -/
import Derived.Test.YtblnabilodbceaaDoorDv8
set_option linter.unusedVariables false
set_option linter.unusedSimpArgs false
namespace Go.Proofs.YtblnabilodbceaaDoor
open Go

mutual
/-- A value without objects: what becomes of pointers to objects, p says; rooms are forgotten. -/
def V.cl (p : Nat → Nat → Option V) : V → Option V
  | .b x => some (.b x)
  | .i k n => some (.i k n)
  | .s x => some (.s x)
  | .sb x => some (.sb x)
  | .si k n => some (.si k n)
  | .ss x => some (.ss x)
  | .nil => some .nil
  | .ptr o off => p o off
  | .sl _ _ _ => none
  | .pel xs k off => match V.clL p xs with | some ys => some (.pel ys k off) | none => none
  | .lst t xs => match V.clL p xs with | some ys => some (.lst (match t with | .own _ => .ro | .full => .full | .ro => .ro) ys) | none => none
  | .fn f a c => match V.clL p a, V.clL p c with | some x, some y => some (.fn f x y) | _, _ => none
  | .nilfn => some .nilfn
  | .ifc t x => match V.cl p x with | some y => some (.ifc t y) | none => none
  | .nilifc => some .nilifc
  | .agg cs => match V.clL p cs with | some ys => some (.agg ys) | none => none
  | .tup cs => match V.clL p cs with | some ys => some (.tup ys) | none => none
  | .any => some .any
def V.clL (p : Nat → Nat → Option V) : List V → Option (List V)
  | [] => some []
  | v :: vs => match V.cl p v, V.clL p vs with | some x, some ys => some (x :: ys) | _, _ => none
end
/-- No objects at all. -/
def noPtr (_ _ : Nat) : Option V := none
def V.cln (v : V) : Option V := V.cl noPtr v
def V.clnL (l : List V) : Option (List V) := V.clL noPtr l
/-- Objects that are lent for reading: a pointer to what an object holds. -/
def lendP (ob : Ob) (o off : Nat) : Option V :=
  match ob[o]? with
  | some (some cs) => match V.clnL cs with | some ys => some (.pel [.agg ys] 0 off) | none => none
  | _ => none
def V.lndL (ob : Ob) (l : List V) : Option (List V) := V.clL (lendP ob) l

theorem clnL_len {p : Nat → Nat → Option V} : ∀ {xs ys : List V}, V.clL p xs = some ys → ys.length = xs.length
  | [], ys, h => by simp [V.clL] at h; subst h; rfl
  | x :: xs, ys, h => by
    simp only [V.clL] at h
    split at h
    · rename_i a b h1 h2; cases h; simp [clnL_len h2]
    · cases h
theorem clnL_get {p : Nat → Nat → Option V} : ∀ {xs ys : List V}, V.clL p xs = some ys → ∀ (j : Nat) (v' : V), ys[j]? = some v' → ∃ v, xs[j]? = some v ∧ v.cl p = some v'
  | [], ys, h, j, v', hj => by simp [V.clL] at h; subst h; simp at hj
  | x :: xs, ys, h, j, v', hj => by
    simp only [V.clL] at h
    split at h
    · rename_i a b h1 h2
      cases h
      cases j with
      | zero => simp at hj; subst hj; exact ⟨x, by simp, h1⟩
      | succ j => simp at hj; simpa using clnL_get h2 j v' hj
    · cases h
theorem clnL_append {p : Nat → Nat → Option V} : ∀ {xs ys zs ws : List V}, V.clL p xs = some ys → V.clL p zs = some ws → V.clL p (xs ++ zs) = some (ys ++ ws)
  | [], ys, zs, ws, h, k => by simp [V.clL] at h; subst h; simpa using k
  | x :: xs, ys, zs, ws, h, k => by
    simp only [V.clL] at h
    split at h
    · rename_i a b h1 h2
      cases h
      simp [V.clL, h1, clnL_append h2 k]
    · cases h
theorem cln_cells {p : Nat → Nat → Option V} (hp : ∀ o off q, p o off = some q → q.cells = [q]) {v v' : V} (h : v.cl p = some v') : V.clL p v.cells = some v'.cells := by
  cases v with
  | agg cs =>
    simp only [V.cl] at h
    split at h
    · rename_i ys hy; cases h; simpa [V.cells] using hy
    · cases h
  | ptr o off =>
    simp only [V.cl] at h
    rw [hp o off v' h]
    simp only [V.cells, V.clL, V.cl, h]
  | sl o off len => simp [V.cl] at h
  | _ =>
    have hc : v'.cells = [v'] := by
      simp only [V.cl] at h
      repeat' (split at h)
      all_goals first | (cases h; rfl) | cases h
    rw [hc]
    simp only [V.cells, V.clL, h]
theorem clnL_flat {p : Nat → Nat → Option V} (hp : ∀ o off q, p o off = some q → q.cells = [q]) : ∀ {xs ys : List V}, V.clL p xs = some ys → V.clL p (flat xs) = some (flat ys)
  | [], ys, h => by simp [V.clL] at h; subst h; rfl
  | x :: xs, ys, h => by
    simp only [V.clL] at h
    split at h
    · rename_i a b h1 h2
      cases h
      rw [flat_cons, flat_cons]
      exact clnL_append (cln_cells hp h1) (clnL_flat hp h2)
    · cases h

theorem VRel.cl {p : Nat → Nat → Option V} {G G' : Gh} (hp : ∀ o off q, p o off = some q → q.cells = [q]) (hM : ∀ b off cv, G.M b off = some cv → G'.M b off = some cv) (hpr : ∀ o off b q, G.H o = some b → p o off = some q → VRel G' q (.pointer (some ⟨b, off, none⟩)))
    {v : V} {cv : Value} (h : VRel G v cv) : ∀ {v' : V}, v.cl p = some v' → VRel G' v' cv := by
  induction h with
  | b x => intro v' h; simp [V.cl] at h; subst h; exact .b x
  | i k n => intro v' h; simp [V.cl] at h; subst h; exact .i k n
  | s x => intro v' h; simp [V.cl] at h; subst h; exact .s x
  | sb x => intro v' h; simp [V.cl] at h; subst h; exact .sb x
  | si k n => intro v' h; simp [V.cl] at h; subst h; exact .si k n
  | ss x => intro v' h; simp [V.cl] at h; subst h; exact .ss x
  | nil => intro v' h; simp [V.cl] at h; subst h; exact .nil
  | ptr h => intro v' h'; simp only [V.cl] at h'; exact hpr _ _ _ _ h h'
  | sl h hc => intro v' h; simp [V.cl] at h
  | nilfn => intro v' h; simp [V.cl] at h; subst h; exact .nilfn
  | nilifc => intro v' h; simp [V.cl] at h; subst h; exact .nilifc
  | any v => intro v' h; simp [V.cl] at h; subst h; exact .any v
  | ifc h ih =>
    intro v' h
    simp only [V.cl] at h
    split at h
    · rename_i y hy; cases h; exact .ifc (ih hy)
    · cases h
  | lst0 t =>
    intro v' h
    simp [V.cl, V.clL] at h
    subst h
    exact .lst0 _
  | @lst t xs b off cap sz cvs hsz hl hm hv hc ht ih =>
    intro v' h
    simp only [V.cl] at h
    split at h
    · rename_i ys hy
      cases h
      have hlen := clnL_len hy
      have hf := clnL_flat hp hy
      rw [← hlen]
      refine .lst (sz := sz) (cvs := cvs) (fun x hx => ?_) (by rw [hl, clnL_len hf]) (fun j cv h => hM _ _ _ (hm j cv h)) (fun j v cv h1 h2 => ?_) (by omega) ?_
      · obtain ⟨j, hj⟩ := List.getElem?_of_mem hx
        obtain ⟨z, hz, hcz⟩ := clnL_get hy j x hj
        rw [clnL_len (cln_cells hp hcz)]
        exact hsz z (List.mem_of_getElem? hz)
      · obtain ⟨z, hz, hcz⟩ := clnL_get hf j v h1
        exact ih j z cv hz h2 hcz
      · cases t with
        | ro => trivial
        | full => simp only [TagOk] at ht ⊢; omega
        | own n => trivial
    · cases h
  | @pel xs k off b o0 sz cvs hsz hl hm hv ih =>
    intro v' h
    simp only [V.cl] at h
    split at h
    · rename_i ys hy
      cases h
      have hf := clnL_flat hp hy
      refine .pel (sz := sz) (cvs := cvs) (fun x hx => ?_) (by rw [hl, clnL_len hf]) (fun j cv h => hM _ _ _ (hm j cv h)) (fun j v cv h1 h2 => ?_)
      · obtain ⟨j, hj⟩ := List.getElem?_of_mem hx
        obtain ⟨z, hz, hcz⟩ := clnL_get hy j x hj
        rw [clnL_len (cln_cells hp hcz)]
        exact hsz z (List.mem_of_getElem? hz)
      · obtain ⟨z, hz, hcz⟩ := clnL_get hf j v h1
        exact ih j z cv hz h2 hcz
    · cases h
  | @fn f xs ys a c ha hc h1 h2 i1 i2 =>
    intro v' h
    simp only [V.cl] at h
    split at h
    · rename_i x y hx hy
      cases h
      refine .fn (by rw [ha, clnL_len hx]) (by rw [hc, clnL_len hy]) (fun j v cv g1 g2 => ?_) (fun j v cv g1 g2 => ?_)
      · obtain ⟨z, hz, hcz⟩ := clnL_get hx j v g1
        exact i1 j z cv hz g2 hcz
      · obtain ⟨z, hz, hcz⟩ := clnL_get hy j v g1
        exact i2 j z cv hz g2 hcz
    · cases h
  | @agg cs c hl h1 ih =>
    intro v' h
    simp only [V.cl] at h
    split at h
    · rename_i ys hy
      cases h
      refine .agg (by rw [hl, clnL_len hy]) (fun j v cv g1 g2 => ?_)
      obtain ⟨z, hz, hcz⟩ := clnL_get hy j v g1
      exact ih j z cv hz g2 hcz
    · cases h
  | @tup cs c hl h1 ih =>
    intro v' h
    simp only [V.cl] at h
    split at h
    · rename_i ys hy
      cases h
      refine .tup (by rw [hl, clnL_len hy]) (fun j v cv g1 g2 => ?_)
      obtain ⟨z, hz, hcz⟩ := clnL_get hy j v g1
      exact ih j z cv hz g2 hcz
    · cases h
theorem noP {o off : Nat} {q : V} {α : Prop} (h : noPtr o off = some q) : α := by cases h
theorem VRel.clean {G : Gh} {v : V} {cv : Value} (h : VRel G v cv) {v' : V} (hc : v.cln = some v') : VRel G.bare v' cv :=
  VRel.cl (p := noPtr) (G := G) (G' := G.bare) (fun _ _ _ h => noP h) (fun _ _ _ h => h) (fun _ _ _ _ _ h => noP h) h hc
theorem Rels.cl {p : Nat → Nat → Option V} {G G' : Gh} (hp : ∀ o off q, p o off = some q → q.cells = [q]) (hM : ∀ b off cv, G.M b off = some cv → G'.M b off = some cv) (hpr : ∀ o off b q, G.H o = some b → p o off = some q → VRel G' q (.pointer (some ⟨b, off, none⟩)))
    {vs vs' : List V} {cvs : List Value} (h : Rels G vs cvs) (hc : V.clL p vs = some vs') : Rels G' vs' cvs :=
  ⟨by rw [h.1, clnL_len hc], fun j v cv h1 h2 => by
    obtain ⟨z, hz, hcz⟩ := clnL_get hc j v h1
    exact VRel.cl hp hM hpr (h.2 j z cv hz h2) hcz⟩
theorem Rels.clean {G : Gh} {vs vs' : List V} {cvs : List Value} (h : Rels G vs cvs) (hc : V.clnL vs = some vs') : Rels G.bare vs' cvs :=
  Rels.cl (p := noPtr) (G := G) (G' := G.bare) (fun _ _ _ h => noP h) (fun _ _ _ h => h) (fun _ _ _ _ _ h => noP h) h hc
def V.sc : V → Bool
  | .b _ | .i _ _ | .s _ | .sb _ | .si _ _ | .ss _ | .nil | .nilfn | .nilifc => true
  | _ => false
theorem VRel.sc {G : Gh} (G' : Gh) {v : V} {cv : Value} (h : VRel G v cv) (hs : v.sc = true) : VRel G' v cv := by
  cases h <;> first | (simp [V.sc] at hs; done) | constructor
theorem VRel.agg_sc {G : Gh} (G' : Gh) {cs : List V} {cv : Value} (h : VRel G (.agg cs) cv) (hs : cs.all V.sc = true) : VRel G' (.agg cs) cv := by
  obtain ⟨c, rfl, hc⟩ := h.agg_form
  refine VRel.mk_agg ⟨hc.1, fun j v cv h1 h2 => (hc.2 j v cv h1 h2).sc G' ?_⟩
  exact List.all_eq_true.1 hs v (List.mem_of_getElem? h1)
/-- A value that hangs on no memory. -/
def V.flt : V → Bool
  | .agg cs => cs.all V.sc
  | .tup cs => cs.all fun c => match c with | .agg ds => ds.all V.sc | c => c.sc
  | v => v.sc
theorem VRel.flt {G : Gh} (G' : Gh) {v : V} {cv : Value} (h : VRel G v cv) (hs : v.flt = true) : VRel G' v cv := by
  cases v with
  | agg cs => exact h.agg_sc G' hs
  | tup cs =>
    cases h
    rename_i c hl hh
    refine .tup hl fun j v cv h1 h2 => ?_
    have := hh j v cv h1 h2
    have hv := List.all_eq_true.1 hs v (List.mem_of_getElem? h1)
    cases v with
    | agg ds => exact this.agg_sc G' hv
    | _ => exact this.sc G' hv
  | _ => exact h.sc G' hs

section
variable {P : Program} {Γ : Nat → Option V} {G : Gh} {ob : Ob} {nm : Nm} {w : World} {σ : St}

/-- What a function does that is handed no object it does beside any objects. -/
theorem SemF.frame {f : FuncId} {args args' : List V} {res : V} (h : SemF P Γ f args' [] [] res [] []) (hc : V.clnL args = some args') (ob : Ob) (nm : Nm) : SemF P Γ f args ob nm res ob nm := by
  intro G w cargs hw hr
  let G0 : Gh := { M := G.M, H := fun _ => none, T := fun _ _ => none, w0 := w, M0 := G.M }
  have hb0 : G.bare.sub G0 := ⟨fun _ _ _ h => h, (fun _ _ h => by cases h), (fun _ _ _ h => by cases h)⟩
  have hw0 : WRel Γ G0 [] [] w := {
    m := hw.m
    hob := fun o cs b h1 h2 => by simp at h1
    hlt := fun o b h1 => by cases h1
    habs := fun o h1 => rfl
    inj := fun o o' b h1 h2 => by cases h1
    hnm := fun n fr t h1 h2 => by simp at h1
    nmd := fun n n' fr fr' t t' _ h1 => by simp at h1
    tabs := fun n _ l => rfl
    tlt := fun n l t h1 => by cases h1
    gl := fun g v hg => (hw.gl g v hg).mono' hb0.bare
    mold := fun b off _ => rfl
    os := rfl
    tape := rfl
    output := rfl
    size := Nat.le_refl _
    block := fun k _ => rfl }
  refine (h G0 w cargs hw0 ((hr.clean hc).mono' hb0)).mono ?_
  rintro e w' ⟨cv, G1, rfl, hle, hv, hw1⟩
  have hH : ∀ o b, G1.H o ≠ some b := fun o b hh => by have := (hw1.hlt o b hh).1; simp at this
  have hT : ∀ n l t, G1.T n l ≠ some t := fun n l t hh => by have := hw1.tlt n l t hh; simp at this
  have hw0e : G1.w0 = w := hle.w0
  have hm0e : G1.M0 = G.M := hle.m0
  let G2 : Gh := { M := G1.M, H := G.H, T := G.T, w0 := G.w0, M0 := G.M0 }
  have hs : G1.sub G2 := ⟨fun _ _ _ h => h, fun o b hh => absurd hh (hH o b), fun n l t hh => absurd hh (hT n l t)⟩
  have hle2 : G.le G2 := ⟨⟨hle.m, fun _ _ h => h, fun _ _ _ h => h⟩, rfl, rfl⟩
  have hblk : ∀ k, k < w.heap.size → w'.heap[k]? = w.heap[k]? := fun k hk => by
    have := hw1.block k (by rw [hw0e]; exact hk)
    rwa [hw0e] at this
  have hmo : ∀ b off, b < w.heap.size → G1.M b off = G.M b off := fun b off hb => by
    have := hw1.mold b off (by rw [hw0e]; exact hb)
    rwa [hm0e] at this
  have hsz : w.heap.size ≤ w'.heap.size := by have := hw1.size; rwa [hw0e] at this
  refine ⟨cv, G2, rfl, hle2, hv.mono' hs, ?_⟩
  exact {
    m := hw1.m
    hob := fun o cs b h1 h2 => by
      obtain ⟨q1, ⟨q2, q3, q4, q5, q6, q7, q8⟩, q9⟩ := hw.hob o cs b h1 h2
      have hlt := (hw.hlt o b h2).2
      exact ⟨q1, ⟨q2, q3, q4, by rw [hblk b hlt]; exact q5, q6, q7, q8.mono hle2⟩, fun off => by show G1.M b off = none; rw [hmo b off hlt]; exact q9 off⟩
    hlt := fun o b h1 => ⟨(hw.hlt o b h1).1, Nat.lt_of_lt_of_le (hw.hlt o b h1).2 hsz⟩
    habs := hw.habs
    inj := hw.inj
    hnm := fun n fr t h1 h2 => by
      obtain ⟨q1, ⟨q2, q3, q4, q5⟩, q6, q7⟩ := hw.hnm n fr t h1 h2
      have hlt := lt_of_heap q4
      exact ⟨q1, ⟨q2, q3, by rw [hblk _ hlt]; exact q4, q5⟩, fun off a b => by show G1.M t.b off = none; rw [hmo _ off hlt]; exact q6 off a b, q7⟩
    nmd := hw.nmd
    tabs := hw.tabs
    tlt := hw.tlt
    gl := fun g v hg => (hw.gl g v hg).mono' (hle2.toSub.bare)
    mold := fun b off hb => by
      show G1.M b off = G.M0 b off
      rw [hmo b off (Nat.lt_of_lt_of_le hb hw.size)]
      exact hw.mold b off hb
    os := by have := hw1.os; rw [hw0e] at this; exact this.trans hw.os
    tape := by have := hw1.tape; rw [hw0e] at this; exact this.trans hw.tape
    output := by have := hw1.output; rw [hw0e] at this; exact this.trans hw.output
    size := Nat.le_trans hw.size hsz
    block := fun k hk => (hblk k (Nat.lt_of_lt_of_le hk hw.size)).trans (hw.block k hk) }

theorem lendP_cell (ob : Ob) : ∀ o off q, lendP ob o off = some q → q.cells = [q] := by
  intro o off q h
  unfold lendP at h
  repeat' (split at h)
  all_goals first | (cases h; rfl) | cases h
open Classical in
/-- A call that is lent objects for reading, and hands back what hangs on no memory. -/
theorem SemF.lend {f : FuncId} {args args' : List V} {res : V} (h : SemF P Γ f args' [] [] res [] []) (hc : V.lndL ob args = some args') (hf : res.flt = true) : SemF P Γ f args ob nm res ob nm := by
  intro G w cargs hw hr
  let M1 : Nat → Nat → Option Value := fun b off => if ∃ o cs, ob[o]? = some (some cs) ∧ G.H o = some b then w.cell? ⟨b, off, none⟩ else G.M b off
  have hM : ∀ b off cv, G.M b off = some cv → M1 b off = some cv := fun b off cv hm => by
    show (if _ then _ else _) = _
    split
    · exact hw.m b off cv hm
    · exact hm
  let G0 : Gh := { M := M1, H := fun _ => none, T := fun _ _ => none, w0 := w, M0 := M1 }
  have hb0 : G.bare.sub G0 := ⟨hM, (fun _ _ h => by cases h), (fun _ _ _ h => by cases h)⟩
  have hw0 : WRel Γ G0 [] [] w := {
    m := fun b off cv hm => by
      have hm : (if ∃ o cs, ob[o]? = some (some cs) ∧ G.H o = some b then w.cell? ⟨b, off, none⟩ else G.M b off) = some cv := hm
      split at hm
      · exact hm
      · exact hw.m b off cv hm
    hob := fun o cs b h1 h2 => by simp at h1
    hlt := fun o b h1 => by cases h1
    habs := fun o h1 => rfl
    inj := fun o o' b h1 h2 => by cases h1
    hnm := fun n fr t h1 h2 => by simp at h1
    nmd := fun n n' fr fr' t t' _ h1 => by simp at h1
    tabs := fun n _ l => rfl
    tlt := fun n l t h1 => by cases h1
    gl := fun g v hg => (hw.gl g v hg).mono' hb0.bare
    mold := fun b off _ => rfl
    os := rfl
    tape := rfl
    output := rfl
    size := Nat.le_refl _
    block := fun k _ => rfl }
  have hargs : Rels G0 args' cargs := by
    refine Rels.cl (G' := G0) (lendP_cell ob) hM (fun o off b q hH hq => ?_) hr hc
    unfold lendP at hq
    split at hq
    · rename_i cs hcs
      split at hq
      · rename_i ys hys
        cases hq
        obtain ⟨_, ⟨c, E, fr, e1, e2, e3, e4⟩, _⟩ := hw.hob o cs b hcs hH
        have e5 : Rels G0 ys (c.toList.take cs.length) := (e4.clean hys).mono' hb0
        have hM1 : ∀ off, G0.M b off = w.cell? ⟨b, off, none⟩ := fun off => if_pos ⟨o, cs, hcs, hH⟩
        have := VRel.pel (G := G0) (xs := [.agg ys]) (k := 0) (off := off) (b := b) (o0 := 0) (sz := ys.length) (cvs := c.toList.take cs.length)
          (by simp [V.cells]) (by simpa [flat, V.cells] using e5.1) (fun j cv hj => by
            rw [hM1, Nat.zero_add, cell_row e1]
            rw [List.getElem?_take] at hj
            split at hj
            · simpa using hj
            · cases hj) (fun j v cv q1 q2 => e5.2 j v cv (by simpa [flat, V.cells] using q1) q2)
        simpa using this
      · cases hq
    · cases hq
  refine (h G0 w cargs hw0 hargs).mono ?_
  rintro e w' ⟨cv, G1, rfl, hle, hv, hw1⟩
  have hw0e : G1.w0 = w := hle.w0
  have hblk : ∀ k, k < w.heap.size → w'.heap[k]? = w.heap[k]? := fun k hk => by
    have := hw1.block k (by rw [hw0e]; exact hk)
    rwa [hw0e] at this
  have hsz : w.heap.size ≤ w'.heap.size := by have := hw1.size; rwa [hw0e] at this
  refine ⟨cv, G, rfl, .refl G, hv.flt G hf, hw.keep hsz hblk ?_ ?_ ?_⟩
  · have := hw1.os; rwa [hw0e] at this
  · have := hw1.tape; rwa [hw0e] at this
  · have := hw1.output; rwa [hw0e] at this

/-! ### A call in a region -/
theorem SemV.call {o : Oper} {c : Call} {x : Operand} {f : FuncId} {fn : Func} {first cap : List V} {res : V} {ob' : Ob} {nm' : Nm} (ho : o.op = .call c) (hc : c.callee = .value x) (hx : σ.eval Γ x = .fn (.func f) first cap)
    (hf : P.funcs[f]? = some fn) (hb : fn.body.isSome = true) (hn : (fn.name == "runtime.NumGoroutine") = false) (h : SemF P Γ f (first ++ c.args.toList.map (σ.eval Γ) ++ cap) σ.ob σ.nm res ob' nm') :
    SemV P Γ o σ res (ob') (nm') := by
  intro G a w K Q hr hk
  have hfx := hr.eval x
  rw [hx] at hfx
  generalize he : a.eval x = cx at hfx
  cases hfx with
  | @fn _ _ _ ca cc ha hcc h1 h2 =>
    have r1 : Rels G first ca.toList := ⟨by simpa using ha, fun j v cv g1 g2 => h1 j v cv g1 (by simpa using g2)⟩
    have r2 : Rels G cap cc.toList := ⟨by simpa using hcc, fun j v cv g1 g2 => h2 j v cv g1 (by simpa using g2)⟩
    have r3 : Rels G (c.args.toList.map (σ.eval Γ)) (c.args.toList.map a.eval) := by
      refine ⟨by simp, fun j v cv g1 g2 => ?_⟩
      simp only [List.getElem?_map, Option.map_eq_some_iff] at g1 g2
      obtain ⟨p, hp, rfl⟩ := g1
      obtain ⟨q, hq, rfl⟩ := g2
      rw [hp] at hq
      cases hq
      exact hr.eval p
    have hcall := h G w _ hr.wr ((r1.append r3).append r2)
    have hargs : (ca.toList ++ c.args.toList.map a.eval ++ cc.toList).toArray = ca ++ c.args.map a.eval ++ cc := by
      apply Array.ext'
      simp
    rw [hargs] at hcall
    have hbn : fn.body.isNone = false := by cases hfb : fn.body <;> simp [hfb] at hb ⊢
    unfold Oper.wp
    have hrun : (execOp a.eval o).run P w = .ok (.enter f (ca ++ c.args.map a.eval ++ cc)) w := by
      have hn' : ¬ fn.name = "runtime.NumGoroutine" := by simpa using hn
      have hbn' : ¬ fn.body = none := by intro hh; simp [hh] at hb
      simp [execOp, ho, resolve, hc, he, Deferred.ofValue, invoke, callFunc, hf, hbn', hn']
    rw [hrun]
    refine hcall.mono ?_
    rintro e w' ⟨cv, G1, rfl, hle, hv, hw1⟩
    exact hk G1 _ w' hle hv hw1

/-! ### The entry -/
def resOne (P : Program) (σ : St) : ResultVar → Option V
  | .tmp t => some ((σ.tm[t]?).getD (.tup []))
  | .cell t T => match tyAgg P T, tySize P T with | some a, some s => loadV a s σ.ob ((σ.tm[t]?).getD (.tup [])) | _, _ => none
def resL (P : Program) (σ : St) : List ResultVar → Option (List V)
  | [] => some []
  | r :: rs => match resOne P σ r, resL P σ rs with | some v, some vs => some (v :: vs) | _, _ => none
def resV (P : Program) (σ : St) (rs : List ResultVar) : Option V :=
  match resL P σ rs with
  | some [v] => some v
  | some vs => some (.tup vs)
  | none => none
theorem resOne_run {a : Act} {r : ResultVar} {v : V} (hr : Rel Γ G σ a w) (h : resOne P σ r = some v) :
    ∃ cv, ((match r with | .tmp t => pure (a.tmps.getD t undef) | .cell x t => do loadVar t (← asAddr (a.tmps.getD x undef))) : Sem Value).run P w = .ok cv w ∧ VRel G v cv := by
  cases r with
  | tmp t =>
    simp only [resOne, Option.some.injEq] at h
    subst h
    exact ⟨_, rfl, hr.eval (.tmp t)⟩
  | cell t T =>
    simp only [resOne] at h
    split at h
    · rename_i ag s ha hs
      obtain ⟨ad, cv, h1, h2, h3⟩ := VRel.load ha hs hr.wr (hr.eval (.tmp t)) h
      have h1 : a.tmps.getD t undef = .pointer (some ad) := h1
      exact ⟨cv, by simp only [Sem.run_bind, h1, asAddr, Sem.run_pure, Result.andThen_ok, h2], h3⟩
    · cases h
theorem resL_run {a : Act} (hr : Rel Γ G σ a w) : ∀ {rs : List ResultVar} {vs : List V}, resL P σ rs = some vs →
    ∃ cvs, (rs.mapM (m := Sem) fun r => match r with | .tmp t => pure (a.tmps.getD t undef) | .cell x t => do loadVar t (← asAddr (a.tmps.getD x undef))).run P w = .ok cvs w ∧ Rels G vs cvs
  | [], vs, h => by simp [resL] at h; subst h; exact ⟨[], by simp, Rels.nil G⟩
  | r :: rs, vs, h => by
    simp only [resL] at h
    split at h
    · rename_i v vs' h1 h2
      cases h
      obtain ⟨cv, e1, e2⟩ := resOne_run hr h1
      obtain ⟨cvs, e3, e4⟩ := resL_run hr h2
      refine ⟨cv :: cvs, ?_, Rels.cons e2 e4⟩
      rw [List.mapM_cons, Sem.run_bind, e1, Result.andThen_ok, Sem.run_bind, e3]
      rfl
    · cases h
theorem resV_run {a : Act} {fn : Func} {v : V} (hr : Rel Γ G σ a w) (h : resV P σ fn.results.toList = some v) : ∃ cv, (results fn a.tmps).run P w = .ok cv w ∧ VRel G v cv := by
  unfold resV at h
  split at h
  · rename_i x hx
    cases h
    obtain ⟨cvs, e1, e2⟩ := resL_run hr hx
    obtain ⟨cv, rfl⟩ : ∃ cv, cvs = [cv] := by
      match cvs, e2.1 with
      | [c], _ => exact ⟨c, rfl⟩
    refine ⟨cv, ?_, e2.2 0 _ _ rfl rfl⟩
    unfold results
    rw [Array.mapM_eq_mapM_toList, Sem.run_bind, Sem.run_map]
    exact (congrArg (fun z => Result.andThen (Result.andThen z _) _) e1).trans rfl
  · rename_i vs hne hx
    cases h
    obtain ⟨cvs, e1, e2⟩ := resL_run hr hx
    refine ⟨.tuple cvs.toArray, ?_, .tup (by simpa using e2.1) (fun j v cv g1 g2 => e2.2 j v cv g1 (by simpa using g2))⟩
    unfold results
    rw [Array.mapM_eq_mapM_toList, Sem.run_bind, Sem.run_map]
    refine (congrArg (fun z => Result.andThen (Result.andThen z _) _) e1).trans ?_
    have hl : ¬ cvs.toArray.size = 1 := by
      intro hl
      have : vs.length = 1 := by rw [← e2.1]; simpa using hl
      match vs, this with
      | [y], _ => exact hne y rfl
    simp only [Result.andThen, hl, dif_neg, not_false_eq_true]
    rfl
  · cases h
/-- The state in which a body begins. -/
def St.start (n : Nat) (args : List V) (ob : Ob) (nm : Nm) : St := ⟨args ++ List.replicate (n - args.length) (.tup []), ob, nm⟩
theorem SemF.of_body {f : FuncId} {fn : Func} {c : Code} {args : List V} {ob : Ob} {nm : Nm} {x : Exit} {σ' : St} {res : V} (hf : P.funcs[f]? = some fn) (hb : fn.body = some c) (hx : x = .ret ∨ x = .normal)
    (hc : SemC P Γ c (St.start fn.ntmps args ob nm) x σ') (hres : resV P σ' fn.results.toList = some res) : SemF P Γ f args ob nm res σ'.ob σ'.nm := by
  intro G w cargs hw hr
  refine calls_of_wp hf hb (wp_mono (hc G _ w ⟨?_, hw, rfl⟩) ?_)
  · have h1 := hr.append (Rels.replicate G (VRel.undef G) (fn.ntmps - args.length))
    have : (cargs.toArray ++ Array.replicate (fn.ntmps - cargs.toArray.size) undef).toList = cargs ++ List.replicate (fn.ntmps - args.length) undef := by simp [hr.1]
    rw [this]
    exact h1
  · rintro e a' w' ⟨rfl, G1, hle, r1⟩
    obtain ⟨cv, h1, h2⟩ := resV_run (fn := fn) r1 hres
    rcases hx with rfl | rfl <;> exact ⟨r1.df, cv, h1, cv, G1, rfl, hle, h2, r1.wr⟩
end
end Go.Proofs.YtblnabilodbceaaDoor
