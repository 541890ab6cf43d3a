/- Calls: values without objects, the frame of a call, the entry of a body. -/
import Derived.Test.YtnjjkobijjdnbaaEv8
set_option linter.unusedVariables false
set_option linter.unusedSimpArgs false
namespace Go.Proofs.Ytnjjkobijjdnbaa
open Go

mutual
/-- A value without objects: what becomes of pointers to objects, p says; rooms are forgotten. -/
def V.cl (p : V → Option V) : V → Option V
  | .b x => some (.b x)
  | .i k n => some (.i k n)
  | .s x => some (.s x)
  | .sb x => some (.sb x)
  | .si k n => some (.si k n)
  | .ss x => some (.ss x)
  | .nil => some .nil
  | .ptr o off => p (.ptr o off)
  | .sl o off n => p (.sl o off n)
  | .bs sy n off len => p (.bs sy n off len)
  | .bp n j off => p (.bp n j off)
  | .slst t ty l => some (.slst t ty l)
  | .pel xs k off => match V.clL p xs with | some ys => some (.pel ys k off) | none => none
  | .lst t xs => match V.clL p xs with | some ys => some (.lst t ys) | none => none
  | .fn f a c => match V.clL p a, V.clL p c with | some x, some y => some (.fn f x y) | _, _ => none
  | .nilfn => some .nilfn
  | .ifc t x => match V.cl p x with | some y => some (.ifc t y) | none => none
  | .nilifc => some .nilifc
  | .agg cs => match V.clL p cs with | some ys => some (.agg ys) | none => none
  | .tup cs => match V.clL p cs with | some ys => some (.tup ys) | none => none
  | .yl _ _ _ _ => none
  | .any => some .any
def V.clL (p : V → Option V) : List V → Option (List V)
  | [] => some []
  | v :: vs => match V.cl p v, V.clL p vs with | some x, some ys => some (x :: ys) | _, _ => none
end
/-- No objects at all. -/
def noPtr (_ : V) : Option V := none
def V.cln (v : V) : Option V := V.cl noPtr v
def V.clnL (l : List V) : Option (List V) := V.clL noPtr l
/-- Objects and buffers that are lent for reading: a pointer to what an object holds; a list. -/
def lendB (p : V → Option V) : BC → Nat → Nat → Option V
  | .cs _ xs, off, len => match V.clL p xs with | some ys => some (.lst .ro ((ys.drop off).take len)) | none => none
  | .arr ty l, off, len => some (.slst .ro ty ((l.drop off).take len))
/-- So deep. -/
def lendN (ob : Ob) (nm : Nm) : Nat → V → Option V
  | 0, _ => none
  | k + 1, v =>
    match v with
    | .ptr o off =>
      match ob[o]? with
      | some (some cs) => match V.clL (lendN ob nm k) cs with | some ys => some (.pel [.agg ys] 0 off) | none => none
      | _ => none
    | .bs sy n off len =>
      match nm[n]? with
      | some (some (.live c)) => lendB (lendN ob nm k) c off len
      | _ => none
    | _ => none
def lendP (ob : Ob) (nm : Nm) : V → Option V := lendN ob nm 3
def V.lndL (ob : Ob) (nm : Nm) (l : List V) : Option (List V) := V.clL (lendP ob nm) l

theorem clnL_len {p : V → Option V} : ∀ {xs ys : List V}, V.clL p xs = some ys → ys.length = xs.length
  | [], ys, h => by simp [V.clL] at h; subst h; rfl
  | x :: xs, ys, h => by
    simp only [V.clL] at h
    split at h
    · rename_i a b h1 h2; cases h; simp [clnL_len h2]
    · cases h
theorem clnL_get {p : V → Option V} : ∀ {xs ys : List V}, V.clL p xs = some ys → ∀ (j : Nat) (v' : V), ys[j]? = some v' → ∃ v, xs[j]? = some v ∧ v.cl p = some v'
  | [], ys, h, j, v', hj => by simp [V.clL] at h; subst h; simp at hj
  | x :: xs, ys, h, j, v', hj => by
    simp only [V.clL] at h
    split at h
    · rename_i a b h1 h2
      cases h
      cases j with
      | zero => simp at hj; subst hj; exact ⟨x, by simp, h1⟩
      | succ j => simp at hj; simpa using clnL_get h2 j v' hj
    · cases h
theorem clnL_append {p : V → Option V} : ∀ {xs ys zs ws : List V}, V.clL p xs = some ys → V.clL p zs = some ws → V.clL p (xs ++ zs) = some (ys ++ ws)
  | [], ys, zs, ws, h, k => by simp [V.clL] at h; subst h; simpa using k
  | x :: xs, ys, zs, ws, h, k => by
    simp only [V.clL] at h
    split at h
    · rename_i a b h1 h2
      cases h
      simp [V.clL, h1, clnL_append h2 k]
    · cases h
theorem cln_cells {p : V → Option V} (hp : ∀ u q, p u = some q → q.cells = [q]) {v v' : V} (h : v.cl p = some v') : V.clL p v.cells = some v'.cells := by
  cases v with
  | agg cs =>
    simp only [V.cl] at h
    split at h
    · rename_i ys hy; cases h; simpa [V.cells] using hy
    · cases h
  | ptr o off =>
    simp only [V.cl] at h
    rw [hp _ v' h]
    simp only [V.cells, V.clL, V.cl, h]
  | sl o off len =>
    simp only [V.cl] at h
    rw [hp _ v' h]
    simp only [V.cells, V.clL, V.cl, h]
  | bs sy n off len =>
    simp only [V.cl] at h
    rw [hp _ v' h]
    simp only [V.cells, V.clL, V.cl, h]
  | bp n j off =>
    simp only [V.cl] at h
    rw [hp _ v' h]
    simp only [V.cells, V.clL, V.cl, h]
  | yl tm ps as bd => simp only [V.cl] at h; cases h
  | _ =>
    have hc : v'.cells = [v'] := by
      simp only [V.cl] at h
      repeat' (split at h)
      all_goals first | (cases h; rfl) | cases h
    rw [hc]
    simp only [V.cells, V.clL, h]
theorem clnL_flat {p : V → Option V} (hp : ∀ u q, p u = some q → q.cells = [q]) : ∀ {xs ys : List V}, V.clL p xs = some ys → V.clL p (flat xs) = some (flat ys)
  | [], ys, h => by simp [V.clL] at h; subst h; rfl
  | x :: xs, ys, h => by
    simp only [V.clL] at h
    split at h
    · rename_i a b h1 h2
      cases h
      rw [flat_cons, flat_cons]
      exact clnL_append (cln_cells hp h1) (clnL_flat hp h2)
    · cases h

mutual
/-- Plain data hang on no object. -/
theorem Ty.cells_cl (p : V → Option V) : ∀ (t : Ty) (x : t.den), V.clL p (t.cells x) = some (t.cells x)
  | .bool, x => rfl
  | .int k, x => rfl
  | .str, x => rfl
  | .agg fs, x => Ty.cellss_cl p fs x
  | .slice e, x => by simp only [Ty.cells, V.clL, V.cl]
theorem Ty.cellss_cl (p : V → Option V) : ∀ (ts : List Ty) (x : Ty.dens ts), V.clL p (Ty.cellss ts x) = some (Ty.cellss ts x)
  | [], x => rfl
  | t :: ts, x => by simp only [Ty.cellss]; exact clnL_append (Ty.cells_cl p t x.1) (Ty.cellss_cl p ts x.2)
end
theorem Ty.val_cl (p : V → Option V) (t : Ty) (x : t.den) : (t.val x).cl p = some (t.val x) := by
  cases t with
  | agg fs => simp only [Ty.val, V.cl, Ty.cellss_cl p fs x]
  | _ => simp only [Ty.val, V.cl]
theorem Ty.map_cl (p : V → Option V) (t : Ty) : ∀ (l : List t.den), V.clL p (l.map t.val) = some (l.map t.val)
  | [] => rfl
  | x :: l => by simp only [List.map_cons, V.clL, Ty.val_cl, Ty.map_cl p t l]
theorem VRel.cl {p : V → Option V} {G G' : Gh} (hp : ∀ u q, p u = some q → q.cells = [q]) (hM : ∀ b off cv, G.M b off = some cv → G'.M b off = some cv) (hpr : ∀ u q cu, VRel G u cu → p u = some q → VRel G' q cu)
    {v : V} {cv : Value} (h : VRel G v cv) : ∀ {v' : V}, v.cl p = some v' → VRel G' v' cv := by
  induction h with
  | b x => intro v' h; simp [V.cl] at h; subst h; exact .b x
  | i k n => intro v' h; simp [V.cl] at h; subst h; exact .i k n
  | s x => intro v' h; simp [V.cl] at h; subst h; exact .s x
  | sb x => intro v' h; simp [V.cl] at h; subst h; exact .sb x
  | si k n => intro v' h; simp [V.cl] at h; subst h; exact .si k n
  | ss x => intro v' h; simp [V.cl] at h; subst h; exact .ss x
  | nil => intro v' h; simp [V.cl] at h; subst h; exact .nil
  | ptr h => intro v' h'; simp only [V.cl] at h'; exact hpr _ _ _ (.ptr h) h'
  | sl h hc => intro v' h'; simp only [V.cl] at h'; exact hpr _ _ _ (.sl h hc) h'
  | bs0 sy n off => intro v' h'; simp only [V.cl] at h'; exact hpr _ _ _ (.bs0 sy n off) h'
  | bs1 sy n off b o => intro v' h'; simp only [V.cl] at h'; exact hpr _ _ _ (.bs1 sy n off b o) h'
  | bs h hl => intro v' h'; simp only [V.cl] at h'; exact hpr _ _ _ (.bs h hl) h'
  | bp h => intro v' h'; simp only [V.cl] at h'; exact hpr _ _ _ (.bp h) h'
  | yl h hs hl ht ih => intro v' h'; simp only [V.cl] at h'; cases h'
  | slst h ih =>
    intro v' h'
    simp only [V.cl] at h'
    cases h'
    exact .slst (ih (by simp only [V.cl, Ty.map_cl]))
  | nilfn => intro v' h; simp [V.cl] at h; subst h; exact .nilfn
  | nilifc => intro v' h; simp [V.cl] at h; subst h; exact .nilifc
  | any v => intro v' h; simp [V.cl] at h; subst h; exact .any v
  | ifc h ih =>
    intro v' h
    simp only [V.cl] at h
    split at h
    · rename_i y hy; cases h; exact .ifc (ih hy)
    · cases h
  | lst0 t =>
    intro v' h
    simp [V.cl, V.clL] at h
    subst h
    exact .lst0 _
  | lst1 p cap =>
    intro v' h
    simp [V.cl, V.clL] at h
    subst h
    exact .lst1 _ _
  | @lst t xs b off cap sz cvs hsz hl hm hv hc ht ih =>
    intro v' h
    simp only [V.cl] at h
    split at h
    · rename_i ys hy
      cases h
      have hlen := clnL_len hy
      have hf := clnL_flat hp hy
      rw [← hlen]
      refine .lst (sz := sz) (cvs := cvs) (fun x hx => ?_) (by rw [hl, clnL_len hf]) (fun j cv h => hM _ _ _ (hm j cv h)) (fun j v cv h1 h2 => ?_) (by omega) ?_
      · obtain ⟨j, hj⟩ := List.getElem?_of_mem hx
        obtain ⟨z, hz, hcz⟩ := clnL_get hy j x hj
        rw [clnL_len (cln_cells hp hcz)]
        exact hsz z (List.mem_of_getElem? hz)
      · obtain ⟨z, hz, hcz⟩ := clnL_get hf j v h1
        exact ih j z cv hz h2 hcz
      · cases t with
        | ro => trivial
        | full => simp only [TagOk] at ht ⊢; omega
    · cases h
  | @pel xs k off b o0 sz cvs hsz hl hm hv ih =>
    intro v' h
    simp only [V.cl] at h
    split at h
    · rename_i ys hy
      cases h
      have hf := clnL_flat hp hy
      refine .pel (sz := sz) (cvs := cvs) (fun x hx => ?_) (by rw [hl, clnL_len hf]) (fun j cv h => hM _ _ _ (hm j cv h)) (fun j v cv h1 h2 => ?_)
      · obtain ⟨j, hj⟩ := List.getElem?_of_mem hx
        obtain ⟨z, hz, hcz⟩ := clnL_get hy j x hj
        rw [clnL_len (cln_cells hp hcz)]
        exact hsz z (List.mem_of_getElem? hz)
      · obtain ⟨z, hz, hcz⟩ := clnL_get hf j v h1
        exact ih j z cv hz h2 hcz
    · cases h
  | @fn f xs ys a c ha hc h1 h2 i1 i2 =>
    intro v' h
    simp only [V.cl] at h
    split at h
    · rename_i x y hx hy
      cases h
      refine .fn (by rw [ha, clnL_len hx]) (by rw [hc, clnL_len hy]) (fun j v cv g1 g2 => ?_) (fun j v cv g1 g2 => ?_)
      · obtain ⟨z, hz, hcz⟩ := clnL_get hx j v g1
        exact i1 j z cv hz g2 hcz
      · obtain ⟨z, hz, hcz⟩ := clnL_get hy j v g1
        exact i2 j z cv hz g2 hcz
    · cases h
  | @agg cs c hl h1 ih =>
    intro v' h
    simp only [V.cl] at h
    split at h
    · rename_i ys hy
      cases h
      refine .agg (by rw [hl, clnL_len hy]) (fun j v cv g1 g2 => ?_)
      obtain ⟨z, hz, hcz⟩ := clnL_get hy j v g1
      exact ih j z cv hz g2 hcz
    · cases h
  | @tup cs c hl h1 ih =>
    intro v' h
    simp only [V.cl] at h
    split at h
    · rename_i ys hy
      cases h
      refine .tup (by rw [hl, clnL_len hy]) (fun j v cv g1 g2 => ?_)
      obtain ⟨z, hz, hcz⟩ := clnL_get hy j v g1
      exact ih j z cv hz g2 hcz
    · cases h
theorem noP {u : V} {q : V} {α : Prop} (h : noPtr u = some q) : α := by cases h
theorem VRel.clean {G : Gh} {v : V} {cv : Value} (h : VRel G v cv) {v' : V} (hc : v.cln = some v') : VRel G.bare v' cv :=
  VRel.cl (p := noPtr) (G := G) (G' := G.bare) (fun _ _ h => noP h) (fun _ _ _ h => h) (fun _ _ _ _ h => noP h) h hc
theorem Rels.cl {p : V → Option V} {G G' : Gh} (hp : ∀ u q, p u = some q → q.cells = [q]) (hM : ∀ b off cv, G.M b off = some cv → G'.M b off = some cv) (hpr : ∀ u q cu, VRel G u cu → p u = some q → VRel G' q cu)
    {vs vs' : List V} {cvs : List Value} (h : Rels G vs cvs) (hc : V.clL p vs = some vs') : Rels G' vs' cvs :=
  ⟨by rw [h.1, clnL_len hc], fun j v cv h1 h2 => by
    obtain ⟨z, hz, hcz⟩ := clnL_get hc j v h1
    exact VRel.cl hp hM hpr (h.2 j z cv hz h2) hcz⟩
theorem Rels.clean {G : Gh} {vs vs' : List V} {cvs : List Value} (h : Rels G vs cvs) (hc : V.clnL vs = some vs') : Rels G.bare vs' cvs :=
  Rels.cl (p := noPtr) (G := G) (G' := G.bare) (fun _ _ h => noP h) (fun _ _ _ h => h) (fun _ _ _ _ h => noP h) h hc
def V.sc : V → Bool
  | .b _ | .i _ _ | .s _ | .sb _ | .si _ _ | .ss _ | .nil | .nilfn | .nilifc => true
  | _ => false
theorem VRel.sc {G : Gh} (G' : Gh) {v : V} {cv : Value} (h : VRel G v cv) (hs : v.sc = true) : VRel G' v cv := by
  cases h <;> first | (simp [V.sc] at hs; done) | constructor
theorem VRel.agg_sc {G : Gh} (G' : Gh) {cs : List V} {cv : Value} (h : VRel G (.agg cs) cv) (hs : cs.all V.sc = true) : VRel G' (.agg cs) cv := by
  obtain ⟨c, rfl, hc⟩ := h.agg_form
  refine VRel.mk_agg ⟨hc.1, fun j v cv h1 h2 => (hc.2 j v cv h1 h2).sc G' ?_⟩
  exact List.all_eq_true.1 hs v (List.mem_of_getElem? h1)
/-- A value that hangs on no memory. -/
def V.flt : V → Bool
  | .agg cs => cs.all V.sc
  | .tup cs => cs.all fun c => match c with | .agg ds => ds.all V.sc | c => c.sc
  | v => v.sc
theorem VRel.flt {G : Gh} (G' : Gh) {v : V} {cv : Value} (h : VRel G v cv) (hs : v.flt = true) : VRel G' v cv := by
  cases v with
  | agg cs => exact h.agg_sc G' hs
  | tup cs =>
    cases h
    rename_i c hl hh
    refine .tup hl fun j v cv h1 h2 => ?_
    have := hh j v cv h1 h2
    have hv := List.all_eq_true.1 hs v (List.mem_of_getElem? h1)
    cases v with
    | agg ds => exact this.agg_sc G' hv
    | _ => exact this.sc G' hv
  | _ => exact h.sc G' hs

section
variable {P : Program} {Γ : Nat → Option V} {G : Gh} {ob : Ob} {nm : Nm} {w : World} {σ : St}

/-- What a function does that is handed no object it does beside any objects. -/
theorem SemF.frame {f : FuncId} {args args' : List V} {res : V} (h : SemF P Γ f args' [] [] res [] []) (hc : V.clnL args = some args') (ob : Ob) (nm : Nm) : SemF P Γ f args ob nm res ob nm := by
  intro G w cargs hw hr
  let G0 : Gh := { M := G.M, H := fun _ => none, T := fun _ => none, D := fun _ => none, kh := 0, kt := 0, w0 := .of w, M0 := G.M, kd := 0 }
  have hb0 : G.bare.sub G0 := ⟨fun _ _ _ h => h, (fun _ _ h => by cases h), (fun _ _ h => by cases h), (fun _ _ h => by cases h)⟩
  have hw0 : WRel Γ G0 [] [] w := {
    m := hw.m
    hob := fun o cs b h1 h2 => by simp at h1
    hlt := fun o b h1 => by cases h1
    habs := fun o h1 => rfl
    inj := fun o o' b h1 h2 => by cases h1
    hnm := fun n c x h1 h2 => by simp at h1
    hno := fun n c h1 => by simp at h1
    nmd := fun n n' c c' x x' _ h1 => by simp at h1
    tabs := fun n _ => rfl
    tlt := fun n t h1 => by cases h1
    dd := fun l o h => by cases h
    kdle := Nat.zero_le _
    gl := fun g v hg => (hw.gl g v hg).mono' hb0.bare
    mold := fun b off _ => rfl
    os := rfl
    tape := rfl
    output := rfl
    size := Nat.le_refl _
    block := fun k _ => rfl }
  refine (h G0 w cargs hw0 ((hr.clean hc).mono' hb0)).mono ?_
  rintro e w' ⟨cv, G1, rfl, hle, hv, hw1⟩
  have hH : ∀ o b, G1.H o ≠ some b := fun o b hh => by have := (hw1.hlt o b hh).1; simp at this
  have hT : ∀ n t, G1.T n ≠ some t := fun n t hh => by have := hw1.tlt n t hh; simp at this
  have hw0e : G1.w0 = .of w := hle.w0
  have hm0e : G1.M0 = G.M := hle.m0
  let G2 : Gh := { M := G1.M, H := G.H, T := G.T, D := fun l => match G.D l with | some o => some o | none => G1.D l, kh := G.kh, kt := G.kt, w0 := G.w0, M0 := G.M0, kd := G.kd }
  have hdn : ∀ l o, G1.D l = some o → w.heap.size ≤ l := fun l o hl => by have := (hw1.dd l o hl).2.2; rw [hw0e] at this; exact W0.own_of this
  have hs : G1.sub G2 := ⟨fun _ _ _ h => h, fun o b hh => absurd hh (hH o b), fun n t hh => absurd hh (hT n t), fun l o hl => by
    show (match G.D l with | some o => some o | none => G1.D l) = _
    rw [hw.dnew (hdn l o hl)]
    exact hl⟩
  have hle2 : G.le G2 := ⟨⟨hle.m, fun _ _ h => h, fun _ _ h => h, fun l o hl => by
    show (match G.D l with | some o => some o | none => G1.D l) = _
    rw [hl]⟩, rfl, rfl, rfl, rfl, rfl⟩
  have hblk : ∀ k, k < w.heap.size → w'.heap[k]? = w.heap[k]? := fun k hk => by
    have := hw1.block k (by rw [hw0e]; exact W0.not_of hk)
    rwa [hw0e] at this
  have hmo : ∀ b off, b < w.heap.size → G1.M b off = G.M b off := fun b off hb => by
    have := hw1.mold b off (by rw [hw0e]; exact W0.not_of hb)
    rwa [hm0e] at this
  have hsz : w.heap.size ≤ w'.heap.size := by have := hw1.size; rwa [hw0e] at this
  refine ⟨cv, G2, rfl, hle2, hv.mono' hs, ?_⟩
  exact {
    m := hw1.m
    hob := fun o cs b h1 h2 => by
      obtain ⟨q1, ⟨q2, q3, q4, q5, q6, q7, q8⟩, q9⟩ := hw.hob o cs b h1 h2
      have hlt := (hw.hlt o b h2).2
      exact ⟨q1, ⟨q2, q3, q4, by rw [hblk b hlt]; exact q5, q6, q7, q8.mono hle2⟩, fun off => by show G1.M b off = none; rw [hmo b off hlt]; exact q9 off⟩
    hlt := fun o b h1 => ⟨(hw.hlt o b h1).1, Nat.lt_of_lt_of_le (hw.hlt o b h1).2 hsz⟩
    habs := hw.habs
    inj := hw.inj
    hnm := fun n c x h1 h2 => (hw.hnm n c x h1 h2).to (hblk _ (hw.hnm n c x h1 h2).lt) (fun _ _ h => h.mono hle2) (fun _ h => h) (fun off h => by show G1.M x.b off = none; rw [hmo _ off (hw.hnm n c x h1 h2).lt]; exact h) (hw.hnm n c x h1 h2).obj
    hno := hw.hno
    nmd := hw.nmd
    tabs := hw.tabs
    tlt := hw.tlt
    dd := fun l o hl => by
      have hl : (match G.D l with | some o => some o | none => G1.D l) = some o := hl
      cases hg : G.D l with
      | some q =>
        rw [hg] at hl
        cases hl
        have hd := hw.dd l _ hg
        exact ⟨(hblk l (hw.dlt hg)).trans hd.1, hd.2⟩
      | none =>
        rw [hg] at hl
        have hd := hw1.dd l _ hl
        exact ⟨hd.1, hd.2.1, .inl (Nat.le_trans hw.size (hdn l o hl))⟩
    kdle := Nat.le_trans hw.kdle hsz
    gl := fun g v hg => (hw.gl g v hg).mono' (hle2.toSub.bare)
    mold := fun b off hb => by
      show G1.M b off = G.M0 b off
      rw [hmo b off (Nat.lt_of_lt_of_le (W0.own_lt hb) hw.size)]
      exact hw.mold b off hb
    os := by have := hw1.os; rw [hw0e] at this; exact this.trans hw.os
    tape := by have := hw1.tape; rw [hw0e] at this; exact this.trans hw.tape
    output := by have := hw1.output; rw [hw0e] at this; exact this.trans hw.output
    size := Nat.le_trans hw.size hsz
    block := fun k hk => (hblk k (Nat.lt_of_lt_of_le (W0.own_lt hk) hw.size)).trans (hw.block k hk) }

theorem lendB_cell (p : V → Option V) (c : BC) (off len : Nat) (q : V) (h : lendB p c off len = some q) : q.cells = [q] := by
  cases c with
  | cs sz xs =>
    simp only [lendB] at h
    split at h
    · cases h; rfl
    · cases h
  | arr ty l => simp only [lendB] at h; cases h; rfl
theorem lendN_cell (ob : Ob) (nm : Nm) : ∀ (k : Nat) (u q : V), lendN ob nm k u = some q → q.cells = [q]
  | 0, u, q, h => by cases h
  | k + 1, u, q, h => by
    simp only [lendN] at h
    split at h
    · split at h
      · split at h
        · cases h; rfl
        · cases h
      · cases h
    · split at h
      · exact lendB_cell _ _ _ _ _ h
      · cases h
    · cases h
theorem lendP_cell (ob : Ob) (nm : Nm) : ∀ u q, lendP ob nm u = some q → q.cells = [q] := lendN_cell ob nm 3
theorem flat_take_drop {sz : Nat} {xs : List V} (h : ∀ x ∈ xs, x.cells.length = sz) (off len : Nat) : flat ((xs.drop off).take len) = ((flat xs).drop (off * sz)).take (len * sz) := by
  have h1 : ∀ (xs : List V) (off : Nat), (∀ x ∈ xs, x.cells.length = sz) → flat (xs.drop off) = (flat xs).drop (off * sz) := by
    intro xs
    induction xs with
    | nil => intro off _; simp [flat]
    | cons x xs ih =>
      intro off hx
      cases off with
      | zero => simp
      | succ off =>
        have hc := hx x (by simp)
        have e1 : x.cells.drop (off * sz + sz) = [] := List.drop_eq_nil_of_le (by omega)
        rw [List.drop_succ_cons, ih off (fun y hy => hx y (by simp [hy])), flat_cons, List.drop_append, Nat.succ_mul, e1, List.nil_append, hc, Nat.add_sub_cancel]
  have h2 : ∀ (xs : List V) (len : Nat), (∀ x ∈ xs, x.cells.length = sz) → flat (xs.take len) = (flat xs).take (len * sz) := by
    intro xs
    induction xs with
    | nil => intro len _; simp [flat]
    | cons x xs ih =>
      intro len hx
      cases len with
      | zero => simp [flat]
      | succ len =>
        have hc := hx x (by simp)
        have e1 : x.cells.take (len * sz + sz) = x.cells := List.take_of_length_le (by omega)
        rw [List.take_succ_cons, flat_cons, ih len (fun y hy => hx y (by simp [hy])), flat_cons, List.take_append, Nat.succ_mul, e1, hc, Nat.add_sub_cancel]
  rw [h2 _ _ (fun x hx => h x (List.mem_of_mem_drop hx)), h1 _ _ h]
/-- A slice of a buffer as a list that never changes, where its cells never change. -/
theorem lend_list {G' : Gh} {x : Tail} {xs ys : List V} {sz off len : Nat} {cvs : Array Value} (hsz : ∀ v ∈ xs, v.cells.length = sz) (hx : x.sz = sz) (hl : off + len ≤ xs.length) (hc : off + len ≤ x.cap)
    (hy : ys.length = xs.length) (hysz : ∀ v ∈ ys, v.cells.length = sz) (hr : Rels G' (flat ys) ((cvs.toList.drop x.lo).take (flat ys).length)) (hm : ∀ j, j < (flat ys).length → G'.M x.b (x.lo + j) = cvs[x.lo + j]?) :
    VRel G' (.lst .ro ((ys.drop off).take len)) (.slice (some ⟨x.b, x.lo + off * x.sz, none⟩) len (x.cap - off)) := by
  · have hl2 : ((ys.drop off).take len).length = len := by simp; omega
    have hfl := flat_length hysz
    have e := flat_take_drop hysz off len
    have key : VRel G' (.lst .ro ((ys.drop off).take len)) (.slice (some ⟨x.b, x.lo + off * x.sz, none⟩) ((ys.drop off).take len).length (x.cap - off)) := by
      refine VRel.lst (sz := sz) (cvs := ((((cvs.toList.drop x.lo).take (flat ys).length).drop (off * sz)).take (len * sz))) (fun v hv => hysz v (List.mem_of_mem_drop (List.mem_of_mem_take hv))) ?_ ?_ ?_ (by rw [hl2]; omega) trivial
      · rw [e]
        have := hr.1
        simp only [List.length_take, List.length_drop] at this ⊢
        omega
      · intro j cv hj
        rw [List.getElem?_take, List.getElem?_drop, List.getElem?_take] at hj
        split at hj
        · split at hj
          · rename_i h1 h2
            rw [hx, Nat.add_assoc, hm _ h2]
            rw [List.getElem?_drop] at hj
            simpa using hj
          · cases hj
        · cases hj
      · intro j v cv h1 h2
        rw [e] at h1
        exact ((hr.drop (off * sz)).take (len * sz)).2 j v cv h1 h2
    rw [hl2] at key
    exact key
/-- The blocks of what is lent. -/
def Lent (G : Gh) (ob : Ob) (nm : Nm) (b : Nat) : Prop := (∃ o cs, ob[o]? = some (some cs) ∧ G.H o = some b) ∨ ∃ n c x, nm[n]? = some (some (.live c)) ∧ G.T n = some x ∧ x.b = b
theorem lendN_rel {G0 : Gh} (hw : WRel Γ G ob nm w) (hM0 : ∀ b, Lent G ob nm b → ∀ off, G0.M b off = w.cell? ⟨b, off, none⟩) (hb0 : G.bare.sub G0) : ∀ (k : Nat) (u q : V) (cu : Value), VRel G u cu → lendN ob nm k u = some q → VRel G0 q cu := by
  intro k
  induction k with
  | zero => intro u q cu hu hq; cases hq
  | succ k ih =>
  intro u q cu hu hq
  have hMM : ∀ b off cv, G.M b off = some cv → G0.M b off = some cv := hb0.m
  simp only [lendN] at hq
  split at hq
  · rename_i o off
    split at hq
    · rename_i cs hcs
      split at hq
      · rename_i ys hys
        cases hq
        cases hu
        rename_i b hH
        obtain ⟨_, ⟨c, E, fr, e1, e2, e3, e4⟩, _⟩ := hw.hob o cs b hcs hH
        have e5 : Rels G0 ys (c.toList.take cs.length) := Rels.cl (lendN_cell ob nm k) hMM ih e4 hys
        have hM1 : ∀ off, G0.M b off = w.cell? ⟨b, off, none⟩ := hM0 b (.inl ⟨o, cs, hcs, hH⟩)
        have := VRel.pel (G := G0) (xs := [.agg ys]) (k := 0) (off := off) (b := b) (o0 := 0) (sz := ys.length) (cvs := c.toList.take cs.length)
          (by simp [V.cells]) (by simpa [flat, V.cells] using e5.1) (fun j cv hj => by
            rw [hM1, Nat.zero_add, cell_row e1]
            rw [List.getElem?_take] at hj
            split at hj
            · simpa using hj
            · cases hj) (fun j v cv q1 q2 => e5.2 j v cv (by simpa [flat, V.cells] using q1) q2)
        simpa using this
      · cases hq
    · cases hq
  · rename_i sy n off len
    split at hq
    · rename_i c hcn
      cases hu with
      | bs0 =>
        cases c with
        | cs sz xs =>
          simp only [lendB] at hq
          split at hq
          · cases hq; simp only [List.take_zero]; exact .lst0 _
          · cases hq
        | arr ty l => simp only [lendB] at hq; cases hq; refine .slst ?_; simp only [List.take_zero, List.map_nil]; exact .lst0 _
      | bs1 =>
        have nil1 : ∀ (b o : Nat), VRel G0 (.lst .ro []) (.slice (some ⟨b, o, none⟩) 0 0) := fun b o => VRel.lst (sz := 0) (xs := []) (cvs := []) (by simp) (by simp [flat]) (fun j cv hj => by simp at hj) (fun j v cv hj => by simp [flat] at hj) (by simp) trivial
        cases c with
        | cs sz xs =>
          simp only [lendB] at hq
          split at hq
          · cases hq; simp only [List.take_zero]; exact nil1 _ _
          · cases hq
        | arr ty l => simp only [lendB] at hq; cases hq; refine .slst ?_; simp only [List.take_zero, List.map_nil]; exact nil1 _ _
      | @bs _ _ _ _ x hT hl =>
        have B := hw.hnm n c x hcn hT
        obtain ⟨cvs, E, fr, e1, e2, e3, e4⟩ := B.row
        have hM1 : ∀ off, G0.M x.b off = cvs[off]? := fun off => (hM0 x.b (.inr ⟨n, c, x, hcn, hT, rfl⟩) off).trans (cell_row e1)
        have hcl := B.len
        have hcap := B.cap
        cases c with
        | cs sz xs =>
          simp only [lendB] at hq
          split at hq
          · rename_i ys hys
            cases hq
            have e5 : Rels G0 (flat ys) ((cvs.toList.drop x.lo).take (flat ys).length) := by
              have := Rels.cl (lendN_cell ob nm k) hMM ih e4 (clnL_flat (lendN_cell ob nm k) hys)
              rwa [clnL_len (clnL_flat (lendN_cell ob nm k) hys)]
            simp only [BC.len] at hcl
            refine lend_list (sz := sz) (xs := xs) B.el B.sz (by omega) (by omega) (clnL_len hys) (fun v hv => ?_) e5 (fun j _ => hM1 _)
            obtain ⟨j, hj⟩ := List.getElem?_of_mem hv
            obtain ⟨z, hz, hcz⟩ := clnL_get hys j v hj
            rw [clnL_len (cln_cells (lendN_cell ob nm k) hcz)]
            exact B.el z (List.mem_of_getElem? hz)
          · cases hq
        | arr ty l =>
          simp only [lendB] at hq
          cases hq
          have hys : V.clnL (l.map ty.val) = some (l.map ty.val) := Ty.map_cl noPtr ty l
          have e5 : Rels G0 (flat (l.map ty.val)) ((cvs.toList.drop x.lo).take (flat (l.map ty.val)).length) := (e4.clean (clnL_flat (p := noPtr) (fun _ _ h => noP h) hys)).mono' hb0
          simp only [BC.len] at hcl
          refine .slst ?_
          rw [List.map_take, List.map_drop]
          exact lend_list (sz := ty.size) (xs := l.map ty.val) B.el B.sz (by simp; omega) (by omega) rfl B.el e5 (fun j _ => hM1 _)
    · cases hq
  · cases hq
theorem lendP_rel {G0 : Gh} (hw : WRel Γ G ob nm w) (hM0 : ∀ b, Lent G ob nm b → ∀ off, G0.M b off = w.cell? ⟨b, off, none⟩) (hb0 : G.bare.sub G0) (u q : V) (cu : Value) (hu : VRel G u cu) (hq : lendP ob nm u = some q) : VRel G0 q cu := lendN_rel hw hM0 hb0 3 u q cu hu hq
open Classical in
theorem SemF.lend {f : FuncId} {args args' : List V} {res : V} (h : SemF P Γ f args' [] [] res [] []) (hc : V.lndL ob nm args = some args') (hf : res.flt = true) : SemF P Γ f args ob nm res ob nm := by
  intro G w cargs hw hr
  let M1 : Nat → Nat → Option Value := fun b off => if Lent G ob nm b then w.cell? ⟨b, off, none⟩ else G.M b off
  have hM : ∀ b off cv, G.M b off = some cv → M1 b off = some cv := fun b off cv hm => by
    show (if _ then _ else _) = _
    split
    · exact hw.m b off cv hm
    · exact hm
  let G0 : Gh := { M := M1, H := fun _ => none, T := fun _ => none, D := fun _ => none, kh := 0, kt := 0, w0 := .of w, M0 := M1, kd := 0 }
  have hb0 : G.bare.sub G0 := ⟨hM, (fun _ _ h => by cases h), (fun _ _ h => by cases h), (fun _ _ h => by cases h)⟩
  have hw0 : WRel Γ G0 [] [] w := {
    m := fun b off cv hm => by
      have hm : (if Lent G ob nm b then w.cell? ⟨b, off, none⟩ else G.M b off) = some cv := hm
      split at hm
      · exact hm
      · exact hw.m b off cv hm
    hob := fun o cs b h1 h2 => by simp at h1
    hlt := fun o b h1 => by cases h1
    habs := fun o h1 => rfl
    inj := fun o o' b h1 h2 => by cases h1
    hnm := fun n c x h1 h2 => by simp at h1
    hno := fun n c h1 => by simp at h1
    nmd := fun n n' c c' x x' _ h1 => by simp at h1
    tabs := fun n _ => rfl
    tlt := fun n t h1 => by cases h1
    dd := fun l o h => by cases h
    kdle := Nat.zero_le _
    gl := fun g v hg => (hw.gl g v hg).mono' hb0.bare
    mold := fun b off _ => rfl
    os := rfl
    tape := rfl
    output := rfl
    size := Nat.le_refl _
    block := fun k _ => rfl }
  have hargs : Rels G0 args' cargs := Rels.cl (G' := G0) (lendP_cell ob nm) hM (lendP_rel hw (fun b hb off => if_pos hb) hb0) hr hc
  refine (h G0 w cargs hw0 hargs).mono ?_
  rintro e w' ⟨cv, G1, rfl, hle, hv, hw1⟩
  have hw0e : G1.w0 = .of w := hle.w0
  have hblk : ∀ k, k < w.heap.size → w'.heap[k]? = w.heap[k]? := fun k hk => by
    have := hw1.block k (by rw [hw0e]; exact W0.not_of hk)
    rwa [hw0e] at this
  have hsz : w.heap.size ≤ w'.heap.size := by have := hw1.size; rwa [hw0e] at this
  refine ⟨cv, G, rfl, .refl G, hv.flt G hf, hw.keep hsz hblk ?_ ?_ ?_⟩
  · have := hw1.os; rwa [hw0e] at this
  · have := hw1.tape; rwa [hw0e] at this
  · have := hw1.output; rwa [hw0e] at this

/-! ### A call in a region -/
theorem SemV.call {o : Oper} {c : Call} {x : Operand} {f : FuncId} {fn : Func} {first cap : List V} {res : V} {ob' : Ob} {nm' : Nm} (ho : o.op = .call c) (hc : c.callee = .value x) (hx : σ.eval Γ x = .fn (.func f) first cap)
    (hf : P.funcs[f]? = some fn) (hb : fn.body.isSome = true) (hn : (fn.name == "runtime.NumGoroutine") = false) (h : SemF P Γ f (first ++ c.args.toList.map (σ.eval Γ) ++ cap) σ.ob σ.nm res ob' nm') :
    SemV P Γ o σ res (ob') (nm') := by
  intro ro G a w K Q hr hk
  have hfx := hr.eval x
  rw [hx] at hfx
  generalize he : a.eval x = cx at hfx
  cases hfx with
  | @fn _ _ _ ca cc ha hcc h1 h2 =>
    have r1 : Rels G first ca.toList := ⟨by simpa using ha, fun j v cv g1 g2 => h1 j v cv g1 (by simpa using g2)⟩
    have r2 : Rels G cap cc.toList := ⟨by simpa using hcc, fun j v cv g1 g2 => h2 j v cv g1 (by simpa using g2)⟩
    have r3 : Rels G (c.args.toList.map (σ.eval Γ)) (c.args.toList.map a.eval) := by
      refine ⟨by simp, fun j v cv g1 g2 => ?_⟩
      simp only [List.getElem?_map, Option.map_eq_some_iff] at g1 g2
      obtain ⟨p, hp, rfl⟩ := g1
      obtain ⟨q, hq, rfl⟩ := g2
      rw [hp] at hq
      cases hq
      exact hr.eval p
    have hcall := h G w _ hr.wr ((r1.append r3).append r2)
    have hargs : (ca.toList ++ c.args.toList.map a.eval ++ cc.toList).toArray = ca ++ c.args.map a.eval ++ cc := by
      apply Array.ext'
      simp
    rw [hargs] at hcall
    have hbn : fn.body.isNone = false := by cases hfb : fn.body <;> simp [hfb] at hb ⊢
    refine ⟨fun _ _ => trivial, ?_⟩
    have hrun : (execOp a.eval o).run P w = .ok (.enter f (ca ++ c.args.map a.eval ++ cc)) w := by
      have hn' : ¬ fn.name = "runtime.NumGoroutine" := by simpa using hn
      have hbn' : ¬ fn.body = none := by intro hh; simp [hh] at hb
      simp [execOp, ho, resolve, hc, he, Deferred.ofValue, invoke, callFunc, hf, hbn', hn']
    rw [semAt_of hrun (fun _ h => by cases h)]
    refine ⟨depthR, callsR.2 (((callsX_fn hf).1 hcall).mono ?_)⟩
    rintro e w' ⟨cv, G1, rfl, hle, hv, hw1⟩
    exact hk G1 _ w' hle hv hw1

/-! ### The entry -/
def resOne (P : Program) (σ : St) : ResultVar → Option V
  | .tmp t => some ((σ.tm[t]?).getD (.tup []))
  | .cell t T => match tyAgg P T, tySize P T with | some a, some s => loadV a s σ.ob ((σ.tm[t]?).getD (.tup [])) | _, _ => none
def resL (P : Program) (σ : St) : List ResultVar → Option (List V)
  | [] => some []
  | r :: rs => match resOne P σ r, resL P σ rs with | some v, some vs => some (v :: vs) | _, _ => none
def resV (P : Program) (σ : St) (rs : List ResultVar) : Option V :=
  match resL P σ rs with
  | some [v] => some v
  | some vs => some (.tup vs)
  | none => none
theorem resOne_run {a : Act} {r : ResultVar} {v : V} (hr : Rel Γ G σ a w) (h : resOne P σ r = some v) :
    ∃ cv, ((match r with | .tmp t => pure (a.tmps.getD t undef) | .cell x t => do loadVar t (← asAddr (a.tmps.getD x undef))) : Sem Value).run P w = .ok cv w ∧ VRel G v cv := by
  cases r with
  | tmp t =>
    simp only [resOne, Option.some.injEq] at h
    subst h
    exact ⟨_, rfl, hr.eval (.tmp t)⟩
  | cell t T =>
    simp only [resOne] at h
    split at h
    · rename_i ag s ha hs
      obtain ⟨ad, cv, h1, h2, h3⟩ := VRel.load ha hs hr.wr (hr.eval (.tmp t)) h
      have h1 : a.tmps.getD t undef = .pointer (some ad) := h1
      exact ⟨cv, by simp only [Sem.run_bind, h1, asAddr, Sem.run_pure, Result.andThen_ok, h2], h3⟩
    · cases h
theorem resL_run {a : Act} (hr : Rel Γ G σ a w) : ∀ {rs : List ResultVar} {vs : List V}, resL P σ rs = some vs →
    ∃ cvs, (rs.mapM (m := Sem) fun r => match r with | .tmp t => pure (a.tmps.getD t undef) | .cell x t => do loadVar t (← asAddr (a.tmps.getD x undef))).run P w = .ok cvs w ∧ Rels G vs cvs
  | [], vs, h => by simp [resL] at h; subst h; exact ⟨[], by simp, Rels.nil G⟩
  | r :: rs, vs, h => by
    simp only [resL] at h
    split at h
    · rename_i v vs' h1 h2
      cases h
      obtain ⟨cv, e1, e2⟩ := resOne_run hr h1
      obtain ⟨cvs, e3, e4⟩ := resL_run hr h2
      refine ⟨cv :: cvs, ?_, Rels.cons e2 e4⟩
      rw [List.mapM_cons, Sem.run_bind, e1, Result.andThen_ok, Sem.run_bind, e3]
      rfl
    · cases h
theorem resV_run {a : Act} {fn : Func} {v : V} (hr : Rel Γ G σ a w) (h : resV P σ fn.results.toList = some v) : ∃ cv, (results fn a.tmps).run P w = .ok cv w ∧ VRel G v cv := by
  unfold resV at h
  split at h
  · rename_i x hx
    cases h
    obtain ⟨cvs, e1, e2⟩ := resL_run hr hx
    obtain ⟨cv, rfl⟩ : ∃ cv, cvs = [cv] := by
      match cvs, e2.1 with
      | [c], _ => exact ⟨c, rfl⟩
    refine ⟨cv, ?_, e2.2 0 _ _ rfl rfl⟩
    unfold results
    rw [Array.mapM_eq_mapM_toList, Sem.run_bind, Sem.run_map]
    exact (congrArg (fun z => Result.andThen (Result.andThen z _) _) e1).trans rfl
  · rename_i vs hne hx
    cases h
    obtain ⟨cvs, e1, e2⟩ := resL_run hr hx
    refine ⟨.tuple cvs.toArray, ?_, .tup (by simpa using e2.1) (fun j v cv g1 g2 => e2.2 j v cv g1 (by simpa using g2))⟩
    unfold results
    rw [Array.mapM_eq_mapM_toList, Sem.run_bind, Sem.run_map]
    refine (congrArg (fun z => Result.andThen (Result.andThen z _) _) e1).trans ?_
    have hl : ¬ cvs.toArray.size = 1 := by
      intro hl
      have : vs.length = 1 := by rw [← e2.1]; simpa using hl
      match vs, this with
      | [y], _ => exact hne y rfl
    simp only [Result.andThen, hl, dif_neg, not_false_eq_true]
    rfl
  · cases h
/-- The state in which a body begins. -/
def St.start (n : Nat) (args : List V) (ob : Ob) (nm : Nm) : St := ⟨args ++ List.replicate (n - args.length) (.tup []), ob, nm, ob.length, nm.length⟩
/-- The same but for blocks that are no cells and were laid since the function began. -/
structure Near (G G' : Gh) : Prop where
  m : G'.M = G.M
  h : G'.H = G.H
  t : G'.T = G.T
  kh : G'.kh = G.kh
  kt : G'.kt = G.kt
  w0 : G'.w0 = G.w0
  m0 : G'.M0 = G.M0
  kd : G'.kd = G.kd
  d : ∀ l, l < G.kd → G'.D l = G.D l
def Gh.setD (G : Gh) (b : Nat) (o : Obj) : Gh := { G with D := fun x => if x = b then some o else G.D x }
theorem VRel.setD {G : Gh} {b : Nat} {o o' : Obj} (hb : G.D b = some o') (hl : ∀ r, o' ≠ .loop r) {v : V} {cv : Value} (h : VRel G v cv) : VRel (G.setD b o) v cv :=
  VRel.mono0 (G := G) (G' := G.setD b o) (fun _ _ _ h => h) (fun _ _ h => h) (fun _ _ h => h) (fun l r _ h => by
    simp only [Gh.setD]
    split
    · rename_i e; subst e; rw [hb] at h; cases h; exact absurd rfl (hl r)
    · exact h) h
theorem heap_putObj_other {w : World} {r k : Nat} {o : Obj} (h : k ≠ r) : (w.putObj r o).heap[k]? = w.heap[k]? := World.putObj_heap_other h
theorem noCells_ne {w : World} {b : Nat} {o : Obj} (hb : w.heap[b]? = some o) (ho : o.isCells = false) {k : Nat} {c : Array Value} {E : TypeId} {fr : Nat × Nat} (hk : w.heap[k]? = some (.cells c E fr)) : k ≠ b := by
  rintro rfl
  rw [hb] at hk
  cases hk
  cases ho
/-- A block that is no cells exchanged; G2: a ghost that says so, under which values mean what they meant. -/
theorem WRel.putD {G2 : Gh} (h : WRel Γ G ob nm w) {b : Nat} {o o' : Obj} (hb : G.D b = some o') (ho : o.isCells = false) (hnew : G.w0.own b) (h2 : G2 = G.setD b o)
    (hv : ∀ v ∈ ob.flatMap (fun x => x.getD []), ∀ cv, VRel G v cv → VRel G2 v cv) (hn : ∀ v ∈ nm.flatMap (fun x => match x with | some (.live c) => flat c.els | _ => []), ∀ cv, VRel G v cv → VRel G2 v cv) : WRel Γ G2 ob nm (w.putObj b o) := by
  subst h2
  obtain ⟨d1, d2, _⟩ := h.dd b _ hb
  exact {
    m := fun x off cv hm => by
      have hx : x ≠ b := by
        rintro rfl
        have := h.m _ _ _ hm
        simp only [World.cell?, d1] at this
        cases o' <;> simp at this
        cases d2
      rw [cell_of_heap (w := w) (by exact heap_putObj_other hx)]
      exact h.m _ _ _ hm
    hob := fun o1 cs x h1 h2 => by
      obtain ⟨q1, ⟨q2, q3, q4, q5, q6, q7, q8⟩, q9⟩ := h.hob o1 cs x h1 h2
      refine ⟨q1, ⟨q2, q3, q4, (heap_putObj_other (noCells_ne d1 d2 q5)).trans q5, q6, q7, q8.1, fun j v cv a1 a2 => hv v ?_ cv (q8.2 j v cv a1 a2)⟩, q9⟩
      exact List.mem_flatMap.2 ⟨_, List.mem_of_getElem? h1, List.mem_of_getElem? a1⟩
    hlt := fun o1 x h1 => by rw [World.putObj_size]; exact h.hlt o1 x h1
    habs := h.habs
    inj := h.inj
    hnm := fun n c x h1 h2 => by
      have B := h.hnm n c x h1 h2
      obtain ⟨cvs, E, fr, e1, e2, e3, e4⟩ := B.row
      exact ⟨B.old, ⟨cvs, E, fr, (heap_putObj_other (noCells_ne d1 d2 e1)).trans e1, e2, e3, e4.1, fun j v cv a1 a2 => hn v (List.mem_flatMap.2 ⟨_, List.mem_of_getElem? h1, List.mem_of_getElem? a1⟩) cv (e4.2 j v cv a1 a2)⟩, B.sz, B.el, B.len, B.cap, B.free, B.obj⟩
    hno := h.hno
    nmd := h.nmd
    tabs := h.tabs
    tlt := h.tlt
    kdle := by rw [World.putObj_size]; exact h.kdle
    dd := fun l q hl => by
      simp only [Gh.setD] at hl
      split at hl
      · rename_i e
        subst e
        cases hl
        exact ⟨World.putObj_heap_same (lt_of_heap d1), ho, hnew⟩
      · rename_i e
        obtain ⟨x1, x2⟩ := h.dd l q hl
        exact ⟨(heap_putObj_other e).trans x1, x2⟩
    gl := h.gl
    mold := h.mold
    os := h.os
    tape := h.tape
    output := h.output
    size := by rw [World.putObj_size]; exact h.size
    block := fun k hk => (heap_putObj_other (W0.own_ne (x := G.w0) hnew hk)).trans (h.block k hk) }
theorem Near.refl (G : Gh) : Near G G := ⟨rfl, rfl, rfl, rfl, rfl, rfl, rfl, rfl, fun _ _ => rfl⟩
theorem Near.trans {A B C : Gh} (h : Near A B) (k : Near B C) : Near A C :=
  ⟨k.m.trans h.m, k.h.trans h.h, k.t.trans h.t, k.kh.trans h.kh, k.kt.trans h.kt, k.w0.trans h.w0, k.m0.trans h.m0, k.kd.trans h.kd, fun l hl => (k.d l (by rw [h.kd]; exact hl)).trans (h.d l hl)⟩
theorem leaves_marks {F : Fence} {n : Nat} {fn : Func} {res : V} {R : Ending → World → Prop} (hres : resV P σ fn.results.toList = some res) : ∀ (ds : List Deferred) (G : Gh) (w : World) {a : Act}, Rel Γ G σ { a with defers := ds } w → G.w0.heap.size ≤ G.kd →
    (∀ G2 cv w2, Near G G2 → VRel G2 res cv → WRel Γ G2 σ.ob σ.nm w2 → R (.returned cv) w2) → LeavesInM F n P fn a.tmps R ds .returning w
  | [], G, w, a, hr, _, hk => by
    obtain ⟨cv, h1, h2⟩ := resV_run (fn := fn) hr hres
    exact ⟨cv, h1, hk G cv w (.refl G) h2 hr.wr⟩
  | d :: ds, G, w, a, hr, h0, hk => by
    obtain ⟨D, rfl, hge, hD⟩ := hr.df.at_ d (by simp)
    have hnl : ∀ r, Obj.deferred (some []) ≠ .loop r := fun r h => by cases h
    have hw2 := hr.wr.putD (o := .deferred none) hD rfl (.inl (by omega)) rfl (fun v _ cv h => h.setD hD hnl) (fun v _ cv h => h.setD hD hnl)
    have hnear : Near G (G.setD D (.deferred none)) := ⟨rfl, rfl, rfl, rfl, rfl, rfl, rfl, rfl, fun l hl => if_neg (by omega)⟩
    refine ⟨by simp, .inl ⟨D, _, rfl, run_takeDeferred (hr.wr.dd _ _ hD).1, ?_⟩⟩
    refine leaves_marks hres ds (G.setD D (.deferred none)) _ (a := a) ⟨⟨hr.tm.1, fun j v cv a b => (hr.tm.2 j v cv a b).setD hD hnl⟩, hw2, ⟨(List.nodup_cons.1 hr.df.nd).2, fun d' hd' => ?_⟩, hr.kh, hr.kt⟩ h0 (fun G2 cv w2 hn hv hw2 => hk G2 cv w2 (hnear.trans hn) hv hw2)
    obtain ⟨D', e, h1, h2⟩ := hr.df.at_ d' (by simp [hd'])
    refine ⟨D', e, h1, ?_⟩
    have : D' ≠ D := by
      rintro rfl
      exact (List.nodup_cons.1 hr.df.nd).1 (e ▸ hd')
    simp [Gh.setD, this, h2]
theorem SemF.of_body {f : FuncId} {fn : Func} {c : Code} {args : List V} {ob : Ob} {nm : Nm} {x : Exit} {σ' : St} {res : V} (hf : P.funcs[f]? = some fn) (hb : fn.body = some c) (hx : x = .ret ∨ x = .normal)
    (hc : SemC P Γ c (St.start fn.ntmps args ob nm) x σ') (hres : resV P σ' fn.results.toList = some res) : SemF P Γ f args ob nm res σ'.ob σ'.nm := by
  intro G w cargs hw hr
  refine (callsX_fn hf).2 (callsIn_wide (n := 0).1 (callsIn_of_wp_marks hf hb trivial (wpIn_mono (hc none ((G.reK ob.length nm.length).reD w.heap.size) _ w ⟨?_, (hw.reK _ _).reD (Nat.le_refl _), .nil _, rfl, rfl⟩ (RoOk.none _)) ?_)))
  · have h1 := ((hr.mono' (G.reK_sub ob.length nm.length)).mono' (Gh.reD_sub _ w.heap.size)).append (Rels.replicate _ (VRel.undef _) (fn.ntmps - args.length))
    have : (cargs.toArray ++ Array.replicate (fn.ntmps - cargs.toArray.size) undef).toList = cargs ++ List.replicate (fn.ntmps - args.length) undef := by simp [hr.1]
    rw [this]
    exact h1
  · rintro e a' w' ⟨rfl, G1, hle, r1⟩
    have hkd : G1.kd = w.heap.size := hle.kd
    have key := leaves_marks (F := Fence.wide) (n := 0) (R := fun e w' => ∃ cv G', e = .returned cv ∧ G.le G' ∧ VRel G' res cv ∧ WRel Γ G' σ'.ob σ'.nm w') hres a'.defers G1 w' r1 (by rw [hkd]; exact (by rw [hle.w0]; exact hw.size)) (fun G2 cv w2 hn hv hw2 => ⟨cv, (G2.reK G.kh G.kt).reD G.kd, rfl,
      ⟨⟨fun b off cv h => by show G2.M b off = _; rw [hn.m]; exact hle.m _ _ _ h, fun o b hh => by show G2.H o = _; rw [hn.h]; exact hle.h o b (hw.hlt o b hh).1 hh, fun n x hh => by show G2.T n = _; rw [hn.t]; exact hle.t n x (hw.tlt n x hh) hh,
        fun l o hh => by show G2.D l = _; rw [hn.d l (by rw [hkd]; exact hw.dlt hh)]; exact hle.d _ _ hh⟩, rfl, rfl, hn.w0.trans hle.w0, hn.m0.trans hle.m0, rfl⟩,
      (hv.mono' (Gh.reK_sub _ _ _)).mono' (Gh.reD_sub _ _), (hw2.reK _ _).reD (Nat.le_trans hw.kdle (by have := hw2.kdle; rw [hn.kd, hkd] at this; exact this))⟩)
    rcases hx with rfl | rfl <;> exact key
end
end Go.Proofs.Ytnjjkobijjdnbaa
