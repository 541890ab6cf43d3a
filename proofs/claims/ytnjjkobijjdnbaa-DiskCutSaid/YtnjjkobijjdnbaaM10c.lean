/- Parts of the library of texts, one after the other: Ev10, Ev11, Ev11a, Ev11b, Ev11c. -/
import Derived.Test.YtnjjkobijjdnbaaM10b
/- The evaluator of one operation. -/
set_option linter.unusedVariables false
set_option linter.unusedSimpArgs false
namespace Go.Proofs.Ytnjjkobijjdnbaa
open Go

/-! ### Merging -/
mutual
def mergeV (b : Bool) : V → V → Option V
  | .b x, w => match w.bool? with | some (y, s) => some (if s then .sb (bif b then x else y) else if x = y then .b x else .sb (bif b then x else y)) | none => none
  | .sb x, w => match w.bool? with | some (y, _) => some (.sb (bif b then x else y)) | none => none
  | .i k x, w => match w.int? with | some (k', y, s) => if k = k' then some (if s then .si k (bif b then x else y) else if x = y then .i k x else .si k (bif b then x else y)) else none | none => none
  | .si k x, w => match w.int? with | some (k', y, _) => if k = k' then some (.si k (bif b then x else y)) else none | none => none
  | .s x, w => match w.str? with | some (y, _) => some (.ss (bif b then x else y)) | none => none
  | .ss x, w => match w.str? with | some (y, _) => some (.ss (bif b then x else y)) | none => none
  | .nil, w => match w with | .nil => some .nil | _ => none
  | .nilfn, w => match w with | .nilfn => some .nilfn | _ => none
  | .nilifc, w => match w with | .nilifc => some .nilifc | _ => none
  | .ptr o x, w => match w with | .ptr o' x' => if o = o' ∧ x = x' then some (.ptr o x) else none | _ => none
  | .agg xs, w => match w with | .agg ys => (match mergeL b xs ys with | some zs => some (.agg zs) | none => none) | _ => none
  | .tup xs, w => match w with | .tup ys => (match mergeL b xs ys with | some zs => some (.tup zs) | none => none) | _ => none
  | .lst _ [], w => match w with | .lst _ [] => some (.lst .ro []) | .slst _ ty l => some (.slst .ro ty (bif b then [] else l)) | _ => none
  | .slst _ ty l, w => match w with | .slst _ ty' l' => (match listAs ty l' with | some l2 => some (.slst .ro ty (bif b then l else l2)) | none => none) | .lst _ [] => some (.slst .ro ty (bif b then l else [])) | _ => none
  | .fn f xs ys, w => match w with | .fn g us vs => (match f, g with | .func a, .func c => if a = c then (match mergeL b xs us, mergeL b ys vs with | some p, some q => some (.fn (.func a) p q) | _, _ => none) else none | _, _ => none) | _ => none
  | .bs s n off len, w => match w with | .bs s' n' off' len' => if n = n' then (match s || s' with | true => some (.bs true n (bif b then off else off') (bif b then len else len')) | false => if off = off' ∧ len = len' then some (.bs (s || s') n off len) else some (.bs true n (bif b then off else off') (bif b then len else len'))) else none | _ => none
  | .bp n i off, w => match w with | .bp n' i' off' => if n = n' ∧ i = i' ∧ off = off' then some (.bp n i off) else none | _ => none
  | .sl o off len, w => match w with | .sl o' off' len' => if o = o' ∧ off = off' ∧ len = len' then some (.sl o off len) else none | _ => none
  | .ifc t x, w => match w with | .ifc t' y => if t = t' then (match mergeV b x y with | some z => some (.ifc t z) | none => none) else none | _ => none
  | _, _ => none
def mergeL (b : Bool) : List V → List V → Option (List V)
  | [], ws => match ws with | [] => some [] | _ => none
  | x :: xs, ws =>
    match ws with
    | [] => none
    | w :: ws => match mergeV b x w, mergeL b xs ws with | some z, some zs => some (z :: zs) | _, _ => none
end
def MergeOk (b : Bool) (x y z : V) : Prop := ∀ (G : Gh) (cv : Value), VRel G (bif b then x else y) cv → VRel G z cv
theorem mergeV_ok (b : Bool) : ∀ (x y z : V), mergeV b x y = some z → MergeOk b x y z := by
  have key : ∀ (n : Nat) (x y z : V), SizeOf.sizeOf x ≤ n → mergeV b x y = some z → MergeOk b x y z := by
    intro n
    induction n with
    | zero => intro x y z hn; cases x <;> simp at hn
    | succ n ih =>
      intro x y z hn h G cv hr
      have hL : ∀ (xs ys zs : List V), SizeOf.sizeOf xs ≤ n → mergeL b xs ys = some zs → zs.length = (bif b then xs else ys).length ∧ ∀ (j : Nat) (z : V), zs[j]? = some z → ∃ x y, (bif b then xs else ys)[j]? = some (bif b then x else y) ∧ MergeOk b x y z := by
        intro xs
        induction xs with
        | nil =>
          intro ws zs _ h
          cases ws with
          | nil => simp [mergeL] at h; subst h; cases b <;> exact ⟨rfl, fun j z hj => by simp at hj⟩
          | cons w ws => simp [mergeL] at h
        | cons x xs ihx =>
          intro ws zs hs h
          simp at hs
          cases ws with
          | nil => simp [mergeL] at h
          | cons w ws =>
            simp only [mergeL] at h
            split at h
            · rename_i z zs' h1 h2
              cases h
              obtain ⟨g1, g2⟩ := ihx ws zs' (by omega) h2
              refine ⟨by cases b <;> simpa using g1, fun j v hj => ?_⟩
              cases j with
              | zero => simp at hj; subst hj; exact ⟨x, w, by cases b <;> rfl, ih _ _ _ (by omega) h1⟩
              | succ j =>
                simp at hj
                obtain ⟨p, q, e1, e2⟩ := g2 j v hj
                exact ⟨p, q, by cases b <;> simpa using e1, e2⟩
            · cases h
      cases x with
      | b p =>
        simp only [mergeV] at h
        split at h
        · rename_i q s hq
          have e : cv = .bool (bif b then p else q) := by
            cases b
            · exact bool?_eq hq hr
            · cases hr; rfl
          subst e
          split at h
          · cases h; exact .sb _
          · split at h
            · rename_i hpq; subst hpq; cases h; cases b <;> exact .b _
            · cases h; exact .sb _
        · cases h
      | sb p =>
        simp only [mergeV] at h
        split at h
        · rename_i q s hq
          have e : cv = .bool (bif b then p else q) := by
            cases b
            · exact bool?_eq hq hr
            · cases hr; rfl
          subst e
          cases h; exact .sb _
        · cases h
      | i k p =>
        simp only [mergeV] at h
        split at h
        · rename_i k' q s hq
          split at h
          · rename_i hk
            subst hk
            have e : cv = .int k (bif b then p else q) := by
              cases b
              · exact int?_eq hq hr
              · cases hr; rfl
            subst e
            cases h
            split
            · exact .si _ _
            · split
              · rename_i hpq; subst hpq; cases b <;> exact .i _ _
              · exact .si _ _
          · cases h
        · cases h
      | si k p =>
        simp only [mergeV] at h
        split at h
        · rename_i k' q s hq
          split at h
          · rename_i hk
            subst hk
            have e : cv = .int k (bif b then p else q) := by
              cases b
              · exact int?_eq hq hr
              · cases hr; rfl
            subst e
            cases h; exact .si _ _
          · cases h
        · cases h
      | s p =>
        simp only [mergeV] at h
        split at h
        · rename_i q s hq
          have e : cv = .string (bif b then p else q) := by
            cases b
            · exact str?_eq hq hr
            · cases hr; rfl
          subst e
          cases h; exact .ss _
        · cases h
      | ss p =>
        simp only [mergeV] at h
        split at h
        · rename_i q s hq
          have e : cv = .string (bif b then p else q) := by
            cases b
            · exact str?_eq hq hr
            · cases hr; rfl
          subst e
          cases h; exact .ss _
        · cases h
      | nil => simp only [mergeV] at h; split at h <;> cases h; cases b <;> exact hr
      | nilfn => simp only [mergeV] at h; split at h <;> cases h; cases b <;> exact hr
      | nilifc => simp only [mergeV] at h; split at h <;> cases h; cases b <;> exact hr
      | ptr o p =>
        simp only [mergeV] at h
        split at h
        · split at h
          · rename_i hc; obtain ⟨rfl, rfl⟩ := hc; cases h; cases b <;> exact hr
          · cases h
        · cases h
      | agg xs =>
        simp only [mergeV] at h
        split at h
        · rename_i ys
          split at h
          · rename_i zs hz
            cases h
            obtain ⟨g1, g2⟩ := hL xs ys zs (by simp at hn; omega) hz
            have hr' : VRel G (.agg (bif b then xs else ys)) cv := by cases b <;> exact hr
            obtain ⟨c, rfl, hc⟩ := hr'.agg_form
            refine VRel.mk_agg ⟨by rw [hc.1, g1], fun j v cv h1 h2 => ?_⟩
            obtain ⟨p, q, e1, e2⟩ := g2 j v h1
            exact e2 G cv (hc.2 j _ cv e1 h2)
          · cases h
        · cases h
      | tup xs =>
        simp only [mergeV] at h
        split at h
        · rename_i ys
          split at h
          · rename_i zs hz
            cases h
            obtain ⟨g1, g2⟩ := hL xs ys zs (by simp at hn; omega) hz
            have hr' : VRel G (.tup (bif b then xs else ys)) cv := by cases b <;> exact hr
            cases hr'
            rename_i c hl hh
            refine .tup (by rw [hl, g1]) (fun j v cv h1 h2 => ?_)
            obtain ⟨p, q, e1, e2⟩ := g2 j v h1
            exact e2 G cv (hh j _ cv e1 h2)
          · cases h
        · cases h
      | lst t xs =>
        cases xs with
        | nil =>
          simp only [mergeV] at h
          split at h
          · cases h
            cases b
            · exact VRel.lst_ro hr
            · exact VRel.lst_ro hr
          · rename_i t' ty l
            cases h
            cases b
            · cases hr with | slst q => exact .slst q.lst_ro
            · exact .slst (VRel.lst_ro hr)
          · cases h
        | cons a l => simp [mergeV] at h
      | slst t ty l =>
        simp only [mergeV] at h
        split at h
        · rename_i t' ty' l'
          split at h
          · rename_i l2 hl
            cases h
            cases b
            · cases hr with | slst q => exact .slst (by simp only [cond_false]; rw [listAs_eq hl]; exact q.lst_ro)
            · cases hr with | slst q => exact .slst q.lst_ro
          · cases h
        · cases h
          cases b
          · exact .slst (VRel.lst_ro hr)
          · cases hr with | slst q => exact .slst q.lst_ro
        · cases h
      | fn f xs ys =>
        simp only [mergeV] at h
        split at h
        · rename_i g us vs
          split at h
          · rename_i a c
            split at h
            · rename_i hac
              subst hac
              split at h
              · rename_i p q h1 h2
                cases h
                simp at hn
                obtain ⟨g1, g2⟩ := hL xs us p (by omega) h1
                obtain ⟨k1, k2⟩ := hL ys vs q (by omega) h2
                have hr' : VRel G (.fn (.func a) (bif b then xs else us) (bif b then ys else vs)) cv := by cases b <;> exact hr
                cases hr' with
                | fn ha hc q1 q2 =>
                  refine .fn (by rw [ha, g1]) (by rw [hc, k1]) (fun j v cv e1 e2 => ?_) (fun j v cv e1 e2 => ?_)
                  · obtain ⟨p, q, e3, e4⟩ := g2 j v e1
                    exact e4 G cv (q1 j _ cv e3 e2)
                  · obtain ⟨p, q, e3, e4⟩ := k2 j v e1
                    exact e4 G cv (q2 j _ cv e3 e2)
              · cases h
            · cases h
          · cases h
        · cases h
      | bs s n off len =>
        simp only [mergeV] at h
        split at h
        · rename_i s' n' off' len'
          split at h
          · rename_i hnn
            subst hnn
            have go : ∀ (u v : Bool) (o l : Nat), VRel G (.bs u n o l) cv → VRel G (.bs v n o l) cv := fun u v o l hh => by
              cases hh with
              | bs0 => exact .bs0 _ _ _
              | bs1 => exact .bs1 _ _ _ _ _
              | bs h hl => exact .bs h hl
            split at h
            · cases h
              cases b
              · exact go _ _ _ _ hr
              · exact go _ _ _ _ hr
            · split at h
              · rename_i hc
                obtain ⟨rfl, rfl⟩ := hc
                cases h
                cases b
                · exact go _ _ _ _ hr
                · exact go _ _ _ _ hr
              · cases h
                cases b
                · exact go _ _ _ _ hr
                · exact go _ _ _ _ hr
          · cases h
        · cases h
      | bp n i off =>
        simp only [mergeV] at h
        split at h
        · split at h
          · rename_i hc
            obtain ⟨rfl, rfl, rfl⟩ := hc
            cases h
            cases b <;> exact hr
          · cases h
        · cases h
      | sl o off len =>
        simp only [mergeV] at h
        split at h
        · split at h
          · rename_i hc
            obtain ⟨rfl, rfl, rfl⟩ := hc
            cases h
            cases b <;> exact hr
          · cases h
        · cases h
      | ifc t x =>
        simp only [mergeV] at h
        split at h
        · rename_i t' y
          split at h
          · rename_i ht
            subst ht
            split at h
            · rename_i z hz
              cases h
              have hm := ih x y z (by simp at hn; omega) hz
              have hr' : VRel G (.ifc t (bif b then x else y)) cv := by cases b <;> exact hr
              cases hr' with
              | ifc hh => exact .ifc (hm G _ hh)
            · cases h
          · cases h
        · cases h
      | _ => simp [mergeV] at h
  intro x y z h
  exact key (SizeOf.sizeOf x) x y z (Nat.le_refl _) h
/-- Cell by cell. -/
theorem mergeL_get0 (b : Bool) : ∀ {xs ys zs : List V}, mergeL b xs ys = some zs → zs.length = (bif b then xs else ys).length ∧ xs.length = ys.length ∧ ∀ (j : Nat) (z : V), zs[j]? = some z → ∃ x y, xs[j]? = some x ∧ ys[j]? = some y ∧ mergeV b x y = some z
  | [], ws, zs, h => by
    cases ws with
    | nil => simp [mergeL] at h; subst h; cases b <;> exact ⟨rfl, rfl, fun j z hj => by simp at hj⟩
    | cons w ws => simp [mergeL] at h
  | x :: xs, ws, zs, h => by
    cases ws with
    | nil => simp [mergeL] at h
    | cons w ws =>
      simp only [mergeL] at h
      split at h
      · rename_i z zs' h1 h2
        cases h
        obtain ⟨g1, g0, g2⟩ := mergeL_get0 b h2
        refine ⟨by cases b <;> simpa using g1, by simpa using g0, fun j v hj => ?_⟩
        cases j with
        | zero => simp at hj; subst hj; exact ⟨x, w, rfl, rfl, h1⟩
        | succ j =>
          obtain ⟨p, q, e1, e2, e3⟩ := g2 j v (by simpa using hj)
          exact ⟨p, q, by simpa using e1, by simpa using e2, e3⟩
      · cases h
theorem bool?_cells {w : V} {p : Bool × Bool} (h : w.bool? = some p) : w.cells = [w] := by cases w <;> simp [V.bool?] at h <;> rfl
theorem int?_cells {w : V} {p : IntKind × Int × Bool} (h : w.int? = some p) : w.cells = [w] := by cases w <;> simp [V.int?] at h <;> rfl
theorem str?_cells {w : V} {p : ByteArray × Bool} (h : w.str? = some p) : w.cells = [w] := by cases w <;> simp [V.str?] at h <;> rfl
theorem mergeV_cells (b : Bool) {x y z : V} (h : mergeV b x y = some z) : mergeL b x.cells y.cells = some z.cells := by
  have one : ∀ {x y z : V}, mergeV b x y = some z → x.cells = [x] → y.cells = [y] → z.cells = [z] → mergeL b x.cells y.cells = some z.cells := fun h h1 h2 h3 => by
    rw [h1, h2, h3]; simp [mergeL, h]
  cases x with
  | agg xs =>
    simp only [mergeV] at h
    split at h
    · split at h
      · rename_i hz; cases h; exact hz
      · cases h
    · cases h
  | tup xs =>
    have h' := h
    simp only [mergeV] at h
    split at h
    · split at h
      · cases h; exact one h' rfl rfl rfl
      · cases h
    · cases h
  | lst t xs =>
    cases xs with
    | nil =>
      have h' := h
      simp only [mergeV] at h
      split at h <;> first | (cases h; done) | (cases h; exact one h' rfl rfl rfl)
    | cons a l => simp [mergeV] at h
  | any => simp [mergeV] at h
  | pel xs k off => simp [mergeV] at h
  | yl tm ps as bd => simp [mergeV] at h
  | _ =>
    have h' := h
    simp only [mergeV] at h
    repeat' (split at h)
    all_goals first
      | (cases h; done)
      | (cases h; refine one h' rfl ?_ ?_ <;> first | rfl | (exact bool?_cells (by assumption)) | (exact int?_cells (by assumption)) | (exact str?_cells (by assumption)) | (repeat' split) <;> rfl)
end Go.Proofs.Ytnjjkobijjdnbaa

/- The evaluator of one operation: its value, what must hold, its effect. -/
set_option linter.unusedVariables false
set_option linter.unusedSimpArgs false
namespace Go.Proofs.Ytnjjkobijjdnbaa
open Go

/-- What an operation does to the memory beside its value: the objects and buffers it looks at, those it writes, those it lays behind the others. -/
structure Eff where
  ro : List Nat := []
  rn : List Nat := []
  wo : List (Nat × List V) := []
  wn : List (Nat × Bf) := []
  xo : List (Option (List V)) := []
  xn : List (Option Bf) := []
  blk : Option (Ob × Nm) := none   -- it looks at all that there is, and leaves this
  bl : Nat × Nat := (0, 0)   -- of the first ones it leaves all but these as they are
  ko : List Nat := []
  kn : List Nat := []
def Eff.pure : Eff := {}
def Eff.rd (o : Nat) : Eff := { ro := [o] }
def Eff.rds (os ns : List Nat) : Eff := { ro := os, rn := ns }
def Eff.wr (o : Nat) (cs : List V) : Eff := { ro := [o], wo := [(o, cs)] }
def Eff.mkO (o : Nat) (cs : List V) : Eff := { wo := [(o, cs)] }
def setsO : List (Nat × List V) → Ob → Ob
  | [], ob => ob
  | p :: ps, ob => setsO ps (ob.set p.1 (some p.2))
def setsN : List (Nat × Bf) → Nm → Nm
  | [], nm => nm
  | p :: ps, nm => setsN ps (nm.set p.1 (some p.2))
def Eff.ob (e : Eff) (ob : Ob) : Ob := match e.blk with | some p => p.1 | none => match e.xo with | [] => setsO e.wo ob | x :: xs => setsO e.wo ob ++ (x :: xs)
def Eff.nm (e : Eff) (nm : Nm) : Nm := match e.blk with | some p => p.2 | none => match e.xn with | [] => setsN e.wn nm | x :: xs => setsN e.wn nm ++ (x :: xs)
structure Out where
  chk : Bool
  sy : Bool
  v : V
  eff : Eff
def outP (v : V) : Option Out := some ⟨true, false, v, .pure⟩
def outO : Option V → Option Out
  | some v => some ⟨true, false, v, .pure⟩
  | none => none

section
variable {P : Program} {Γ : Nat → Option V} {G : Gh} {ob : Ob} {nm : Nm} {w : World} {σ : St}

/-- A new object at a place that is kept for it. -/
theorem WRel.newObjAt (h : WRel Γ G ob nm w) {s : Nat} (hs : ob[s]? = some none) {cs : List V} {cvs : Array Value} {E : TypeId} (hr : Rels G cs cvs.toList) :
    G.le (G.addH s w.heap.size) ∧ WRel Γ (G.addH s w.heap.size) (ob.set s (some cs)) nm (w.alloc (.cells cvs E)) := by
  have hnone : G.H s = none := h.habs s hs
  have hlt : s < ob.length := by
    rcases Nat.lt_or_ge s ob.length with h' | h'
    · exact h'
    · simp [List.getElem?_eq_none h'] at hs
  have hle := Gh.le_addH (b := w.heap.size) hnone
  have k := h.alloc (.cells cvs E)
  refine ⟨hle, ?_⟩
  exact {
    m := k.m
    hob := fun o cs' b h1 h2 => by
      by_cases ho : o = s
      · subst ho
        simp only [Gh.addH, if_true, Option.some.injEq] at h2
        subst h2
        rw [List.getElem?_set_self hlt] at h1
        have h1 : cs = cs' := by simpa using h1
        subst h1
        refine ⟨.inl h.size, ⟨cvs, E, (0, 0), heap_alloc_self w _, .inl rfl, by have := hr.1; simp at this; omega, ?_⟩, h.mnew⟩
        have hl : cvs.toList.take cs.length = cvs.toList := List.take_of_length_le (by rw [hr.1]; exact Nat.le_refl _)
        rw [hl]
        exact hr.mono hle
      · have h2' : G.H o = some b := by simpa [Gh.addH, ho] using h2
        rw [List.getElem?_set_ne (Ne.symm ho)] at h1
        obtain ⟨a1, ⟨c, E', fr, e1, e2, e3, e4⟩, a3⟩ := k.hob o cs' b h1 h2'
        exact ⟨a1, ⟨c, E', fr, e1, e2, e3, e4.mono hle⟩, a3⟩
    hlt := fun o b h1 => by
      by_cases ho : o = s
      · subst ho
        simp only [Gh.addH, if_true, Option.some.injEq] at h1
        subst h1
        simp; exact hlt
      · have h2' : G.H o = some b := by simpa [Gh.addH, ho] using h1
        have := h.hlt o b h2'
        simp; omega
    habs := fun o h1 => by
      by_cases ho : o = s
      · subst ho; rw [List.getElem?_set_self hlt] at h1; simp at h1
      · rw [List.getElem?_set_ne (Ne.symm ho)] at h1
        simpa [Gh.addH, ho] using h.habs o h1
    inj := fun o o' b h1 h2 => by
      simp only [Gh.addH] at h1 h2
      split at h1 <;> split at h2
      · omega
      · have := (h.hlt _ _ h2).2; have he : w.heap.size = b := Option.some.inj h1; omega
      · have := (h.hlt _ _ h1).2; have he : w.heap.size = b := Option.some.inj h2; omega
      · exact h.inj _ _ _ h1 h2
    hnm := fun n c x h1 h2 => (k.hnm n c x h1 h2).to rfl (fun _ _ h => h.mono hle) (fun _ h => h) (fun _ h => h) (fun o ho => by
      have hx := (h.hnm n c x h1 h2).lt
      simp only [Gh.addH] at ho
      split at ho
      · have he : w.heap.size = x.b := Option.some.inj ho
        omega
      · exact (h.hnm n c x h1 h2).obj o ho)
    hno := k.hno
    nmd := k.nmd
    tabs := k.tabs
    tlt := k.tlt
    dd := k.dd
    kdle := k.kdle
    gl := fun g v hg => (k.gl g v hg).mono' hle.toSub.bare
    mold := k.mold
    os := k.os
    tape := k.tape
    output := k.output
    size := k.size
    block := k.block }
theorem SemV.allocAt {o : Oper} {T : TypeId} {z : V} {s : Nat} (ho : o.op = .alloc T) (hz : tyZero P T = some z) (hn : z.notAny = true) (hs : σ.ob[s]? = some none) : SemV P Γ o σ (.ptr s 0) (σ.ob.set s (some z.cells)) σ.nm :=
  SemV.of_val fun G a w hr => by
    obtain ⟨zv, h1, rfl⟩ := run_zero hz w
    have hc := (ofVal_rel G zv).cells (V.notAny_ne hn)
    obtain ⟨hle, hw⟩ := hr.wr.newObjAt hs (E := T) (cvs := zv.cells) hc
    refine ⟨.pointer (some ⟨w.heap.size, 0, none⟩), _, _, ?_, hle, .ptr (addH_new _ _ _), hw⟩
    simp [execOp, ho, Instr.alloc, h1, newVar, Go.newRow, World.alloc_eq]
theorem SemV.boxAt {o : Oper} {T : TypeId} {x : Operand} {s : Nat} (ho : o.op = .box T x) (hn : (σ.eval Γ x).notAny = true) (hs : σ.ob[s]? = some none) : SemV P Γ o σ (.ptr s 0) (σ.ob.set s (some (σ.eval Γ x).cells)) σ.nm :=
  SemV.of_val fun G a w hr => by
    have hc := (hr.eval x).cells (V.notAny_ne hn)
    obtain ⟨hle, hw⟩ := hr.wr.newObjAt hs (E := T) (cvs := (a.eval x).cells) hc
    refine ⟨.pointer (some ⟨w.heap.size, 0, none⟩), _, _, ?_, hle, .ptr (addH_new _ _ _), hw⟩
    simp [execOp, ho, Instr.box, newVar, Go.newRow, World.alloc_eq]

/-! ### Elements by an index that is not known -/
def selV : List V → Int → Option V
  | [], _ => none
  | [x], _ => some x
  | x :: y :: rest, i => match selV (y :: rest) (i - 1) with | some r => mergeV (decide (i = 0)) x r | none => none
theorem selV_ok : ∀ (xs : List V) (i : Int) (z : V), selV xs i = some z → 0 ≤ i → ∀ x, xs[i.toNat]? = some x → ∀ (G : Gh) (cv : Value), VRel G x cv → VRel G z cv
  | [], i, z, h, _, x, hx, _, _, _ => by simp at hx
  | [y], i, z, h, h0, x, hx, G, cv, hr => by
    simp [selV] at h
    subst h
    have : i.toNat = 0 := by
      rcases Nat.eq_zero_or_pos i.toNat with h' | h'
      · exact h'
      · rw [List.getElem?_eq_none (by simp; omega)] at hx; cases hx
    rw [this] at hx
    simp at hx
    subst hx
    exact hr
  | y :: y' :: rest, i, z, h, h0, x, hx, G, cv, hr => by
    simp only [selV] at h
    split at h
    · rename_i r hsel
      have hm := mergeV_ok _ _ _ _ h G cv
      by_cases hi : i = 0
      · subst hi
        simp at hx
        subst hx
        exact hm (by simpa using hr)
      · have e : i.toNat = (i - 1).toNat + 1 := by omega
        rw [e] at hx
        simp only [List.getElem?_cons_succ] at hx
        have := selV_ok (y' :: rest) (i - 1) r hsel (by omega) x hx G cv hr
        exact hm (by simpa [hi] using this)
    · cases h

def V.isAgg : V → Bool
  | .agg _ => true
  | _ => false
/-- The address of an element: what must hold, whether that is known, and the address. -/
def idxX (sz : Nat) (n : Option Nat) (p : V) (i : Int) (s : Bool) : Option (Bool × Bool × V) :=
  match s with
  | false => match idxV sz n p i with | some q => some (true, false, q) | none => none
  | true =>
    match n, p with
    | none, .lst t xs =>
      match xs with
      | [] => none
      | x :: rest =>
        match selV (x :: rest) i with
        | some z => if (x :: rest).all (fun y => y.cells.length == sz) && (z.cells.length == sz && ((x :: rest).all V.one && z.one || (x :: rest).all V.isAgg && z.isAgg)) then some (decide (0 ≤ i ∧ i < ((x :: rest).length : Int)), true, .pel [z] 0 0) else none
        | none => none
    | some (m + 1), .pel ys k off =>
      match ys[k]? with
      | some y =>
        match selV ((List.range (m + 1)).map fun j => V.agg ((y.cells.drop (off + j * sz)).take sz)) i with
        | some z => if z.isAgg && z.cells.length == sz && decide (off + (m + 1) * sz ≤ y.cells.length) then some (decide (0 ≤ i ∧ i < ((m + 1 : Nat) : Int)), true, .pel [z] 0 0) else none
        | none => none
      | none => none
    | _, _ => none
theorem SemV.indexX {o : Oper} {T e : TypeId} {x y : Operand} {n : Option Nat} {sz : Nat} {k : IntKind} {i : Int} {s c : Bool} {q : V} (ho : o.op = .indexAddr T x y) (ht : tyElem P T = some (n, e)) (hs : tySize P e = some sz) (hy : (σ.eval Γ y).int? = some (k, i, s))
    (hq : idxX sz n (σ.eval Γ x) i s = some (true, c, q)) : SemV P Γ o σ q σ.ob σ.nm := by
  cases s with
  | false =>
    simp only [idxX] at hq
    split at hq
    · rename_i q' hq'
      cases hq
      refine SemV.indexAddr (k := k) ho ht hs ?_ hq'
      generalize σ.eval Γ y = v at hy
      cases v <;> simp [V.int?] at hy
      obtain ⟨rfl, rfl⟩ := hy
      rfl
    · cases hq
  | true =>
    simp only [idxX] at hq
    split at hq <;> try cases hq
    case h_2 m ys k' off hxl =>
      split at hq <;> try cases hq
      rename_i yv hyv
      split at hq <;> try cases hq
      rename_i z hz
      split at hq
      · rename_i hall
        simp only [Bool.and_eq_true, beq_iff_eq, decide_eq_true_eq] at hall
        simp only [Option.some.injEq, Prod.mk.injEq, decide_eq_true_eq] at hq
        obtain ⟨⟨h0, h1⟩, _, rfl⟩ := hq
        refine SemV.of_pure fun G a w hr => ?_
        have hiy := int?_eq hy (hr.eval y)
        have hx := hr.eval x
        rw [hxl] at hx
        have hu := tyElem_array ht
        generalize he : a.eval x = c at hx
        cases hx with
        | @pel _ _ _ b o0 sz0 cvs g1 g2 g3 g4 =>
          have hym : yv ∈ ys := List.mem_of_getElem? hyv
          have hi : i.toNat < m + 1 := by omega
          have hfl : ∀ j v, yv.cells[j]? = some v → (flat ys)[k' * sz0 + j]? = some v := flat_get g1 hyv
          have hlen2 : (flat ys).length = ys.length * sz0 := flat_length g1
          have hk' : k' < ys.length := by
            rcases Nat.lt_or_ge k' ys.length with h' | h'
            · exact h'
            · simp [List.getElem?_eq_none h'] at hyv
          have hkk : k' * sz0 + sz0 ≤ ys.length * sz0 := by rw [← Nat.succ_mul]; exact Nat.mul_le_mul_right _ hk'
          have hys : yv.cells.length = sz0 := g1 _ hym
          have hoff : off + (m + 1) * sz ≤ yv.cells.length := hall.2
          have his : i.toNat * sz + sz ≤ (m + 1) * sz := by rw [← Nat.succ_mul]; exact Nat.mul_le_mul_right _ hi
          generalize hE : i.toNat * sz = E at *
          have hwhole : VRel G (.agg ((yv.cells.drop (off + E)).take sz)) (.agg ((cvs.drop (k' * sz0 + (off + E))).take sz).toArray) := by
            refine VRel.mk_agg ⟨by simp [g2, hlen2]; omega, fun j v cv q1 q2 => ?_⟩
            simp only [List.getElem?_take] at q1 q2
            split at q1
            · rename_i hj
              simp only [hj, if_true] at q2
              rw [List.getElem?_drop] at q1 q2
              have := hfl _ _ q1
              rw [← Nat.add_assoc] at this
              exact g4 _ _ _ this q2
            · cases q1
          have hget : ((List.range (m + 1)).map fun j => V.agg ((yv.cells.drop (off + j * sz)).take sz))[i.toNat]? = some (V.agg ((yv.cells.drop (off + E)).take sz)) := by
            rw [List.getElem?_map, List.getElem?_range hi, ← hE]
            rfl
          have hz' := selV_cells hz h0 hget (.inr ⟨rfl, hall.1.1⟩) hwhole
          refine ⟨.pointer (some ⟨b, o0 + (k' * sz0 + off) + E, none⟩), ?_, ?_⟩
          · have h1' : i < (m : Int) + 1 := by omega
            simp [execOp, ho, Instr.indexAt, hiy, asIntOf, run_underlying hu, he, Instr.sureAddr, h0, h1', run_sizeOf hs, add_none, hE]
          · have := VRel.pel (G := G) (xs := [z]) (k := 0) (off := 0) (b := b) (o0 := o0 + (k' * sz0 + off) + E) (sz := sz) (cvs := (cvs.drop (k' * sz0 + (off + E))).take sz)
              (by simpa using hall.1.2) (by rw [List.length_take, List.length_drop, g2, hlen2, show flat [z] = z.cells by simp [flat], hall.1.2]; omega)
              (fun j cv q1 => by
                rw [List.getElem?_take] at q1
                split at q1
                · rw [List.getElem?_drop] at q1
                  have := g3 _ _ q1
                  rw [← this]
                  congr 1
                  omega
                · cases q1)
              (fun j v cv q1 q2 => by
                have q1 : z.cells[j]? = some v := by simpa [flat] using q1
                exact hz'.2 j v cv q1 q2)
            simpa using this
      · cases hq
    rename_i t xs hxl
    split at hq <;> try cases hq
    rename_i x0 rest
    split at hq <;> try cases hq
    rename_i z hz
    split at hq
    · rename_i hall
      simp only [Option.some.injEq, Prod.mk.injEq, decide_eq_true_eq] at hq
      obtain ⟨⟨h0, h1⟩, _, rfl⟩ := hq
      refine SemV.of_pure fun G a w hr => ?_
      have hiy := int?_eq hy (hr.eval y)
      have hx := hr.eval x
      rw [hxl] at hx
      have hu := tyElem_slice ht
      generalize he : a.eval x = c at hx
      simp only [Bool.and_eq_true, Bool.or_eq_true, beq_iff_eq] at hall
      have hall1 := hall.1
      simp only [List.all_eq_true, beq_iff_eq] at hall1
      generalize hL : (x0 :: rest) = L at *
      have hlt : i.toNat < L.length := by omega
      cases hx with
      | lst0 => simp at hlt
      | lst1 => simp at hlt
      | @lst _ _ b off cap sz0 cvs g1 g2 g3 g4 g5 g6 =>
        have hget : L[i.toNat]? = some L[i.toNat] := List.getElem?_eq_getElem hlt
        have hmem : L[i.toNat] ∈ L := List.getElem_mem hlt
        have hsz : sz0 = sz := (g1 _ hmem).symm.trans (hall1 _ hmem)
        subst hsz
        refine ⟨.pointer (some ⟨b, off + i.toNat * sz0, none⟩), ?_, ?_⟩
        · simp [execOp, ho, Instr.indexAt, hiy, asIntOf, run_underlying hu, he, h0, h1, run_sizeOf hs, add_none]
        · -- the element alone is a row of its own
          have hfl : ∀ j v, (L[i.toNat]).cells[j]? = some v → (flat L)[i.toNat * sz0 + j]? = some v := flat_get g1 hget
          have hlen2 : (flat L).length = L.length * sz0 := flat_length g1
          have hkk : i.toNat * sz0 + sz0 ≤ L.length * sz0 := by rw [← Nat.succ_mul]; exact Nat.mul_le_mul_right _ hlt
          have hwhole : VRel G (.agg (L[i.toNat]).cells) (.agg ((cvs.drop (i.toNat * sz0)).take sz0).toArray) := by
            refine VRel.mk_agg ⟨by simp [g2, hlen2, hall1 _ hmem]; omega, fun j v cv q1 q2 => ?_⟩
            simp only [List.getElem?_take] at q2
            split at q2
            · rw [List.getElem?_drop] at q2
              exact g4 _ _ _ (hfl j v q1) q2
            · cases q2
          have hz' := selV_cells hz h0 hget (hall.2.2.imp (fun q => ⟨List.all_eq_true.1 q.1 _ hmem, q.2⟩) (fun q => ⟨List.all_eq_true.1 q.1 _ hmem, q.2⟩)) hwhole
          have := VRel.pel (G := G) (xs := [z]) (k := 0) (off := 0) (b := b) (o0 := off + i.toNat * sz0) (sz := sz0) (cvs := (cvs.drop (i.toNat * sz0)).take sz0)
            (by simpa using hall.2.1) (by rw [List.length_take, List.length_drop, g2, hlen2, show flat [z] = z.cells by simp [flat], hall.2.1]; omega)
            (fun j cv q1 => by
              rw [List.getElem?_take] at q1
              split at q1
              · rw [List.getElem?_drop] at q1
                have := g3 _ _ q1
                rwa [← Nat.add_assoc] at this
              · cases q1)
            (fun j v cv q1 q2 => by
              have q1 : z.cells[j]? = some v := by simpa [flat] using q1
              exact hz'.2 j v cv q1 q2)
          simpa using this
    · cases hq
where
  selV_cells {xs : List V} {i : Int} {z x : V} {cvs : List Value} {G : Gh} (h : selV xs i = some z) (h0 : 0 ≤ i) (hx : xs[i.toNat]? = some x) (hk : (x.one = true ∧ z.one = true) ∨ (x.isAgg = true ∧ z.isAgg = true)) (hr : VRel G (.agg x.cells) (.agg cvs.toArray)) : Rels G z.cells cvs := by
    obtain ⟨c, e, hc⟩ := hr.agg_form
    have e : cvs.toArray = c := by cases e; rfl
    subst e
    have hc : Rels G x.cells cvs := by simpa using hc
    rcases hk with ⟨k1, k2⟩ | ⟨k1, k2⟩
    · have e1 : x.cells = [x] := by cases x <;> simp [V.one, V.cells] at k1 ⊢
      have e2 : z.cells = [z] := by cases z <;> simp [V.one, V.cells] at k2 ⊢
      rw [e1] at hc
      rw [e2]
      match cvs, hc.1 with
      | [cv], _ => exact Rels.cons (selV_ok xs i z h h0 x hx G cv (hc.2 0 x cv rfl rfl)) (Rels.nil G)
    · obtain ⟨cs, rfl⟩ : ∃ cs, x = .agg cs := by cases x <;> simp [V.isAgg] at k1 ⊢
      obtain ⟨zs, rfl⟩ : ∃ cs, z = .agg cs := by cases z <;> simp [V.isAgg] at k2 ⊢
      have hv : VRel G (.agg cs) (.agg cvs.toArray) := VRel.mk_agg (by simpa [V.cells] using hc)
      have := selV_ok xs i _ h h0 _ hx G _ hv
      obtain ⟨c, e, hc⟩ := this.agg_form
      have e : cvs.toArray = c := by cases e; rfl
      subst e
      simpa [V.cells] using hc
end
end Go.Proofs.Ytnjjkobijjdnbaa

/- Plain data read off values; lists and buffers: elements, parts. -/
set_option linter.unusedVariables false
set_option linter.unusedSimpArgs false
namespace Go.Proofs.Ytnjjkobijjdnbaa
open Go

def optMap {α β : Type} (f : α → Option β) : List α → Option (List β)
  | [] => some []
  | a :: as => match f a, optMap f as with | some b, some bs => some (b :: bs) | _, _ => none
def boolC : List V → Option (Bool × List V)
  | .b x :: vs => some (x, vs)
  | .sb x :: vs => some (x, vs)
  | _ => none
def intC (k : IntKind) : List V → Option (Int × List V)
  | .i k' n :: vs => if k' = k then some (n, vs) else none
  | .si k' n :: vs => if k' = k then some (n, vs) else none
  | _ => none
def strC : List V → Option (ByteArray × List V)
  | .s x :: vs => some (x, vs)
  | .ss x :: vs => some (x, vs)
  | _ => none
def whole {α : Type} (f : List V → Option (α × List V)) (v : V) : Option α := match f v.cells with | some (x, []) => some x | _ => none
def sliceC (e : Ty) (f : List V → Option (e.den × List V)) : List V → Option (List e.den × List V)
  | .slst _ ty l :: vs => match listAs e l with | some l' => some (l', vs) | none => none
  | .lst _ xs :: vs => match optMap (whole f) xs with | some l' => some (l', vs) | none => none
  | _ => none
mutual
/-- Cells read as plain data, and what is left of them. -/
def Ty.ofC : (t : Ty) → List V → Option (t.den × List V)
  | .bool => boolC
  | .int k => intC k
  | .str => strC
  | .agg fs => Ty.ofCs fs
  | .slice e => sliceC e (Ty.ofC e)
def Ty.ofCs : (ts : List Ty) → List V → Option (Ty.dens ts × List V)
  | [] => fun cs => some ((), cs)
  | t :: ts => fun cs => match Ty.ofC t cs with | some (x, r) => (match Ty.ofCs ts r with | some (y, r') => some ((x, y), r') | none => none) | none => none
end
/-- A value read as plain data. -/
def Ty.isAgg : Ty → Bool
  | .agg _ => true
  | _ => false
def V.isAggV : V → Bool
  | .agg _ => true
  | _ => false
def Ty.ofV (t : Ty) (v : V) : Option t.den := if t.isAgg == v.isAggV then whole t.ofC v else none
def Ty.ofVs : (ts : List Ty) → List V → Option (Ty.dens ts)
  | [], [] => some ()
  | t :: ts, v :: vs => match t.ofV v, Ty.ofVs ts vs with | some x, some y => some (x, y) | _, _ => none
  | _, _ => none

/-! ### What is read stands for the same -/
mutual
theorem Ty.cells_len : ∀ (t : Ty) (x : t.den), (t.cells x).length = t.size
  | .bool, x => rfl
  | .int k, x => rfl
  | .str, x => rfl
  | .agg fs, x => Ty.cellss_len fs x
  | .slice e, x => rfl
theorem Ty.cellss_len : ∀ (ts : List Ty) (x : Ty.dens ts), (Ty.cellss ts x).length = Ty.sizes ts
  | [], x => rfl
  | t :: ts, x => by simp only [Ty.cellss, List.length_append, Ty.sizes, Ty.cells_len t x.1, Ty.cellss_len ts x.2]
end
theorem Ty.val_cells (t : Ty) (x : t.den) : (t.val x).cells = t.cells x := by cases t <;> rfl
theorem Ty.val_len (t : Ty) (x : t.den) : (t.val x).cells.length = t.size := by rw [Ty.val_cells, Ty.cells_len]
theorem Rels.split {G : Gh} {a b : List V} {c : List Value} (h : Rels G (a ++ b) c) : Rels G a (c.take a.length) ∧ Rels G b (c.drop a.length) := by
  constructor
  · have := h.take a.length
    rwa [List.take_left'] at this
    rfl
  · have := h.drop a.length
    rwa [List.drop_left'] at this
    rfl
theorem Rels.join {G : Gh} {a b : List V} {c : List Value} (n : Nat) (h : Rels G a (c.take n)) (k : Rels G b (c.drop n)) : Rels G (a ++ b) c := by
  have := h.append k
  rwa [List.take_append_drop] at this
/-- Cells that stand for the same. -/
def CellsOk (e : Ty) (f : List V → Option (e.den × List V)) : Prop := ∀ cs x r, f cs = some (x, r) → cs.length = e.size + r.length ∧ ∀ (G : Gh) (cvs : List Value), Rels G cs cvs → Rels G (e.cells x ++ r) cvs
theorem whole_ok {e : Ty} {f : List V → Option (e.den × List V)} (hf : CellsOk e f) {v : V} {x : e.den} (h : whole f v = some x) : v.cells.length = e.size ∧ ∀ (G : Gh) (cvs : List Value), Rels G v.cells cvs → Rels G (e.cells x) cvs := by
  unfold whole at h
  split at h
  · rename_i y hy
    cases h
    obtain ⟨h1, h2⟩ := hf _ _ _ hy
    refine ⟨by simpa using h1, fun G cvs hr => ?_⟩
    have := h2 G cvs hr
    rwa [List.append_nil] at this
  · cases h
theorem optMap_ok {e : Ty} {f : List V → Option (e.den × List V)} (hf : CellsOk e f) : ∀ {xs : List V} {l : List e.den}, optMap (whole f) xs = some l → l.length = xs.length ∧ (∀ v ∈ xs, v.cells.length = e.size) ∧ ∀ (G : Gh) (cvs : List Value), Rels G (flat xs) cvs → Rels G (flat (l.map e.val)) cvs
  | [], l, h => by simp [optMap] at h; subst h; exact ⟨rfl, (fun v hv => by cases hv), (fun G cvs hr => hr)⟩
  | v :: vs, l, h => by
    simp only [optMap] at h
    split at h
    · rename_i x l' h1 h2
      cases h
      obtain ⟨a1, a2⟩ := whole_ok hf h1
      obtain ⟨b1, b2, b3⟩ := optMap_ok hf h2
      refine ⟨by simp [b1], fun u hu => ?_, fun G cvs hr => ?_⟩
      · rcases List.mem_cons.1 hu with rfl | hu
        · exact a1
        · exact b2 u hu
      · rw [flat_cons] at hr
        rw [List.map_cons, flat_cons, Ty.val_cells]
        exact Rels.join v.cells.length (a2 G _ hr.split.1) (b3 G _ hr.split.2)
    · cases h
theorem lst_as {e : Ty} {f : List V → Option (e.den × List V)} (hf : CellsOk e f) {xs : List V} {l : List e.den} (h : optMap (whole f) xs = some l) {G : Gh} {t : Tag} {cv : Value} (hr : VRel G (.lst t xs) cv) : VRel G (.lst t (l.map e.val)) cv := by
  obtain ⟨h1, h2, h3⟩ := optMap_ok hf h
  cases hr with
  | lst0 =>
    have : l = [] := List.length_eq_zero_iff.1 (by simpa using h1)
    subst this
    exact .lst0 _
  | lst1 p cap =>
    have : l = [] := List.length_eq_zero_iff.1 (by simpa using h1)
    subst this
    exact .lst1 p cap
  | lst hsz hl hm hv hc ht =>
    have hrel := h3 G _ ⟨hl, hv⟩
    have hlen : (l.map e.val).length = xs.length := by simpa using h1
    rw [← hlen]
    rw [← hlen] at hc ht
    refine .lst (sz := e.size) (fun v hv => ?_) hrel.1 hm hrel.2 hc (by cases t <;> exact ht)
    obtain ⟨x, _, rfl⟩ := List.mem_map.1 hv
    exact Ty.val_len e x
theorem sliceC_ok {e : Ty} {f : List V → Option (e.den × List V)} (hf : CellsOk e f) : CellsOk (.slice e) (sliceC e f) := by
  intro cs x r h
  unfold sliceC at h
  split at h
  · split at h
    · rename_i l' hl
      cases h
      refine ⟨by simp [Ty.size]; omega, fun G cvs hr => ⟨hr.1, fun j v cv h1 h2 => ?_⟩⟩
      cases j with
      | zero =>
        simp [Ty.cells] at h1
        subst h1
        have := hr.2 0 _ cv rfl h2
        cases this with
        | slst q => exact .slst (by rw [listAs_eq hl]; exact q.lst_ro)
      | succ j => exact hr.2 (j + 1) v cv (by simpa [Ty.cells] using h1) h2
    · cases h
  · split at h
    · rename_i l' hl
      cases h
      refine ⟨by simp [Ty.size]; omega, fun G cvs hr => ⟨hr.1, fun j v cv h1 h2 => ?_⟩⟩
      cases j with
      | zero =>
        simp [Ty.cells] at h1
        subst h1
        exact .slst (lst_as hf hl (hr.2 0 _ cv rfl h2).lst_ro)
      | succ j => exact hr.2 (j + 1) v cv (by simpa [Ty.cells] using h1) h2
    · cases h
  · cases h
mutual
theorem Ty.ofC_ok : ∀ (t : Ty), CellsOk t t.ofC
  | .bool => by
    intro cs x r h
    simp only [Ty.ofC] at h
    unfold boolC at h
    split at h
    · cases h
      refine ⟨by simp [Ty.size]; omega, fun G cvs hr => ⟨hr.1, fun j v cv h1 h2 => ?_⟩⟩
      cases j with
      | zero => simp [Ty.cells] at h1; subst h1; have := hr.2 0 _ cv rfl h2; cases this; exact .sb _
      | succ j => exact hr.2 (j + 1) v cv (by simpa [Ty.cells] using h1) h2
    · cases h
      exact ⟨by simp [Ty.size]; omega, fun G cvs hr => hr⟩
    · cases h
  | .int k => by
    intro cs x r h
    simp only [Ty.ofC] at h
    unfold intC at h
    split at h
    · split at h
      · rename_i hk
        subst hk
        cases h
        refine ⟨by simp [Ty.size]; omega, fun G cvs hr => ⟨hr.1, fun j v cv h1 h2 => ?_⟩⟩
        cases j with
        | zero => simp [Ty.cells] at h1; subst h1; have := hr.2 0 _ cv rfl h2; cases this; exact .si _ _
        | succ j => exact hr.2 (j + 1) v cv (by simpa [Ty.cells] using h1) h2
      · cases h
    · split at h
      · rename_i hk
        subst hk
        cases h
        exact ⟨by simp [Ty.size]; omega, fun G cvs hr => hr⟩
      · cases h
    · cases h
  | .str => by
    intro cs x r h
    simp only [Ty.ofC] at h
    unfold strC at h
    split at h
    · cases h
      refine ⟨by simp [Ty.size]; omega, fun G cvs hr => ⟨hr.1, fun j v cv h1 h2 => ?_⟩⟩
      cases j with
      | zero => simp [Ty.cells] at h1; subst h1; have := hr.2 0 _ cv rfl h2; cases this; exact .ss _
      | succ j => exact hr.2 (j + 1) v cv (by simpa [Ty.cells] using h1) h2
    · cases h
      exact ⟨by simp [Ty.size]; omega, fun G cvs hr => hr⟩
    · cases h
  | .agg fs => fun cs x r h => Ty.ofCs_ok fs cs x r h
  | .slice e => sliceC_ok (Ty.ofC_ok e)
theorem Ty.ofCs_ok : ∀ (ts : List Ty) (cs : List V) (x : Ty.dens ts) (r : List V), Ty.ofCs ts cs = some (x, r) → cs.length = Ty.sizes ts + r.length ∧ ∀ (G : Gh) (cvs : List Value), Rels G cs cvs → Rels G (Ty.cellss ts x ++ r) cvs
  | [], cs, x, r, h => by simp [Ty.ofCs] at h; obtain ⟨_, rfl⟩ := h; exact ⟨by simp [Ty.sizes], fun G cvs hr => hr⟩
  | t :: ts, cs, x, r, h => by
    simp only [Ty.ofCs] at h
    split at h
    · rename_i y r1 h1
      split at h
      · rename_i z r2 h2
        cases h
        obtain ⟨a1, a2⟩ := Ty.ofC_ok t _ _ _ h1
        obtain ⟨b1, b2⟩ := Ty.ofCs_ok ts _ _ _ h2
        refine ⟨by simp only [Ty.sizes]; omega, fun G cvs hr => ?_⟩
        have q := a2 G cvs hr
        simp only [Ty.cellss, List.append_assoc]
        exact Rels.join (t.cells y).length q.split.1 (b2 G _ q.split.2)
      · cases h
    · cases h
end
theorem Ty.ofV_ok {t : Ty} {v : V} {x : t.den} (h : t.ofV v = some x) {G : Gh} {cv : Value} (hr : VRel G v cv) : VRel G (t.val x) cv := by
  unfold Ty.ofV at h
  split at h
  · rename_i hb
    obtain ⟨h1, h2⟩ := whole_ok (Ty.ofC_ok t) h
    have hany : v ≠ .any := by
      rintro rfl
      unfold whole at h
      cases t <;> simp [V.cells, Ty.ofC, boolC, intC, strC, sliceC, Ty.isAgg, V.isAggV] at h hb
    have hc := h2 G _ (hr.cells hany)
    cases t with
    | agg fs =>
      cases v <;> simp [Ty.isAgg, V.isAggV] at hb
      cases hr with
      | agg hl hh => exact VRel.mk_agg hc
    | _ =>
      have hone : v.cells = [v] := by cases v <;> first | rfl | (simp [Ty.isAgg, V.isAggV] at hb)
      have hcv : cv.cells.toList = [cv] := by
        have := hr.cells hany
        rw [hone] at this
        obtain ⟨l1, l2⟩ := this
        cases cv <;> first | rfl | (cases v <;> first | (cases hr; done) | (simp [Ty.isAgg, V.isAggV] at hb; done) | (exact absurd rfl hany) | (cases hr; rename_i q; obtain ⟨_, _, e⟩ := q.slice_form; cases e))
      rw [hcv] at hc
      exact hc.2 0 _ cv rfl rfl
  · cases h
theorem Ty.ofVs_ok : ∀ {ts : List Ty} {vs : List V} {x : Ty.dens ts}, Ty.ofVs ts vs = some x → ∀ {G : Gh} {cvs : List Value}, Rels G vs cvs → Rels G (Ty.vals ts x) cvs
  | [], [], x, h, G, cvs, hr => hr
  | [], v :: vs, x, h, G, cvs, hr => by cases h
  | t :: ts, [], x, h, G, cvs, hr => by cases h
  | t :: ts, v :: vs, x, h, G, cvs, hr => by
    simp only [Ty.ofVs] at h
    split at h
    · rename_i y z h1 h2
      cases h
      match cvs, hr.1 with
      | c :: cs, _ => exact Rels.cons (Ty.ofV_ok h1 (hr.2 0 v c rfl rfl)) (Ty.ofVs_ok h2 (by simpa using hr.drop 1))
    · cases h
end Go.Proofs.Ytnjjkobijjdnbaa

/- Lists of plain data and buffers: elements by an index, loads and stores, parts. -/
set_option linter.unusedVariables false
set_option linter.unusedSimpArgs false
namespace Go.Proofs.Ytnjjkobijjdnbaa
open Go

section
variable {P : Program} {Γ : Nat → Option V} {G : Gh} {ob : Ob} {nm : Nm} {w : World} {σ : St}

theorem map_getD {α β : Type} {f : α → β} {l : List α} {d : α} {j : Nat} (h : j < l.length) : (l.map f)[j]? = some (f (l.getD j d)) := by
  simp [List.getElem?_eq_getElem h]
/-- An element's place in a list of plain data. -/
theorem VRel.slst_at {t : Tag} {ty : Ty} {l : List ty.den} {cv : Value} (h : VRel G (.slst t ty l) cv) {j : Nat} (hj : j < l.length) :
    ∃ b off cap, cv = .slice (some ⟨b, off, none⟩) l.length cap ∧ VRel G (.pel [ty.val (l.getD j ty.dflt)] 0 0) (.pointer (some ⟨b, off + j * ty.size, none⟩)) := by
  cases h with
  | slst h =>
    generalize hxs : l.map ty.val = xs at h
    have hlen : xs.length = l.length := by rw [← hxs]; simp
    cases h with
    | lst0 => rw [← hlen] at hj; simp at hj
    | lst1 => rw [← hlen] at hj; simp at hj
    | @lst _ _ b off cap sz cvs hsz hl hm hv hc ht =>
      have hj' : j < xs.length := by omega
      have hel : xs[j]? = some (ty.val (l.getD j ty.dflt)) := by rw [← hxs]; exact map_getD hj
      have hs : sz = ty.size := by rw [← hsz _ (List.mem_of_getElem? hel)]; exact Ty.val_len _ _
      subst hs
      refine ⟨b, off, cap, by rw [hlen], ?_⟩
      have hfl : ∀ i v, (ty.val (l.getD j ty.dflt)).cells[i]? = some v → (flat xs)[j * ty.size + i]? = some v := fun i v hi => flat_get hsz hel i v hi
      have hll := flat_length hsz
      have hjj : j * ty.size + ty.size ≤ xs.length * ty.size := by rw [← Nat.succ_mul]; exact Nat.mul_le_mul_right _ hj'
      have hvl : (ty.val (l.getD j ty.dflt)).cells.length = ty.size := Ty.val_len _ _
      have key : VRel G (.pel [ty.val (l.getD j ty.dflt)] 0 0) (.pointer (some ⟨b, (off + j * ty.size) + (0 * ty.size + 0), none⟩)) := by
        refine VRel.pel (sz := ty.size) (cvs := (cvs.drop (j * ty.size)).take ty.size) (fun x hx => ?_) ?_ (fun i cv hi => ?_) (fun i v cv h1 h2 => ?_)
        · simp at hx; subst hx; exact hvl
        · simp only [flat, List.flatMap_cons, List.flatMap_nil, List.append_nil, List.length_take, List.length_drop]; rw [hvl]; omega
        · rw [List.getElem?_take] at hi
          split at hi
          · rw [List.getElem?_drop] at hi
            rw [Nat.add_assoc]
            exact hm _ _ hi
          · cases hi
        · rw [List.getElem?_take] at h2
          split at h2
          · rw [List.getElem?_drop] at h2
            simp [flat] at h1
            exact hv _ _ _ (hfl i v h1) h2
          · cases h2
      simpa using key
theorem SemV.index_slst {o : Oper} {T e : TypeId} {x y : Operand} {sz : Nat} {k : IntKind} {i : Int} {s : Bool} {t : Tag} {ty : Ty} {l : List ty.den} (ho : o.op = .indexAddr T x y) (ht : tyElem P T = some (none, e)) (hs : tySize P e = some sz) (hz : ty.size = sz)
    (hx : σ.eval Γ x = .slst t ty l) (hy : (σ.eval Γ y).int? = some (k, i, s)) (hi : 0 ≤ i ∧ i < (l.length : Int)) : SemV P Γ o σ (.pel [ty.val (l.getD i.toNat ty.dflt)] 0 0) σ.ob σ.nm :=
  SemV.of_pure fun G a w hr => by
    have hiy := int?_eq hy (hr.eval y)
    have hxx := hr.eval x
    rw [hx] at hxx
    obtain ⟨b, off, cap, he, hp⟩ := hxx.slst_at (j := i.toNat) (by omega)
    subst hz
    exact ⟨_, by simp [execOp, ho, Instr.indexAt, hiy, asIntOf, run_underlying (tyElem_slice ht), he, hi.1, hi.2, run_sizeOf hs, add_none], hp⟩
theorem SemV.index_bs {o : Oper} {T e : TypeId} {x y : Operand} {sz : Nat} {k : IntKind} {i : Int} {s : Bool} {sy : Bool} {n off len : Nat} {c : BC} (ho : o.op = .indexAddr T x y) (ht : tyElem P T = some (none, e)) (hs : tySize P e = some sz) (hz : c.sz = sz)
    (hx : σ.eval Γ x = .bs sy n off len) (hn : σ.nm[n]? = some (some (.live c))) (hy : (σ.eval Γ y).int? = some (k, i, s)) (hi : 0 ≤ i ∧ i < (len : Int)) : SemV P Γ o σ (.bp n (off + i.toNat) 0) σ.ob σ.nm :=
  SemV.of_pure fun G a w hr => by
    have hiy := int?_eq hy (hr.eval y)
    have hxx := hr.eval x
    rw [hx] at hxx
    generalize he : a.eval x = cv at hxx
    cases hxx with
    | bs0 => simp at hi; omega
    | bs1 => simp at hi; omega
    | @bs _ _ _ _ tl hT hl =>
      have B := hr.wr.hnm n c tl hn hT
      have hsz : tl.sz = sz := B.sz.trans hz
      refine ⟨_, ?_, VRel.bp (i := off + i.toNat) (off := 0) hT⟩
      simp [execOp, ho, Instr.indexAt, hiy, asIntOf, run_underlying (tyElem_slice ht), he, hi.1, hi.2, run_sizeOf hs, add_none, hsz, Nat.add_mul, Nat.add_assoc]
/-! ### Loads and stores in a buffer -/
/-- An element's cells: what must hold, whether that is known, the cells. -/
def BC.at (c : BC) (i : Nat) : Option (Bool × Bool × List V) :=
  match c with
  | .cs _ xs => match xs[i]? with | some v => some (true, false, v.cells) | none => none
  | .arr ty l => some (decide (i < l.length), true, ty.cells (l.getD i ty.dflt))
theorem BC.at_ok {c : BC} {i : Nat} {s : Bool} {cs : List V} (h : c.at i = some (true, s, cs)) : ∃ v, c.els[i]? = some v ∧ v.cells = cs := by
  cases c with
  | cs sz xs =>
    simp only [BC.at] at h
    split at h
    · rename_i v hv; cases h; exact ⟨v, hv, rfl⟩
    · cases h
  | arr ty l =>
    simp only [BC.at, Option.some.injEq, Prod.mk.injEq, decide_eq_true_eq] at h
    obtain ⟨h1, _, rfl⟩ := h
    exact ⟨_, map_getD h1, Ty.val_cells _ _⟩
theorem VRel.bp_at {n i off : Nat} {c : BC} {cp : Value} {s : Bool} {cs : List V} (hw : WRel Γ G ob nm w) (hn : nm[n]? = some (some (.live c))) (ha : c.at i = some (true, s, cs)) (hp : VRel G (.bp n i off) cp) :
    ∃ (x : Tail) (cvs : Array Value) (E : TypeId) (fr : Nat × Nat), G.T n = some x ∧ cp = .pointer (some ⟨x.b, x.lo + (i * x.sz + off), none⟩) ∧ BufOk G w x c ∧ w.heap[x.b]? = some (.cells cvs E fr) ∧ (fr = (0, 0) ∨ cvs.size ≤ fr.1) ∧ x.lo + x.cap * x.sz ≤ cvs.size ∧
      cs.length = x.sz ∧ i < x.len ∧ Rels G (flat c.els) ((cvs.toList.drop x.lo).take (flat c.els).length) ∧ Rels G cs ((cvs.toList.drop (x.lo + i * x.sz)).take cs.length) := by
  obtain ⟨v, hv, rfl⟩ := BC.at_ok ha
  cases hp with
  | @bp _ _ _ x hT =>
    have B := hw.hnm n c x hn hT
    obtain ⟨cvs, E, fr, e1, e2, e3, e4⟩ := B.row
    have hvl : v.cells.length = x.sz := (B.el v (List.mem_of_getElem? hv)).trans B.sz.symm
    have hil : i < x.len := by rw [← B.len, ← BC.els_len]; exact get_lt' hv
    refine ⟨x, cvs, E, fr, hT, rfl, B, e1, e2, e3, hvl, hil, e4, ?_⟩
    have hel : ∀ u ∈ c.els, u.cells.length = x.sz := fun u hu => (B.el u hu).trans B.sz.symm
    have hll := flat_length hel
    have hjj : i * x.sz + x.sz ≤ c.els.length * x.sz := by rw [← Nat.succ_mul]; exact Nat.mul_le_mul_right _ (by rw [BC.els_len, B.len]; exact hil)
    refine ⟨?_, fun j u cv h1 h2 => ?_⟩
    · have := e4.1
      simp at this ⊢
      omega
    · have hj : j < v.cells.length := get_lt' h1
      have hf := flat_get hel hv j u h1
      rw [List.getElem?_take, if_pos hj, List.getElem?_drop] at h2
      refine e4.2 (i * x.sz + j) u cv hf ?_
      rw [List.getElem?_take, if_pos (by omega), List.getElem?_drop, ← Nat.add_assoc]
      exact h2
where
  get_lt' {α : Type} {l : List α} {i : Nat} {a : α} (h : l[i]? = some a) : i < l.length := by
    rcases Nat.lt_or_ge i l.length with h' | h'
    · exact h'
    · rw [List.getElem?_eq_none h'] at h; cases h
theorem SemV.load_bp {o : Oper} {T : TypeId} {x : Operand} {agg : Bool} {sz n i off : Nat} {c : BC} {s : Bool} {cs : List V} {v : V} (ho : o.op = .load T x) (ha : tyAgg P T = some agg) (hs : tySize P T = some sz) (hx : σ.eval Γ x = .bp n i off) (hn : σ.nm[n]? = some (some (.live c)))
    (hc : c.at i = some (true, s, cs)) (hg : getV agg sz cs off = some v) : SemV P Γ o σ v σ.ob σ.nm :=
  SemV.of_pure fun G a w hr => by
    have hxx := hr.eval x
    rw [hx] at hxx
    obtain ⟨x', cvs, E, fr, hT, he, B, e1, _, _, hcl, _, _, e5⟩ := hxx.bp_at hr.wr hn hc
    obtain ⟨cv, h1, h2⟩ := run_loadVar_at (P := P) ha hs hg e5 x'.b (x'.lo + i * x'.sz) w (fun j cv hj => by
      rw [cell_row e1]
      rw [List.getElem?_take] at hj
      split at hj
      · rw [List.getElem?_drop] at hj
        simpa using hj
      · cases hj)
    rw [Nat.add_assoc] at h1
    exact ⟨cv, by simp [execOp, ho, Instr.loadAt, Instr.sureAddr, he, h1], h2⟩
end
end Go.Proofs.Ytnjjkobijjdnbaa

/- Parts of lists, buffers and strings. -/
set_option linter.unusedVariables false
set_option linter.unusedSimpArgs false
namespace Go.Proofs.Ytnjjkobijjdnbaa
open Go

section
variable {P : Program} {Γ : Nat → Option V} {G : Gh} {ob : Ob} {nm : Nm} {w : World} {σ : St}

abbrev Bd := Option (IntKind × Int × Bool)
/-- A bound, looked at. -/
def bdE (e : Operand → V) : Option Operand → Option Bd
  | none => some none
  | some x => match (e x).int? with | some r => some (some r) | none => none
def Bd.lo (b : Bd) : Int := match b with | some (_, i, _) => i | none => 0
def Bd.hi (b : Bd) (len : Nat) : Int := match b with | some (_, i, _) => i | none => len
def Bd.sy (b : Bd) : Bool := match b with | some (_, _, s) => s | none => false
def Bd.val (b : Bd) : Option Value := match b with | some (k, i, _) => some (.int k i) | none => none
theorem bd_val {a : Act} (hr : Rel Γ G σ a w) {x : Option Operand} {b : Bd} (h : bdE (σ.eval Γ) x = some b) : x.map a.eval = b.val := by
  cases x with
  | none => cases h; rfl
  | some x =>
    simp only [bdE] at h
    split at h
    · rename_i r hx
      cases h
      obtain ⟨k, i, s⟩ := r
      have := int?_eq hx (hr.eval x)
      simp [Bd.val, this]
    · cases h
theorem run_bounds (isS : Bool) {lo hi : Bd} {len cap : Nat} (h0 : 0 ≤ lo.lo) (h1 : lo.lo ≤ hi.hi len) (h2 : hi.hi len ≤ (cap : Int)) : (Instr.sliceBounds isS len cap lo.val hi.val none).run P w = .ok (lo.lo.toNat, (hi.hi len).toNat, cap) w := by
  cases lo with
  | none =>
    cases hi with
    | none => simp [Instr.sliceBounds, Bd.val, Bd.lo, Bd.hi]
    | some p =>
      obtain ⟨k, i, s⟩ := p
      simp only [Bd.lo, Bd.hi] at h0 h1 h2
      simp [Instr.sliceBounds, Bd.val, Bd.lo, Bd.hi, run_sliceBound, h1, h2]
  | some q =>
    obtain ⟨k', i', s'⟩ := q
    cases hi with
    | none =>
      simp only [Bd.lo, Bd.hi] at h0 h1 h2
      simp [Instr.sliceBounds, Bd.val, Bd.lo, Bd.hi, run_sliceBound, h0, h1]
    | some p =>
      obtain ⟨k, i, s⟩ := p
      simp only [Bd.lo, Bd.hi] at h0 h1 h2
      have e : (i.toNat : Int) = i := Int.toNat_of_nonneg (by omega)
      simp [Instr.sliceBounds, Bd.val, Bd.lo, Bd.hi, run_sliceBound, h0, h1, h2, e, (by omega : 0 ≤ i)]

/-- A part of a list that never changes. -/
theorem VRel.lst_part {t : Tag} {xs : List V} {cv : Value} (h : VRel G (.lst t xs) cv) {sz lo hi : Nat} (hsz : ∀ x ∈ xs, x.cells.length = sz) (h1 : lo ≤ hi) (h2 : hi ≤ xs.length) :
    ∃ p cap, cv = .slice p xs.length cap ∧ xs.length ≤ cap ∧ VRel G (.lst .ro ((xs.take hi).drop lo)) (sliced p lo hi cap sz) := by
  cases h with
  | lst0 =>
    simp at h2
    subst h2
    obtain rfl : lo = 0 := by omega
    exact ⟨none, 0, rfl, Nat.le_refl _, by simp [sliced]; exact .lst0 _⟩
  | lst1 p cap =>
    simp at h2
    subst h2
    obtain rfl : lo = 0 := by omega
    exact ⟨p, cap, rfl, Nat.zero_le _, by simp [sliced]; exact .lst1 _ _⟩
  | @lst _ _ b off cap sz' cvs hs hl hm hv hc ht =>
    refine ⟨_, cap, rfl, hc, ?_⟩
    have hlen : ((xs.take hi).drop lo).length = hi - lo := by simp; omega
    unfold sliced
    split
    · rename_i hcl
      have h0 : hi - lo = 0 := by omega
      have hnil : (xs.take hi).drop lo = [] := List.length_eq_zero_iff.1 (by omega)
      have key : VRel G (.lst .ro []) (.slice (some ⟨b, off, none⟩) ([] : List V).length (cap - lo)) := .lst (sz := sz) (cvs := []) (by simp) (by simp [flat]) (fun j cv hj => by simp at hj) (fun j v cv hj => by simp [flat] at hj) (by simp) trivial
      rw [hnil, h0]
      exact key
    · have hfl := flat_length hsz
      have e1 : flat ((xs.take hi).drop lo) = ((flat xs).take (hi * sz)).drop (lo * sz) := by
        have a := flat_take_drop (xs := xs.take hi) (fun x hx => hsz x (List.mem_of_mem_take hx)) lo (hi - lo)
        have b := flat_take_drop hsz 0 hi
        simp only [List.drop_zero, Nat.zero_mul] at b
        rw [List.take_of_length_le (by simp; omega)] at a
        rw [a, b, List.take_of_length_le]
        simp
        rw [Nat.sub_mul]
        omega
      have hle : hi * sz ≤ xs.length * sz := Nat.mul_le_mul_right _ h2
      have key : VRel G (.lst .ro ((xs.take hi).drop lo)) (.slice (some ⟨b, off + lo * sz, none⟩) ((xs.take hi).drop lo).length (cap - lo)) := by
        refine .lst (sz := sz) (cvs := (cvs.take (hi * sz)).drop (lo * sz)) (fun x hx => hsz x (List.mem_of_mem_take (List.mem_of_mem_drop hx))) (by rw [e1]; simp; omega) (fun j cv hj => ?_) (fun j v cv q1 q2 => ?_) (by omega) trivial
        · rw [List.getElem?_drop, List.getElem?_take] at hj
          split at hj
          · rw [Nat.add_assoc]; exact hm _ _ hj
          · cases hj
        · rw [e1, List.getElem?_drop, List.getElem?_take] at q1
          rw [List.getElem?_drop, List.getElem?_take] at q2
          split at q1
          · rename_i hj; rw [if_pos hj] at q2; exact hv _ _ _ q1 q2
          · cases q1
      rw [hlen] at key
      simpa [add_none] using key
theorem run_slice_val {T e : TypeId} {sz : Nat} (ht : tyElem P T = some (none, e)) (hs : tySize P e = some sz) {lo hi : Bd} {p : Option Addr} {len cap : Nat} (h0 : 0 ≤ lo.lo) (h1 : lo.lo ≤ hi.hi len) (h2 : hi.hi len ≤ (cap : Int)) :
    (Instr.sliceAt T (.slice p len cap) lo.val hi.val none).run P w = .ok (sliced p lo.lo.toNat (hi.hi len).toNat cap sz) w := by
  have hb := run_bounds (P := P) (w := w) true h0 h1 h2
  simp [Instr.sliceAt, Instr.slice, run_underlying (tyElem_slice ht), hb, run_sizeOf hs, sliced]
theorem SemV.slice_slst {o : Oper} {T e : TypeId} {x : Operand} {low high : Option Operand} {lo hi : Bd} {sz : Nat} {t : Tag} {ty : Ty} {l : List ty.den} (ho : o.op = .slice T x low high none) (ht : tyElem P T = some (none, e)) (hs : tySize P e = some sz) (hz : ty.size = sz)
    (hx : σ.eval Γ x = .slst t ty l) (hlo : bdE (σ.eval Γ) low = some lo) (hhi : bdE (σ.eval Γ) high = some hi) (h0 : 0 ≤ lo.lo) (h1 : lo.lo ≤ hi.hi l.length) (h2 : hi.hi l.length ≤ (l.length : Int)) :
    SemV P Γ o σ (.slst .ro ty ((l.take (hi.hi l.length).toNat).drop lo.lo.toNat)) σ.ob σ.nm :=
  SemV.of_pure fun G a w hr => by
    have hxx := hr.eval x
    rw [hx] at hxx
    subst hz
    cases hxx with
    | slst h =>
      obtain ⟨p, cap, he, hc, hp⟩ := h.lst_part (sz := ty.size) (lo := lo.lo.toNat) (hi := (hi.hi l.length).toNat) (fun v hv => by obtain ⟨z, _, rfl⟩ := List.mem_map.1 hv; exact Ty.val_len _ _) (by omega) (by simp; omega)
      simp only [List.length_map] at he hc
      have hrun := run_slice_val (P := P) (w := w) ht hs (p := p) (cap := cap) h0 h1 (by omega)
      exact ⟨sliced p lo.lo.toNat (hi.hi l.length).toNat cap ty.size, by simp only [execOp, ho, he, bd_val hr hlo, bd_val hr hhi, Option.map_none, Sem.run_bind, hrun, Result.andThen_ok, Sem.run_pure], .slst (by rw [List.map_drop, List.map_take]; exact hp)⟩
theorem SemV.slice_lst {o : Oper} {T e : TypeId} {x : Operand} {low high : Option Operand} {lo hi : Bd} {sz : Nat} {t : Tag} {xs : List V} (ho : o.op = .slice T x low high none) (ht : tyElem P T = some (none, e)) (hs : tySize P e = some sz) (hz : xs.all (fun v => v.cells.length == sz) = true)
    (hx : σ.eval Γ x = .lst t xs) (hlo : bdE (σ.eval Γ) low = some lo) (hhi : bdE (σ.eval Γ) high = some hi) (h0 : 0 ≤ lo.lo) (h1 : lo.lo ≤ hi.hi xs.length) (h2 : hi.hi xs.length ≤ (xs.length : Int)) :
    SemV P Γ o σ (.lst .ro ((xs.take (hi.hi xs.length).toNat).drop lo.lo.toNat)) σ.ob σ.nm :=
  SemV.of_pure fun G a w hr => by
    have hxx := hr.eval x
    rw [hx] at hxx
    obtain ⟨p, cap, he, hc, hp⟩ := hxx.lst_part (sz := sz) (lo := lo.lo.toNat) (hi := (hi.hi xs.length).toNat) (fun v hv => by simpa using List.all_eq_true.1 hz v hv) (by omega) (by omega)
    have hrun := run_slice_val (P := P) (w := w) ht hs (p := p) (cap := cap) h0 h1 (by omega)
    exact ⟨sliced p lo.lo.toNat (hi.hi xs.length).toNat cap sz, by simp only [execOp, ho, he, bd_val hr hlo, bd_val hr hhi, Option.map_none, Sem.run_bind, hrun, Result.andThen_ok, Sem.run_pure], hp⟩
theorem SemV.slice_bs {o : Oper} {T e : TypeId} {x : Operand} {low high : Option Operand} {lo hi : Bd} {sz : Nat} {sy sy' : Bool} {n off len : Nat} {c : BC} (ho : o.op = .slice T x low high none) (ht : tyElem P T = some (none, e)) (hs : tySize P e = some sz) (hz : c.sz = sz)
    (hx : σ.eval Γ x = .bs sy n off len) (hn : σ.nm[n]? = some (some (.live c))) (hlo : bdE (σ.eval Γ) low = some lo) (hhi : bdE (σ.eval Γ) high = some hi) (h0 : 0 ≤ lo.lo) (h1 : lo.lo ≤ hi.hi len) (h2 : hi.hi len ≤ (len : Int)) :
    SemV P Γ o σ (.bs sy' n (off + lo.lo.toNat) ((hi.hi len).toNat - lo.lo.toNat)) σ.ob σ.nm :=
  SemV.of_pure fun G a w hr => by
    have hxx := hr.eval x
    rw [hx] at hxx
    generalize he : a.eval x = cv at hxx
    cases hxx with
    | bs0 =>
      have hrun := run_slice_val (P := P) (w := w) ht hs (p := none) (cap := 0) h0 h1 (by omega)
      have e1 : lo.lo.toNat = 0 := by omega
      have e2 : (hi.hi 0).toNat = 0 := by omega
      rw [e1, e2] at hrun ⊢
      refine ⟨sliced none 0 0 0 sz, by simp only [execOp, ho, he, bd_val hr hlo, bd_val hr hhi, Option.map_none, Sem.run_bind, hrun, Result.andThen_ok, Sem.run_pure], ?_⟩
      simp [sliced]
      exact .bs0 _ _ _
    | bs1 _ _ _ b o1 =>
      have hrun := run_slice_val (P := P) (w := w) ht hs (p := some ⟨b, o1, none⟩) (cap := 0) h0 h1 (by omega)
      have e1 : lo.lo.toNat = 0 := by omega
      have e2 : (hi.hi 0).toNat = 0 := by omega
      rw [e1, e2] at hrun ⊢
      refine ⟨sliced (some ⟨b, o1, none⟩) 0 0 0 sz, by simp only [execOp, ho, he, bd_val hr hlo, bd_val hr hhi, Option.map_none, Sem.run_bind, hrun, Result.andThen_ok, Sem.run_pure], ?_⟩
      simp [sliced]
      exact .bs1 _ _ _ _ _
    | @bs _ _ _ _ tl hT hl =>
      have B := hr.wr.hnm n c tl hn hT
      have hsz : tl.sz = sz := B.sz.trans hz
      have hcap := B.cap
      have hrun := run_slice_val (P := P) (w := w) ht hs (p := some ⟨tl.b, tl.lo + off * tl.sz, none⟩) (cap := tl.cap - off) h0 h1 (by omega)
      refine ⟨sliced (some ⟨tl.b, tl.lo + off * tl.sz, none⟩) lo.lo.toNat (hi.hi len).toNat (tl.cap - off) sz, by simp only [execOp, ho, he, bd_val hr hlo, bd_val hr hhi, Option.map_none, Sem.run_bind, hrun, Result.andThen_ok, Sem.run_pure], ?_⟩
      unfold sliced
      split
      · rename_i hcl
        have e1 : (hi.hi len).toNat - lo.lo.toNat = 0 := by omega
        have e2 : tl.cap - off - lo.lo.toNat = 0 := by omega
        rw [e1, e2]
        exact .bs1 _ _ _ _ _
      · have key : VRel G (.bs sy' n (off + lo.lo.toNat) ((hi.hi len).toNat - lo.lo.toNat)) (.slice (some ⟨tl.b, tl.lo + (off + lo.lo.toNat) * tl.sz, none⟩) ((hi.hi len).toNat - lo.lo.toNat) (tl.cap - (off + lo.lo.toNat))) := .bs hT (by omega)
        have e1 : tl.cap - off - lo.lo.toNat = tl.cap - (off + lo.lo.toNat) := by omega
        rw [e1]
        simpa [add_none, hsz, Nat.add_mul, Nat.add_assoc] using key
theorem SemV.slice_str {o : Oper} {T : TypeId} {x : Operand} {low high : Option Operand} {lo hi : Bd} {s : ByteArray} {sy : Bool} (ho : o.op = .slice T x low high none) (ht : P.underlying T = some .string)
    (hx : (σ.eval Γ x).str? = some (s, sy)) (hlo : bdE (σ.eval Γ) low = some lo) (hhi : bdE (σ.eval Γ) high = some hi) (h0 : 0 ≤ lo.lo) (h1 : lo.lo ≤ hi.hi s.size) (h2 : hi.hi s.size ≤ (s.size : Int)) :
    SemV P Γ o σ (mkS (sy || lo.sy || hi.sy) (s.extract lo.lo.toNat (hi.hi s.size).toNat)) σ.ob σ.nm :=
  SemV.of_pure fun G a w hr => by
    have hs := str?_eq hx (hr.eval x)
    have hb := run_bounds (P := P) (w := w) false h0 h1 h2
    refine ⟨.string (s.extract lo.lo.toNat (hi.hi s.size).toNat), ?_, mkS_rel _ _ _⟩
    simp [execOp, ho, hs, bd_val hr hlo, bd_val hr hhi, Instr.sliceAt, Instr.slice, run_underlying ht, hb]
end
end Go.Proofs.Ytnjjkobijjdnbaa

