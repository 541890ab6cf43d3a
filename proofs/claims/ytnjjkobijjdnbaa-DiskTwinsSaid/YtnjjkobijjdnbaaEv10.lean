/- The evaluator of one operation. -/
import Derived.Test.YtnjjkobijjdnbaaEv9a
set_option linter.unusedVariables false
set_option linter.unusedSimpArgs false
namespace Go.Proofs.Ytnjjkobijjdnbaa
open Go

/-! ### Merging -/
mutual
def mergeV (b : Bool) : V → V → Option V
  | .b x, w => match w.bool? with | some (y, s) => some (if s then .sb (bif b then x else y) else if x = y then .b x else .sb (bif b then x else y)) | none => none
  | .sb x, w => match w.bool? with | some (y, _) => some (.sb (bif b then x else y)) | none => none
  | .i k x, w => match w.int? with | some (k', y, s) => if k = k' then some (if s then .si k (bif b then x else y) else if x = y then .i k x else .si k (bif b then x else y)) else none | none => none
  | .si k x, w => match w.int? with | some (k', y, _) => if k = k' then some (.si k (bif b then x else y)) else none | none => none
  | .s x, w => match w.str? with | some (y, _) => some (.ss (bif b then x else y)) | none => none
  | .ss x, w => match w.str? with | some (y, _) => some (.ss (bif b then x else y)) | none => none
  | .nil, w => match w with | .nil => some .nil | _ => none
  | .nilfn, w => match w with | .nilfn => some .nilfn | _ => none
  | .nilifc, w => match w with | .nilifc => some .nilifc | _ => none
  | .ptr o x, w => match w with | .ptr o' x' => if o = o' ∧ x = x' then some (.ptr o x) else none | _ => none
  | .agg xs, w => match w with | .agg ys => (match mergeL b xs ys with | some zs => some (.agg zs) | none => none) | _ => none
  | .tup xs, w => match w with | .tup ys => (match mergeL b xs ys with | some zs => some (.tup zs) | none => none) | _ => none
  | .lst _ [], w => match w with | .lst _ [] => some (.lst .ro []) | .slst _ ty l => some (.slst .ro ty (bif b then [] else l)) | _ => none
  | .slst _ ty l, w => match w with | .slst _ ty' l' => (match listAs ty l' with | some l2 => some (.slst .ro ty (bif b then l else l2)) | none => none) | .lst _ [] => some (.slst .ro ty (bif b then l else [])) | _ => none
  | .fn f xs ys, w => match w with | .fn g us vs => (match f, g with | .func a, .func c => if a = c then (match mergeL b xs us, mergeL b ys vs with | some p, some q => some (.fn (.func a) p q) | _, _ => none) else none | _, _ => none) | _ => none
  | .bs s n off len, w => match w with | .bs s' n' off' len' => if n = n' then (match s || s' with | true => some (.bs true n (bif b then off else off') (bif b then len else len')) | false => if off = off' ∧ len = len' then some (.bs (s || s') n off len) else some (.bs true n (bif b then off else off') (bif b then len else len'))) else none | _ => none
  | .bp n i off, w => match w with | .bp n' i' off' => if n = n' ∧ i = i' ∧ off = off' then some (.bp n i off) else none | _ => none
  | .sl o off len, w => match w with | .sl o' off' len' => if o = o' ∧ off = off' ∧ len = len' then some (.sl o off len) else none | _ => none
  | .ifc t x, w => match w with | .ifc t' y => if t = t' then (match mergeV b x y with | some z => some (.ifc t z) | none => none) else none | _ => none
  | _, _ => none
def mergeL (b : Bool) : List V → List V → Option (List V)
  | [], ws => match ws with | [] => some [] | _ => none
  | x :: xs, ws =>
    match ws with
    | [] => none
    | w :: ws => match mergeV b x w, mergeL b xs ws with | some z, some zs => some (z :: zs) | _, _ => none
end
def MergeOk (b : Bool) (x y z : V) : Prop := ∀ (G : Gh) (cv : Value), VRel G (bif b then x else y) cv → VRel G z cv
theorem mergeV_ok (b : Bool) : ∀ (x y z : V), mergeV b x y = some z → MergeOk b x y z := by
  have key : ∀ (n : Nat) (x y z : V), SizeOf.sizeOf x ≤ n → mergeV b x y = some z → MergeOk b x y z := by
    intro n
    induction n with
    | zero => intro x y z hn; cases x <;> simp at hn
    | succ n ih =>
      intro x y z hn h G cv hr
      have hL : ∀ (xs ys zs : List V), SizeOf.sizeOf xs ≤ n → mergeL b xs ys = some zs → zs.length = (bif b then xs else ys).length ∧ ∀ (j : Nat) (z : V), zs[j]? = some z → ∃ x y, (bif b then xs else ys)[j]? = some (bif b then x else y) ∧ MergeOk b x y z := by
        intro xs
        induction xs with
        | nil =>
          intro ws zs _ h
          cases ws with
          | nil => simp [mergeL] at h; subst h; cases b <;> exact ⟨rfl, fun j z hj => by simp at hj⟩
          | cons w ws => simp [mergeL] at h
        | cons x xs ihx =>
          intro ws zs hs h
          simp at hs
          cases ws with
          | nil => simp [mergeL] at h
          | cons w ws =>
            simp only [mergeL] at h
            split at h
            · rename_i z zs' h1 h2
              cases h
              obtain ⟨g1, g2⟩ := ihx ws zs' (by omega) h2
              refine ⟨by cases b <;> simpa using g1, fun j v hj => ?_⟩
              cases j with
              | zero => simp at hj; subst hj; exact ⟨x, w, by cases b <;> rfl, ih _ _ _ (by omega) h1⟩
              | succ j =>
                simp at hj
                obtain ⟨p, q, e1, e2⟩ := g2 j v hj
                exact ⟨p, q, by cases b <;> simpa using e1, e2⟩
            · cases h
      cases x with
      | b p =>
        simp only [mergeV] at h
        split at h
        · rename_i q s hq
          have e : cv = .bool (bif b then p else q) := by
            cases b
            · exact bool?_eq hq hr
            · cases hr; rfl
          subst e
          split at h
          · cases h; exact .sb _
          · split at h
            · rename_i hpq; subst hpq; cases h; cases b <;> exact .b _
            · cases h; exact .sb _
        · cases h
      | sb p =>
        simp only [mergeV] at h
        split at h
        · rename_i q s hq
          have e : cv = .bool (bif b then p else q) := by
            cases b
            · exact bool?_eq hq hr
            · cases hr; rfl
          subst e
          cases h; exact .sb _
        · cases h
      | i k p =>
        simp only [mergeV] at h
        split at h
        · rename_i k' q s hq
          split at h
          · rename_i hk
            subst hk
            have e : cv = .int k (bif b then p else q) := by
              cases b
              · exact int?_eq hq hr
              · cases hr; rfl
            subst e
            cases h
            split
            · exact .si _ _
            · split
              · rename_i hpq; subst hpq; cases b <;> exact .i _ _
              · exact .si _ _
          · cases h
        · cases h
      | si k p =>
        simp only [mergeV] at h
        split at h
        · rename_i k' q s hq
          split at h
          · rename_i hk
            subst hk
            have e : cv = .int k (bif b then p else q) := by
              cases b
              · exact int?_eq hq hr
              · cases hr; rfl
            subst e
            cases h; exact .si _ _
          · cases h
        · cases h
      | s p =>
        simp only [mergeV] at h
        split at h
        · rename_i q s hq
          have e : cv = .string (bif b then p else q) := by
            cases b
            · exact str?_eq hq hr
            · cases hr; rfl
          subst e
          cases h; exact .ss _
        · cases h
      | ss p =>
        simp only [mergeV] at h
        split at h
        · rename_i q s hq
          have e : cv = .string (bif b then p else q) := by
            cases b
            · exact str?_eq hq hr
            · cases hr; rfl
          subst e
          cases h; exact .ss _
        · cases h
      | nil => simp only [mergeV] at h; split at h <;> cases h; cases b <;> exact hr
      | nilfn => simp only [mergeV] at h; split at h <;> cases h; cases b <;> exact hr
      | nilifc => simp only [mergeV] at h; split at h <;> cases h; cases b <;> exact hr
      | ptr o p =>
        simp only [mergeV] at h
        split at h
        · split at h
          · rename_i hc; obtain ⟨rfl, rfl⟩ := hc; cases h; cases b <;> exact hr
          · cases h
        · cases h
      | agg xs =>
        simp only [mergeV] at h
        split at h
        · rename_i ys
          split at h
          · rename_i zs hz
            cases h
            obtain ⟨g1, g2⟩ := hL xs ys zs (by simp at hn; omega) hz
            have hr' : VRel G (.agg (bif b then xs else ys)) cv := by cases b <;> exact hr
            obtain ⟨c, rfl, hc⟩ := hr'.agg_form
            refine VRel.mk_agg ⟨by rw [hc.1, g1], fun j v cv h1 h2 => ?_⟩
            obtain ⟨p, q, e1, e2⟩ := g2 j v h1
            exact e2 G cv (hc.2 j _ cv e1 h2)
          · cases h
        · cases h
      | tup xs =>
        simp only [mergeV] at h
        split at h
        · rename_i ys
          split at h
          · rename_i zs hz
            cases h
            obtain ⟨g1, g2⟩ := hL xs ys zs (by simp at hn; omega) hz
            have hr' : VRel G (.tup (bif b then xs else ys)) cv := by cases b <;> exact hr
            cases hr'
            rename_i c hl hh
            refine .tup (by rw [hl, g1]) (fun j v cv h1 h2 => ?_)
            obtain ⟨p, q, e1, e2⟩ := g2 j v h1
            exact e2 G cv (hh j _ cv e1 h2)
          · cases h
        · cases h
      | lst t xs =>
        cases xs with
        | nil =>
          simp only [mergeV] at h
          split at h
          · cases h
            cases b
            · exact VRel.lst_ro hr
            · exact VRel.lst_ro hr
          · rename_i t' ty l
            cases h
            cases b
            · cases hr with | slst q => exact .slst q.lst_ro
            · exact .slst (VRel.lst_ro hr)
          · cases h
        | cons a l => simp [mergeV] at h
      | slst t ty l =>
        simp only [mergeV] at h
        split at h
        · rename_i t' ty' l'
          split at h
          · rename_i l2 hl
            cases h
            cases b
            · cases hr with | slst q => exact .slst (by simp only [cond_false]; rw [listAs_eq hl]; exact q.lst_ro)
            · cases hr with | slst q => exact .slst q.lst_ro
          · cases h
        · cases h
          cases b
          · exact .slst (VRel.lst_ro hr)
          · cases hr with | slst q => exact .slst q.lst_ro
        · cases h
      | fn f xs ys =>
        simp only [mergeV] at h
        split at h
        · rename_i g us vs
          split at h
          · rename_i a c
            split at h
            · rename_i hac
              subst hac
              split at h
              · rename_i p q h1 h2
                cases h
                simp at hn
                obtain ⟨g1, g2⟩ := hL xs us p (by omega) h1
                obtain ⟨k1, k2⟩ := hL ys vs q (by omega) h2
                have hr' : VRel G (.fn (.func a) (bif b then xs else us) (bif b then ys else vs)) cv := by cases b <;> exact hr
                cases hr' with
                | fn ha hc q1 q2 =>
                  refine .fn (by rw [ha, g1]) (by rw [hc, k1]) (fun j v cv e1 e2 => ?_) (fun j v cv e1 e2 => ?_)
                  · obtain ⟨p, q, e3, e4⟩ := g2 j v e1
                    exact e4 G cv (q1 j _ cv e3 e2)
                  · obtain ⟨p, q, e3, e4⟩ := k2 j v e1
                    exact e4 G cv (q2 j _ cv e3 e2)
              · cases h
            · cases h
          · cases h
        · cases h
      | bs s n off len =>
        simp only [mergeV] at h
        split at h
        · rename_i s' n' off' len'
          split at h
          · rename_i hnn
            subst hnn
            have go : ∀ (u v : Bool) (o l : Nat), VRel G (.bs u n o l) cv → VRel G (.bs v n o l) cv := fun u v o l hh => by
              cases hh with
              | bs0 => exact .bs0 _ _ _
              | bs1 => exact .bs1 _ _ _ _ _
              | bs h hl => exact .bs h hl
            split at h
            · cases h
              cases b
              · exact go _ _ _ _ hr
              · exact go _ _ _ _ hr
            · split at h
              · rename_i hc
                obtain ⟨rfl, rfl⟩ := hc
                cases h
                cases b
                · exact go _ _ _ _ hr
                · exact go _ _ _ _ hr
              · cases h
                cases b
                · exact go _ _ _ _ hr
                · exact go _ _ _ _ hr
          · cases h
        · cases h
      | bp n i off =>
        simp only [mergeV] at h
        split at h
        · split at h
          · rename_i hc
            obtain ⟨rfl, rfl, rfl⟩ := hc
            cases h
            cases b <;> exact hr
          · cases h
        · cases h
      | sl o off len =>
        simp only [mergeV] at h
        split at h
        · split at h
          · rename_i hc
            obtain ⟨rfl, rfl, rfl⟩ := hc
            cases h
            cases b <;> exact hr
          · cases h
        · cases h
      | ifc t x =>
        simp only [mergeV] at h
        split at h
        · rename_i t' y
          split at h
          · rename_i ht
            subst ht
            split at h
            · rename_i z hz
              cases h
              have hm := ih x y z (by simp at hn; omega) hz
              have hr' : VRel G (.ifc t (bif b then x else y)) cv := by cases b <;> exact hr
              cases hr' with
              | ifc hh => exact .ifc (hm G _ hh)
            · cases h
          · cases h
        · cases h
      | _ => simp [mergeV] at h
  intro x y z h
  exact key (SizeOf.sizeOf x) x y z (Nat.le_refl _) h
/-- Cell by cell. -/
theorem mergeL_get0 (b : Bool) : ∀ {xs ys zs : List V}, mergeL b xs ys = some zs → zs.length = (bif b then xs else ys).length ∧ xs.length = ys.length ∧ ∀ (j : Nat) (z : V), zs[j]? = some z → ∃ x y, xs[j]? = some x ∧ ys[j]? = some y ∧ mergeV b x y = some z
  | [], ws, zs, h => by
    cases ws with
    | nil => simp [mergeL] at h; subst h; cases b <;> exact ⟨rfl, rfl, fun j z hj => by simp at hj⟩
    | cons w ws => simp [mergeL] at h
  | x :: xs, ws, zs, h => by
    cases ws with
    | nil => simp [mergeL] at h
    | cons w ws =>
      simp only [mergeL] at h
      split at h
      · rename_i z zs' h1 h2
        cases h
        obtain ⟨g1, g0, g2⟩ := mergeL_get0 b h2
        refine ⟨by cases b <;> simpa using g1, by simpa using g0, fun j v hj => ?_⟩
        cases j with
        | zero => simp at hj; subst hj; exact ⟨x, w, rfl, rfl, h1⟩
        | succ j =>
          obtain ⟨p, q, e1, e2, e3⟩ := g2 j v (by simpa using hj)
          exact ⟨p, q, by simpa using e1, by simpa using e2, e3⟩
      · cases h
theorem bool?_cells {w : V} {p : Bool × Bool} (h : w.bool? = some p) : w.cells = [w] := by cases w <;> simp [V.bool?] at h <;> rfl
theorem int?_cells {w : V} {p : IntKind × Int × Bool} (h : w.int? = some p) : w.cells = [w] := by cases w <;> simp [V.int?] at h <;> rfl
theorem str?_cells {w : V} {p : ByteArray × Bool} (h : w.str? = some p) : w.cells = [w] := by cases w <;> simp [V.str?] at h <;> rfl
theorem mergeV_cells (b : Bool) {x y z : V} (h : mergeV b x y = some z) : mergeL b x.cells y.cells = some z.cells := by
  have one : ∀ {x y z : V}, mergeV b x y = some z → x.cells = [x] → y.cells = [y] → z.cells = [z] → mergeL b x.cells y.cells = some z.cells := fun h h1 h2 h3 => by
    rw [h1, h2, h3]; simp [mergeL, h]
  cases x with
  | agg xs =>
    simp only [mergeV] at h
    split at h
    · split at h
      · rename_i hz; cases h; exact hz
      · cases h
    · cases h
  | tup xs =>
    have h' := h
    simp only [mergeV] at h
    split at h
    · split at h
      · cases h; exact one h' rfl rfl rfl
      · cases h
    · cases h
  | lst t xs =>
    cases xs with
    | nil =>
      have h' := h
      simp only [mergeV] at h
      split at h <;> first | (cases h; done) | (cases h; exact one h' rfl rfl rfl)
    | cons a l => simp [mergeV] at h
  | any => simp [mergeV] at h
  | pel xs k off => simp [mergeV] at h
  | yl tm ps as bd => simp [mergeV] at h
  | _ =>
    have h' := h
    simp only [mergeV] at h
    repeat' (split at h)
    all_goals first
      | (cases h; done)
      | (cases h; refine one h' rfl ?_ ?_ <;> first | rfl | (exact bool?_cells (by assumption)) | (exact int?_cells (by assumption)) | (exact str?_cells (by assumption)) | (repeat' split) <;> rfl)
end Go.Proofs.Ytnjjkobijjdnbaa
