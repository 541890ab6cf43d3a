/- The evaluator of one operation. -/
import Derived.Test.YtblnabilodbceaaDoorDv9
set_option linter.unusedVariables false
set_option linter.unusedSimpArgs false
namespace Go.Proofs.YtblnabilodbceaaDoor
open Go

/-! ### Merging -/
mutual
def mergeV (b : Bool) : V → V → Option V
  | .b x, w => match w.bool? with | some (y, s) => some (if s then .sb (bif b then x else y) else if x = y then .b x else .sb (bif b then x else y)) | none => none
  | .sb x, w => match w.bool? with | some (y, _) => some (.sb (bif b then x else y)) | none => none
  | .i k x, w => match w.int? with | some (k', y, s) => if k = k' then some (if s then .si k (bif b then x else y) else if x = y then .i k x else .si k (bif b then x else y)) else none | none => none
  | .si k x, w => match w.int? with | some (k', y, _) => if k = k' then some (.si k (bif b then x else y)) else none | none => none
  | .s x, w => match w.str? with | some (y, _) => some (.ss (bif b then x else y)) | none => none
  | .ss x, w => match w.str? with | some (y, _) => some (.ss (bif b then x else y)) | none => none
  | .nil, w => match w with | .nil => some .nil | _ => none
  | .nilfn, w => match w with | .nilfn => some .nilfn | _ => none
  | .nilifc, w => match w with | .nilifc => some .nilifc | _ => none
  | .ptr o x, w => match w with | .ptr o' x' => if o = o' ∧ x = x' then some (.ptr o x) else none | _ => none
  | .agg xs, w => match w with | .agg ys => (match mergeL b xs ys with | some zs => some (.agg zs) | none => none) | _ => none
  | .tup xs, w => match w with | .tup ys => (match mergeL b xs ys with | some zs => some (.tup zs) | none => none) | _ => none
  | .lst _ [], w => match w with | .lst _ [] => some (.lst .ro []) | _ => none
  | _, _ => none
def mergeL (b : Bool) : List V → List V → Option (List V)
  | [], ws => match ws with | [] => some [] | _ => none
  | x :: xs, ws =>
    match ws with
    | [] => none
    | w :: ws => match mergeV b x w, mergeL b xs ws with | some z, some zs => some (z :: zs) | _, _ => none
end
def MergeOk (b : Bool) (x y z : V) : Prop := ∀ (G : Gh) (cv : Value), VRel G (bif b then x else y) cv → VRel G z cv
theorem mergeV_ok (b : Bool) : ∀ (x y z : V), mergeV b x y = some z → MergeOk b x y z := by
  have key : ∀ (n : Nat) (x y z : V), SizeOf.sizeOf x ≤ n → mergeV b x y = some z → MergeOk b x y z := by
    intro n
    induction n with
    | zero => intro x y z hn; cases x <;> simp at hn
    | succ n ih =>
      intro x y z hn h G cv hr
      have hL : ∀ (xs ys zs : List V), SizeOf.sizeOf xs ≤ n → mergeL b xs ys = some zs → zs.length = (bif b then xs else ys).length ∧ ∀ (j : Nat) (z : V), zs[j]? = some z → ∃ x y, (bif b then xs else ys)[j]? = some (bif b then x else y) ∧ MergeOk b x y z := by
        intro xs
        induction xs with
        | nil =>
          intro ws zs _ h
          cases ws with
          | nil => simp [mergeL] at h; subst h; cases b <;> exact ⟨rfl, fun j z hj => by simp at hj⟩
          | cons w ws => simp [mergeL] at h
        | cons x xs ihx =>
          intro ws zs hs h
          simp at hs
          cases ws with
          | nil => simp [mergeL] at h
          | cons w ws =>
            simp only [mergeL] at h
            split at h
            · rename_i z zs' h1 h2
              cases h
              obtain ⟨g1, g2⟩ := ihx ws zs' (by omega) h2
              refine ⟨by cases b <;> simpa using g1, fun j v hj => ?_⟩
              cases j with
              | zero => simp at hj; subst hj; exact ⟨x, w, by cases b <;> rfl, ih _ _ _ (by omega) h1⟩
              | succ j =>
                simp at hj
                obtain ⟨p, q, e1, e2⟩ := g2 j v hj
                exact ⟨p, q, by cases b <;> simpa using e1, e2⟩
            · cases h
      cases x with
      | b p =>
        simp only [mergeV] at h
        split at h
        · rename_i q s hq
          have e : cv = .bool (bif b then p else q) := by
            cases b
            · exact bool?_eq hq hr
            · cases hr; rfl
          subst e
          split at h
          · cases h; exact .sb _
          · split at h
            · rename_i hpq; subst hpq; cases h; cases b <;> exact .b _
            · cases h; exact .sb _
        · cases h
      | sb p =>
        simp only [mergeV] at h
        split at h
        · rename_i q s hq
          have e : cv = .bool (bif b then p else q) := by
            cases b
            · exact bool?_eq hq hr
            · cases hr; rfl
          subst e
          cases h; exact .sb _
        · cases h
      | i k p =>
        simp only [mergeV] at h
        split at h
        · rename_i k' q s hq
          split at h
          · rename_i hk
            subst hk
            have e : cv = .int k (bif b then p else q) := by
              cases b
              · exact int?_eq hq hr
              · cases hr; rfl
            subst e
            cases h
            split
            · exact .si _ _
            · split
              · rename_i hpq; subst hpq; cases b <;> exact .i _ _
              · exact .si _ _
          · cases h
        · cases h
      | si k p =>
        simp only [mergeV] at h
        split at h
        · rename_i k' q s hq
          split at h
          · rename_i hk
            subst hk
            have e : cv = .int k (bif b then p else q) := by
              cases b
              · exact int?_eq hq hr
              · cases hr; rfl
            subst e
            cases h; exact .si _ _
          · cases h
        · cases h
      | s p =>
        simp only [mergeV] at h
        split at h
        · rename_i q s hq
          have e : cv = .string (bif b then p else q) := by
            cases b
            · exact str?_eq hq hr
            · cases hr; rfl
          subst e
          cases h; exact .ss _
        · cases h
      | ss p =>
        simp only [mergeV] at h
        split at h
        · rename_i q s hq
          have e : cv = .string (bif b then p else q) := by
            cases b
            · exact str?_eq hq hr
            · cases hr; rfl
          subst e
          cases h; exact .ss _
        · cases h
      | nil => simp only [mergeV] at h; split at h <;> cases h; cases b <;> exact hr
      | nilfn => simp only [mergeV] at h; split at h <;> cases h; cases b <;> exact hr
      | nilifc => simp only [mergeV] at h; split at h <;> cases h; cases b <;> exact hr
      | ptr o p =>
        simp only [mergeV] at h
        split at h
        · split at h
          · rename_i hc; obtain ⟨rfl, rfl⟩ := hc; cases h; cases b <;> exact hr
          · cases h
        · cases h
      | agg xs =>
        simp only [mergeV] at h
        split at h
        · rename_i ys
          split at h
          · rename_i zs hz
            cases h
            obtain ⟨g1, g2⟩ := hL xs ys zs (by simp at hn; omega) hz
            have hr' : VRel G (.agg (bif b then xs else ys)) cv := by cases b <;> exact hr
            obtain ⟨c, rfl, hc⟩ := hr'.agg_form
            refine VRel.mk_agg ⟨by rw [hc.1, g1], fun j v cv h1 h2 => ?_⟩
            obtain ⟨p, q, e1, e2⟩ := g2 j v h1
            exact e2 G cv (hc.2 j _ cv e1 h2)
          · cases h
        · cases h
      | tup xs =>
        simp only [mergeV] at h
        split at h
        · rename_i ys
          split at h
          · rename_i zs hz
            cases h
            obtain ⟨g1, g2⟩ := hL xs ys zs (by simp at hn; omega) hz
            have hr' : VRel G (.tup (bif b then xs else ys)) cv := by cases b <;> exact hr
            cases hr'
            rename_i c hl hh
            refine .tup (by rw [hl, g1]) (fun j v cv h1 h2 => ?_)
            obtain ⟨p, q, e1, e2⟩ := g2 j v h1
            exact e2 G cv (hh j _ cv e1 h2)
          · cases h
        · cases h
      | lst t xs =>
        cases xs with
        | nil =>
          simp only [mergeV] at h
          split at h
          · rename_i t'
            cases h
            have hr' : VRel G (.lst (bif b then t else t') []) cv := by cases b <;> exact hr
            generalize hxs : ([] : List V) = xs at hr'
            cases hr' with
            | lst0 => exact .lst0 _
            | lst h1 h2 h3 h4 h5 h6 => subst hxs; exact .lst h1 h2 h3 h4 h5 trivial
          · cases h
        | cons a l => simp [mergeV] at h
      | _ => simp [mergeV] at h
  intro x y z h
  exact key (SizeOf.sizeOf x) x y z (Nat.le_refl _) h
end Go.Proofs.YtblnabilodbceaaDoor
