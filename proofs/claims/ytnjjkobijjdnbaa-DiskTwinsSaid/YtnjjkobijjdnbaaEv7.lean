/- Equality of structs and arrays; comparisons with nil. -/
import Derived.Test.YtnjjkobijjdnbaaEv6
set_option linter.unusedVariables false
set_option linter.unusedSimpArgs false
namespace Go.Proofs.Ytnjjkobijjdnbaa
open Go

section
variable {P : Program} {Γ : Nat → Option V} {G : Gh} {ob : Ob} {nm : Nm} {w : World} {σ : St}

/-- A value out of a row of cells, by a type. -/
def partV (P : Program) (T : TypeId) (cs : List V) (off : Nat) : Option V :=
  match tyAgg P T, tySize P T with
  | some agg, some sz => getV agg sz cs off
  | _, _ => none
def andO : Option (Bool × Bool) → Option (Bool × Bool) → Option (Bool × Bool)
  | some (a, s), some (b, s') => some (a && b, s || s')
  | _, _ => none
/-- Equality: the answer, and whether it hangs on what is not known. -/
def eqV (P : Program) : Nat → TypeId → V → V → Option (Bool × Bool)
  | 0, _, _, _ => none
  | d + 1, T, x, y =>
    match P.underlying T with
    | some .bool => match x.bool?, y.bool? with | some (a, s), some (b, s') => some (a == b, s || s') | _, _ => none
    | some (.int _) => match x.int?, y.int? with | some (k, a, s), some (k', b, s') => if k = k' then some (a == b, s || s') else none | _, _ => none
    | some .string => match x.str?, y.str? with | some (a, s), some (b, s') => some (a == b, s || s') | _, _ => none
    | some (.pointer _) =>
      match x, y with
      | .nil, .nil => some (true, false)
      | .nil, .ptr _ _ => some (false, false)
      | .nil, .pel _ _ _ => some (false, false)
      | .ptr _ _, .nil => some (false, false)
      | .pel _ _ _, .nil => some (false, false)
      | _, _ => none
    | some (.func _ _ _) =>
      match x, y with
      | .nilfn, .nilfn => some (true, false)
      | .nilfn, .fn _ _ _ => some (false, false)
      | .fn _ _ _, .nilfn => some (false, false)
      | _, _ => none
    | some (.interface _) =>
      match x, y with
      | .nilifc, .ifc _ _ => some (false, false)
      | .ifc _ _, .nilifc => some (false, false)
      | _, _ => none
    | some (.struct fs) =>
      match x, y with
      | .agg xs, .agg ys =>
        if P.stoodInHeld T then none else
        fs.toList.foldr (fun f r => andO (if f.name = "_" then some (true, false) else
          match partV P f.type xs f.offset, partV P f.type ys f.offset with | some p, some q => eqV P d f.type p q | _, _ => none) r) (some (true, false))
      | _, _ => none
    | some (.array n e) =>
      match x, y, tySize P e with
      | .agg xs, .agg ys, some s =>
        (List.range n).foldr (fun i r => andO (match partV P e xs (i * s), partV P e ys (i * s) with | some p, some q => eqV P d e p q | _, _ => none) r) (some (true, false))
      | _, _, _ => none
    | _ => none

theorem partV_run {T : TypeId} {cs : List V} {c : Array Value} {off : Nat} {v : V} (h : partV P T cs off = some v) (hr : Rels G cs c.toList) (w : World) : ∃ cv, (part T c off).run P w = .ok cv w ∧ VRel G v cv := by
  unfold partV at h
  split at h
  · rename_i agg sz ha hs; exact run_part ha hs hr h w
  · cases h

/-- A loop that looks at one thing after the other and stops at the first 'no'. -/
theorem run_all_list {α : Type} (bd : α → Option Bool × PUnit → Sem (ForInStep (Option Bool × PUnit))) (val : α → Option (Bool × Bool)) (w : World) : ∀ (l : List α) (r : Bool) (z : Bool), l.foldr (fun x r => andO (val x) r) (some (true, false)) = some (r, z) →
    (∀ x ∈ l, ∀ t s, val x = some (t, s) → (bd x (none, PUnit.unit)).run P w = .ok (if t then ForInStep.yield (none, PUnit.unit) else ForInStep.done (some false, PUnit.unit)) w) →
    (forIn (m := Sem) l (none, PUnit.unit) bd).run P w = .ok ((if r then none else some false), PUnit.unit) w := by
  intro l
  induction l with
  | nil => intro r z h _; simp at h; obtain ⟨rfl, rfl⟩ := h; simp
  | cons x l ih =>
    intro r z h hg
    simp only [List.foldr_cons] at h
    cases hx : val x with
    | none => simp [hx, andO] at h
    | some t =>
      obtain ⟨t, ts⟩ := t
      generalize hl : l.foldr (fun x r => andO (val x) r) (some (true, false)) = rl at h
      cases rl with
      | none => simp [hx, andO] at h
      | some s =>
        obtain ⟨s, ss⟩ := s
        simp [hx, andO] at h
        obtain ⟨h, _⟩ := h
        subst h
        have h1 := hg x (by simp) t ts hx
        have h2 := ih s ss hl (fun y hy => hg y (by simp [hy]))
        cases t with
        | false => simp [h1]
        | true => simp [h1] at h2 ⊢; exact h2

theorem eqV_run : ∀ (d : Nat) (T : TypeId) (x y : V) (cx cy : Value) (r z : Bool) (w : World), VRel G x cx → VRel G y cy → eqV P d T x y = some (r, z) → ∀ k, (Op.equalIn (d + k) T cx cy).run P w = .ok r w := by
  intro d
  induction d with
  | zero => intro T x y cx cy r z w _ _ h; simp [eqV] at h
  | succ d ih =>
    intro T x y cx cy r z w hx hy h k
    rw [show d + 1 + k = (d + k) + 1 by omega]
    simp only [eqV] at h
    split at h
    · rename_i hu
      split at h <;> simp at h
      rename_i e1 e2
      obtain ⟨h, _⟩ := h
      have := bool?_eq e1 hx; have := bool?_eq e2 hy; subst_vars
      simp [Op.equalIn, run_underlying hu]
    · rename_i kk hu
      split at h <;> simp at h
      rename_i e1 e2
      obtain ⟨h1, h2, _⟩ := h
      have := int?_eq e1 hx; have := int?_eq e2 hy; subst_vars
      simp [Op.equalIn, run_underlying hu]
    · rename_i hu
      split at h <;> simp at h
      rename_i e1 e2
      obtain ⟨h, _⟩ := h
      have := str?_eq e1 hx; have := str?_eq e2 hy; subst_vars
      simp [Op.equalIn, run_underlying hu]
    · rename_i e hu
      split at h <;> simp at h <;> obtain ⟨rfl, _⟩ := h <;> cases hx <;> cases hy <;> simp [Op.equalIn, run_underlying hu]
    · rename_i p1 p2 p3 hu
      split at h <;> simp at h <;> obtain ⟨rfl, _⟩ := h <;> cases hx <;> cases hy <;> simp [Op.equalIn, run_underlying hu]
    · rename_i ms hu
      split at h <;> simp at h <;> obtain ⟨rfl, _⟩ := h <;> cases hx <;> cases hy <;> simp [Op.equalIn, run_underlying hu]
    · rename_i fs hu
      split at h <;> try cases h
      rename_i xs ys
      split at h
      · cases h
      · rename_i hst
        obtain ⟨cxs, rfl, rx⟩ := hx.agg_form
        obtain ⟨cys, rfl, ry⟩ := hy.agg_form
        have hl := run_all_list (P := P) (fun f (_ : Option Bool × PUnit) => (do
            if f.name ≠ "_" then
              if !(← Op.equalIn (d + k) f.type (← part f.type cxs f.offset) (← part f.type cys f.offset)) then pure (ForInStep.done (some false, PUnit.unit)) else pure (ForInStep.yield (none, PUnit.unit))
            else pure (ForInStep.yield (none, PUnit.unit)) : Sem (ForInStep (Option Bool × PUnit)))) _ w fs.toList r z h (fun f hf t ts ht => by
          by_cases hn : f.name = "_"
          · simp [hn] at ht; obtain ⟨rfl, _⟩ := ht; simp [hn]
          · simp only [hn, if_false] at ht
            split at ht
            · rename_i p q hp hq
              obtain ⟨cp, e1, e2⟩ := partV_run hp rx w
              obtain ⟨cq, e3, e4⟩ := partV_run hq ry w
              have e5 := ih f.type p q cp cq t ts w e2 e4 ht k
              cases t <;> simp [hn, e1, e3, e5]
            · cases ht)
        have hst : P.stoodInHeld T = false := by simpa using hst
        simp only [Op.equalIn, Sem.run_bind, run_underlying hu, Result.andThen_ok, run_program, hst]
        rw [← Array.forIn_toList]
        simp only [Bool.false_eq_true, if_false, ne_eq, ite_not, Bool.not_eq_true'] at hl ⊢
        rw [Sem.run_bind]
        refine Eq.trans (congrArg (fun z => Result.andThen z _) hl) ?_
        cases r <;> rfl
    · rename_i n e hu
      split at h <;> try cases h
      rename_i xs ys s hs
      obtain ⟨cxs, rfl, rx⟩ := hx.agg_form
      obtain ⟨cys, rfl, ry⟩ := hy.agg_form
      have hl := run_all_list (P := P) (fun i (_ : Option Bool × PUnit) => (do
          if !(← Op.equalIn (d + k) e (← part e cxs (i * s)) (← part e cys (i * s))) then pure (ForInStep.done (some false, PUnit.unit)) else pure (ForInStep.yield (none, PUnit.unit)) : Sem (ForInStep (Option Bool × PUnit)))) _ w (List.range n) r z h (fun f hf t ts ht => by
        split at ht
        · rename_i p q hp hq
          obtain ⟨cp, e1, e2⟩ := partV_run hp rx w
          obtain ⟨cq, e3, e4⟩ := partV_run hq ry w
          have e5 := ih e p q cp cq t ts w e2 e4 ht k
          cases t <;> simp [e1, e3, e5]
        · cases ht)
      simp only [Op.equalIn, Sem.run_bind, run_underlying hu, Result.andThen_ok, run_program, run_sizeOf hs]
      rw [Std.Legacy.Range.forIn_eq_forIn_range']
      have hsz : ([:n] : Std.Legacy.Range).size = n := by simp [Std.Legacy.Range.size]
      simp only [Bool.not_eq_true', hsz, ← List.range_eq_range'] at hl ⊢
      refine Eq.trans (congrArg (fun z => Result.andThen z _) hl) ?_
      cases r <;> rfl
    · cases h
def V.plainEq : V → Bool
  | .b _ | .sb _ | .nil | .ptr _ _ | .pel _ _ _ | .fn _ _ _ | .nilfn | .ifc _ _ | .nilifc | .agg _ => true
  | _ => false
def eqGuardOk (P : Program) (T : TypeId) : V → V → Bool
  | .agg _, .agg _ => !P.eqGuardType P.depth T
  | .nilifc, .nilifc => false
  | _, _ => true
theorem binOp_eql {op : BinOp} {x y : V} {cx cy : Value} (T : TypeId) (hop : op = .eql ∨ op = .neq) (hx : VRel G x cx) (hy : VRel G y cy) (h1 : x.plainEq = true) (h2 : y.plainEq = true) {r : Bool} {w : World} (h : (Op.equal T cx cy).run P w = .ok r w) :
    (Go.binOp op T cx cy).run P w = .ok (.bool (if op = .eql then r else !r)) w := by
  rcases hop with rfl | rfl <;> cases hx <;> first
    | (simp [V.plainEq] at h1; done)
    | (cases hy <;> first
        | (simp [V.plainEq] at h2; done)
        | simp [Go.binOp, h])
theorem SemV.eq {o : Oper} {op : BinOp} {T T' : TypeId} {x y : Operand} {r z : Bool} (ho : o.op = .binOp op T x y T') (hop : op = .eql ∨ op = .neq) (d : Nat) (hd : d ≤ 10000) (h1 : (σ.eval Γ x).plainEq = true) (h2 : (σ.eval Γ y).plainEq = true)
    (hg : eqGuardOk P T (σ.eval Γ x) (σ.eval Γ y) = true) (hv : eqV P d T (σ.eval Γ x) (σ.eval Γ y) = some (r, z)) : SemV P Γ o σ (mkB z (if op = .eql then r else !r)) σ.ob σ.nm :=
  SemV.of_pure fun G a w hr => by
    have hx := hr.eval x
    have hy := hr.eval y
    have he := eqV_run d T _ _ _ _ r z w hx hy hv (10000 - d)
    rw [show d + (10000 - d) = 10000 by omega] at he
    have hb := binOp_eql (P := P) T hop hx hy h1 h2 (w := w) (r := r) he
    have hgr : (eqGuard op T x y (a.eval x) (a.eval y)).run P w = .ok () w := by
      generalize hcx : a.eval x = cx at hx
      generalize hcy : a.eval y = cy at hy
      by_cases hag : (∃ p q, cx = .agg p ∧ cy = .agg q)
      · obtain ⟨p, q, rfl, rfl⟩ := hag
        have : P.eqGuardType P.depth T = false := by
          generalize σ.eval Γ x = vx at hx h1 hg
          generalize σ.eval Γ y = vy at hy h2 hg
          cases hx <;> first
            | (simp [V.plainEq] at h1; done)
            | (cases hy <;> first
                | (simp [V.plainEq] at h2; done)
                | simpa [eqGuardOk] using hg)
        rcases hop with rfl | rfl <;> simp [eqGuard, this]
      · by_cases hni : cx = .nilIface ∧ cy = .nilIface
        · obtain ⟨rfl, rfl⟩ := hni
          exfalso
          generalize σ.eval Γ x = vx at hx h1 hg
          generalize σ.eval Γ y = vy at hy h2 hg
          cases hx <;> first
            | (simp [V.plainEq] at h1; done)
            | (cases hy <;> first
                | (simp [V.plainEq] at h2; done)
                | (simp [eqGuardOk] at hg; done))
        · exact run_eqGuard_none ⟨fun p q hh => hag ⟨p, q, hh⟩, hni⟩ w
    exact ⟨_, by simp [execOp, ho, hgr, hb], mkB_rel _ _ _⟩
end
end Go.Proofs.Ytnjjkobijjdnbaa
