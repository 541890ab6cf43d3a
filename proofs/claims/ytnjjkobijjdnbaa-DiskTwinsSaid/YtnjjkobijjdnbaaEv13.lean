/- The evaluator of one operation: what it looks at. -/
import Derived.Test.YtnjjkobijjdnbaaEv12
set_option linter.unusedVariables false
set_option linter.unusedSimpArgs false
namespace Go.Proofs.Ytnjjkobijjdnbaa
open Go

/-- What an effect does with places that are kept free: it writes what is there, or at its own place. -/
def EffOk (slot : Nat) (al : Bool) (ob : Ob) (nm : Nm) (e : Eff) : Prop :=
  (∀ p ∈ e.wo, (∃ cs, ob[p.1]? = some (some cs)) ∨ (p.1 = slot ∧ al = true)) ∧ (∀ p ∈ e.wn, (∃ bf, nm[p.1]? = some (some bf)) ∨ (p.1 = slot ∧ al = true)) ∧
  ∀ p, e.blk = some p → (∀ s : Nat, ob[s]? = some none → p.1[s]? = some none) ∧ (∀ s : Nat, nm[s]? = some none → p.2[s]? = some none) ∧ (∀ o : Nat, o < e.bl.1 → o ∉ e.ko → p.1[o]? = ob[o]?) ∧ ∀ n : Nat, n < e.bl.2 → n ∉ e.kn → p.2[n]? = nm[n]?
/-- Two memories that an effect can't tell apart. -/
def Eff.lays (e : Eff) : Bool := e.blk.isSome || !(e.xo.isEmpty && e.xn.isEmpty)
def Eff.same (ob ob' : Ob) (nm nm' : Nm) (e : Eff) : Prop :=
  (∀ o ∈ e.ro, ob[o]? = ob'[o]?) ∧ (∀ n ∈ e.rn, nm[n]? = nm'[n]?) ∧ (e.lays = true → ob = ob' ∧ nm = nm')
structure CallsFit (cf : CallF) : Prop where
  eff : ∀ f args ob nm out, cf f args ob nm = some out → EffOk 0 false ob nm out.eff
  frame : ∀ f args ob nm out, cf f args ob nm = some out → ∀ ob' nm', out.eff.same ob ob' nm nm' → cf f args ob' nm' = some out

section
variable {P : Program} {Γ : Nat → Option V} {ob ob' : Ob} {nm nm' : Nm} {cf : CallF} {slot : Nat} {o : Oper} {e e' : Operand → V} {out : Out}

theorem EffOk.none (slot : Nat) (al : Bool) (ob : Ob) (nm : Nm) : EffOk slot al ob nm .pure := ⟨(fun p hp => by cases hp), (fun p hp => by cases hp), (fun p hp => by cases hp)⟩
theorem EffOk.rd (slot : Nat) (al : Bool) (ob : Ob) (nm : Nm) (o : Nat) : EffOk slot al ob nm (.rd o) := ⟨(fun p hp => by cases hp), (fun p hp => by cases hp), (fun p hp => by cases hp)⟩
theorem EffOk.mkO {slot : Nat} {al : Bool} {ob : Ob} {nm : Nm} {cs : List V} (h : al = true) : EffOk slot al ob nm (.mkO slot cs) := ⟨(fun p hp => by simp [Eff.mkO] at hp; subst hp; exact .inr ⟨rfl, h⟩), (fun p hp => by cases hp), (fun p hp => by cases hp)⟩
theorem EffOk.wr {slot : Nat} {al : Bool} {ob : Ob} {nm : Nm} {o : Nat} {c cs : List V} (h : ob[o]? = some (some c)) : EffOk slot al ob nm (.wr o cs) := ⟨(fun p hp => by simp [Eff.wr] at hp; subst hp; exact .inl ⟨c, h⟩), (fun p hp => by cases hp), (fun p hp => by cases hp)⟩
theorem EffOk.any {slot : Nat} {al : Bool} {ob : Ob} {nm : Nm} {e : Eff} (h : EffOk 0 false ob nm e) : EffOk slot al ob nm e :=
  ⟨(fun p hp => (h.1 p hp).imp_right (fun k => by cases k.2)), (fun p hp => (h.2.1 p hp).imp_right (fun k => by cases k.2)), h.2.2⟩
theorem evE0_eff (hc : CallsFit cf) (h : evE0 P cf slot o e ob nm = some out) : EffOk slot (allocs o) ob nm out.eff := by
  unfold evE0 at h
  split at h
  case h_3 =>
    split at h
    · split at h
      · obtain ⟨v, hv, rfl⟩ := outO_some h; exact EffOk.none _ _ _ _
      · cases h; exact EffOk.none _ _ _ _
    · cases h
  case h_4 T ho =>
    split at h
    · split at h
      · cases h; exact EffOk.mkO (by simp [allocs, ho])
      · cases h
    · cases h
  case h_5 T x ho =>
    split at h
    · cases h; exact EffOk.mkO (by simp [allocs, ho])
    · cases h
  case h_9 =>
    split at h
    · split at h
      · split at h
        · rename_i cs hcs
          split at h
          · cases h; exact EffOk.wr hcs
          · cases h
        · cases h
      · cases h
    · cases h
  all_goals
    repeat' (split at h)
    all_goals first
      | (cases h; done)
      | (cases h; exact EffOk.none _ _ _ _)
      | (cases h; exact EffOk.rd _ _ _ _ _)
      | (obtain ⟨v, hv, rfl⟩ := outO_some h; exact EffOk.none _ _ _ _)
      | exact (hc.eff _ _ _ _ _ h).any
theorem evE0_frame (hc : CallsFit cf) (h : evE0 P cf slot o e ob nm = some out) (hs : out.eff.same ob ob' nm nm') : evE0 P cf slot o e ob' nm' = some out := by
  unfold evE0 at h ⊢
  split at h
  case h_8 =>
    split at h
    · split at h
      · split at h
        · rename_i v hv
          cases h
          have hs : ob[_]? = ob'[_]? := hs.1 _ (List.mem_singleton.2 rfl)
          simp only [loadV, ← hs] at hv ⊢
          rw [hv]
        · cases h
      · exact h
      · cases h
    · cases h
  case h_9 =>
    split at h
    · split at h
      · split at h
        · rename_i cs hcs
          split at h
          · rename_i hc'
            cases h
            have hs : ob[_]? = ob'[_]? := hs.1 _ (List.mem_singleton.2 rfl)
            rw [hs] at hcs
            simp only [hcs]
            rw [if_pos hc']
          · cases h
        · cases h
      · cases h
    · cases h
  case h_20 =>
    split at h
    · split at h
      · split at h
        · cases h
        · exact hc.frame _ _ _ _ _ h _ _ hs
      · exact hc.frame _ _ _ _ _ h _ _ hs
      · cases h
    · exact h
    · cases h
  all_goals exact h
theorem evE0_loc (he : ∀ x, x ∈ o.op.operands → e x = e' x) : evE0 P cf slot o e ob nm = evE0 P cf slot o e' ob nm := by
  have hp : ∀ (ps : Array (Nat × Operand)), (∀ p ∈ ps.toList, e p.2 = e' p.2) → (ps.toList.map fun (i, x) => (i, e x)) = ps.toList.map fun (i, x) => (i, e' x) := fun ps h => List.map_congr_left fun p hp => by simp [h p hp]
  have hl : ∀ (l : List Operand), (∀ x ∈ l, e x = e' x) → l.map e = l.map e' := fun l h => List.map_congr_left h
  unfold evE0
  cases ho : o.op with
  | build T ps =>
    rw [ho] at he
    have := hp ps (fun p hm => he p.2 (by simp [Op.operands]; exact ⟨p.1, by simpa using hm⟩))
    simp only [this]
  | buildSlice T len ps =>
    rw [ho] at he
    have := hp ps (fun p hm => he p.2 (by simp [Op.operands]; exact ⟨p.1, by simpa using hm⟩))
    simp only [this]
  | makeFunc fn a c =>
    rw [ho] at he
    simp only [hl a.toList (fun x hx => he x (by simp [Op.operands]; exact .inl (by simpa using hx))), hl c.toList (fun x hx => he x (by simp [Op.operands]; exact .inr (by simpa using hx)))]
  | call c =>
    rw [ho] at he
    have := hl c.args.toList (fun x hx => he x (by simp [Op.operands, Call.operands]; exact .inr (by simpa using hx)))
    simp only [this]
    split
    · rename_i f hf
      rw [he f (by simp [Op.operands, Call.operands, hf])]
    · rfl
    · rfl
  | _ =>
    (rw [ho] at he) <;> first
      | rfl
      | ((simp only [Op.operands] at he) <;> simp [he])
end
end Go.Proofs.Ytnjjkobijjdnbaa
