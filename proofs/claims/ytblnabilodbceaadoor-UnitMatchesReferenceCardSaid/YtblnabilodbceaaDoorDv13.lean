/- The evaluator of one operation: what it looks at. -/
import Derived.Test.YtblnabilodbceaaDoorDv12
set_option linter.unusedVariables false
set_option linter.unusedSimpArgs false
namespace Go.Proofs.YtblnabilodbceaaDoor
open Go

def allocs (o : Oper) : Bool := match o.op with | .alloc _ | .box _ _ => true | _ => false
/-- What an effect does with places that are kept free. -/
def EffOk (slot : Nat) (al : Bool) (ob : Ob) : Eff → Prop
  | .pure => True
  | .rd _ => True
  | .rds _ => True
  | .app _ _ => True
  | .wr o _ => ∃ cs, ob[o]? = some (some cs)
  | .mk s _ => s = slot ∧ al = true
  | .blk ob' _ => ∀ (s : Nat), ob[s]? = some none → ob'[s]? = some none
/-- Two memories that an effect can't tell apart. -/
def Eff.same (ob ob' : Ob) (nm nm' : Nm) : Eff → Prop
  | .pure => True
  | .mk _ _ => True
  | .rd o => ob[o]? = ob'[o]?
  | .rds os => ∀ o ∈ os, ob[o]? = ob'[o]?
  | .wr o _ => ob[o]? = ob'[o]?
  | .app n _ => nm[n]? = nm'[n]?
  | .blk _ _ => ob = ob' ∧ nm = nm'
structure CallsFit (cf : CallF) : Prop where
  eff : ∀ f args ob nm out, cf f args ob nm = some out → (out.eff = .pure ∨ (∃ os, out.eff = .rds os) ∨ ∃ ob' nm', out.eff = .blk ob' nm' ∧ ∀ s : Nat, ob[s]? = some none → ob'[s]? = some none)
  frame : ∀ f args ob nm out, cf f args ob nm = some out → (out.eff = .pure ∨ ∃ os, out.eff = .rds os) → ∀ ob' nm', out.eff.same ob ob' nm nm' → cf f args ob' nm' = some out

section
variable {P : Program} {Γ : Nat → Option V} {ob ob' : Ob} {nm nm' : Nm} {cf : CallF} {slot : Nat} {o : Oper} {e e' : Operand → V} {out : Out}

theorem evE_eff (hc : CallsFit cf) (h : evE P cf slot o e ob nm = some out) : EffOk slot (allocs o) ob out.eff := by
  unfold evE at h
  split at h
  case h_3 =>
    split at h
    · split at h
      · obtain ⟨v, hv, rfl⟩ := outO_some h; trivial
      · cases h; trivial
    · cases h
  case h_4 T ho =>
    split at h
    · split at h
      · cases h; exact ⟨rfl, by simp [allocs, ho]⟩
      · cases h
    · cases h
  case h_5 T x ho =>
    split at h
    · cases h; exact ⟨rfl, by simp [allocs, ho]⟩
    · cases h
  case h_9 =>
    split at h
    · split at h
      · split at h
        · rename_i cs hcs
          split at h
          · cases h; exact ⟨cs, hcs⟩
          · cases h
        · cases h
      · cases h
    · cases h
  all_goals
    repeat' (split at h)
    all_goals first
      | (cases h; done)
      | (cases h; trivial)
      | (obtain ⟨v, hv, rfl⟩ := outO_some h; trivial)
      | (rcases hc.eff _ _ _ _ _ h with h1 | ⟨os, h1⟩ | ⟨ob', nm', h1, h2⟩
         · rw [h1]; trivial
         · rw [h1]; trivial
         · rw [h1]; exact h2)
theorem evE_frame (hc : CallsFit cf) (h : evE P cf slot o e ob nm = some out) (hs : out.eff.same ob ob' nm nm') : evE P cf slot o e ob' nm' = some out := by
  unfold evE at h ⊢
  split at h
  case h_8 =>
    split at h
    · split at h
      · split at h
        · rename_i v hv
          cases h
          have hs : ob[_]? = ob'[_]? := hs
          simp only [loadV, ← hs] at hv ⊢
          rw [hv]
        · cases h
      · exact h
      · cases h
    · cases h
  case h_9 =>
    split at h
    · split at h
      · split at h
        · rename_i cs hcs
          split at h
          · rename_i hc'
            cases h
            have hs : ob[_]? = ob'[_]? := hs
            rw [hs] at hcs
            simp only [hcs]
            rw [if_pos hc']
          · cases h
        · cases h
      · cases h
    · cases h
  case h_20 =>
    split at h
    · split at h
      · rcases hc.eff _ _ _ _ _ h with h1 | ⟨os, h1⟩ | ⟨ob2, nm2, h1, h2⟩
        · exact hc.frame _ _ _ _ _ h (.inl h1) _ _ hs
        · exact hc.frame _ _ _ _ _ h (.inr ⟨os, h1⟩) _ _ hs
        · rw [h1] at hs
          obtain ⟨rfl, rfl⟩ := hs
          exact h
      · cases h
    · exact h
    · cases h
  all_goals exact h
theorem evE_loc (he : ∀ x, x ∈ o.op.operands → e x = e' x) : evE P cf slot o e ob nm = evE P cf slot o e' ob nm := by
  have hp : ∀ (ps : Array (Nat × Operand)), (∀ p ∈ ps.toList, e p.2 = e' p.2) → (ps.toList.map fun (i, x) => (i, e x)) = ps.toList.map fun (i, x) => (i, e' x) := fun ps h => List.map_congr_left fun p hp => by simp [h p hp]
  have hl : ∀ (l : List Operand), (∀ x ∈ l, e x = e' x) → l.map e = l.map e' := fun l h => List.map_congr_left h
  unfold evE
  cases ho : o.op with
  | build T ps =>
    rw [ho] at he
    have := hp ps (fun p hm => he p.2 (by simp [Op.operands]; exact ⟨p.1, by simpa using hm⟩))
    simp only [this]
  | buildSlice T len ps =>
    rw [ho] at he
    have := hp ps (fun p hm => he p.2 (by simp [Op.operands]; exact ⟨p.1, by simpa using hm⟩))
    simp only [this]
  | makeFunc fn a c =>
    rw [ho] at he
    simp only [hl a.toList (fun x hx => he x (by simp [Op.operands]; exact .inl (by simpa using hx))), hl c.toList (fun x hx => he x (by simp [Op.operands]; exact .inr (by simpa using hx)))]
  | call c =>
    rw [ho] at he
    have := hl c.args.toList (fun x hx => he x (by simp [Op.operands, Call.operands]; exact .inr (by simpa using hx)))
    simp only [this]
    split
    · rename_i f hf
      rw [he f (by simp [Op.operands, Call.operands, hf])]
    · rfl
    · rfl
  | _ =>
    (rw [ho] at he) <;> first
      | rfl
      | ((simp only [Op.operands] at he) <;> simp [he])
end
end Go.Proofs.YtblnabilodbceaaDoor
