/- Parts of the library of texts, one after the other: Ev30, Ev31, Ev32, Ev33. -/
import Derived.Test.YtofbchcclkejgaaTOg
import Derived.RecoverIn
/- Panics: what code and functions leave that panic. -/
set_option linter.unusedVariables false
set_option linter.unusedSimpArgs false
namespace Go.Proofs.Ytofbchcclkejgaa
open Go
section
variable {P : Program} {Γ : Nat → Option V} {σ σ1 σ2 : St} {cf : CallF} {T : TypeId}
structure PO where
 T : TypeId
 tm : List V
 ob : Ob
end
end Go.Proofs.Ytofbchcclkejgaa



/- Functions that ask whether a list is nil: an empty list is one or the other. -/
set_option linter.unusedVariables false
set_option linter.unusedSimpArgs false
namespace Go.Proofs.Ytofbchcclkejgaa
open Go
section
variable {P : Program} {Γ : Nat → Option V}
theorem VRel.nil_or {G : Gh} {t : Tag} {cv : Value} (h : VRel G (.lst t []) cv) : VRel G .nls cv ∨ VRel G .els cv := by
 cases h with
 | lst0 t p => cases p with | none => exact .inl .nls | some a => exact .inr (.els a 0)
 | lst1 p cap => exact .inr (.els p cap)
 | lst h1 h2 h3 h4 h5 h6 => exact .inr (.els _ _)
theorem VRel.nil_or' {G : Gh} {t : Tag} {ty : Ty} {cv : Value} (h : VRel G (.slst t ty []) cv) : VRel G .nls cv ∨ VRel G .els cv := by
 cases h with
 | slst q => exact q.nil_or
theorem SemF.byNil {f : FuncId} {v : V} {rest : List V} {ob ob1 : Ob} {nm nm1 : Nm} {res : V} (hv : ∀ (G : Gh) (cv : Value), VRel G v cv → VRel G .nls cv ∨ VRel G .els cv) (h1 : SemF P Γ f (.nls :: rest) ob nm res ob1 nm1) (h2 : SemF P Γ f (.els :: rest) ob nm res ob1 nm1) : SemF P Γ f (v :: rest) ob nm res ob1 nm1 := by
 intro G w cargs hw hr
 match cargs, hr with
 | [], hr => exact absurd hr.1 (by simp)
 | c :: cs, hr =>
  have h0 : VRel G v c := hr.2 0 _ _ rfl rfl
  have hrs : Rels G rest cs := ⟨by have := hr.1; simpa using this, fun j x y a b => hr.2 (j + 1) x y (by simpa using a) (by simpa using b)⟩
  rcases hv G c h0 with h | h
  · exact h1 G w _ hw (Rels.cons h hrs)
  · exact h2 G w _ hw (Rels.cons h hrs)
def omC (cl : FuncId → Bool) (cf : CallF) : CallF := fun f args ob nm =>
 match cl f, args with
 | true, [.lst _ []] => some (outC none (.lst .ro []) .pure)
 | _, _ => cf f args ob nm
theorem lst_ro_any {t : Tag} (G : Gh) (cv : Value) (h : VRel G (.lst t []) cv) : VRel G (.lst .ro []) cv := h.lst_ro
theorem omC_ok {cl : FuncId → Bool} {cf : CallF} (hcl : ∀ f, cl f = true → (∀ t, SemF P Γ f [.lst t []] [] [] (.lst .ro []) [] []) ∧ Named P f) (hcf : CallsOk P Γ cf) (hfit : CallsFit cf) : CallsOk P Γ (omC cl cf) ∧ CallsFit (omC cl cf) := by
 refine ⟨fun f args ob nm out h hc => ?_, ⟨fun f args ob nm out h => ?_, fun f args ob nm out h ob' nm' hs => ?_⟩⟩
 · unfold omC at h
   split at h
   · rename_i t hf
     cases h
     obtain ⟨h1, h2⟩ := hcl f hf
     exact ⟨(h1 t).frame (by simp [V.clnL, V.clL, V.cl]) ob nm, h2⟩
   · exact hcf _ _ _ _ _ h hc
 · unfold omC at h
   split at h
   · cases h; exact EffOk.none _ _ _ _
   · exact hfit.eff _ _ _ _ _ h
 · unfold omC at h ⊢
   split at h
   · exact h
   · exact hfit.frame _ _ _ _ _ h ob' nm' hs
end
end Go.Proofs.Ytofbchcclkejgaa

