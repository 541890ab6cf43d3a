/- The evaluator with a table of loops: a loop that is listed is taken as its entry says. -/
import Derived.Test.YtnjjkobijjdnbaaEv21
set_option linter.unusedVariables false
set_option linter.unusedSimpArgs false
namespace Go.Proofs.Ytnjjkobijjdnbaa
open Go

/-- The bodies of the loops, in the text's order. -/
def loops : Code → List Code
  | .seq a b => loops a ++ loops b
  | .cond _ t f => loops t ++ loops f
  | .block _ b => loops b
  | .loop b => b :: loops b
  | _ => []
/-- A state of which some slots are known. -/
def St.of (n : Nat) (lv : List Nat) (vs : List V) (ob : Ob) (nm : Nm) (kh kt : Nat := 0) : St := ⟨setVs lv vs (List.replicate n .any), ob, nm, kh, kt⟩
def St.kept (x : St) (lv : List Nat) : List V := lv.map fun d => (x.tm[d]?).getD .any
/-- What is said of a loop: how many slots there are, which are kept at its head, and what it comes to. -/
structure LEnt where
  n : Nat
  lv : List Nat
  go : Nat → Nat → List V → Ob → Nm → Option (Tr (Ex × St))
abbrev LOrc := FuncId → Nat → Option LEnt

section
variable {P : Program} {Γ : Nat → Option V} {cf : CallF}
theorem setVs_rels {G : Gh} {l0 : List V} {cv : List Value} : ∀ (lv : List Nat) (l : List V), Rels G l0 cv → Rels G l cv → Rels G (setVs lv (lv.map fun d => (l0[d]?).getD .any) l) cv
  | [], l, _, h => h
  | d :: ds, l, h0, h => by
    simp only [List.map_cons, setVs]
    refine setVs_rels ds _ h0 ?_
    refine ⟨by simpa using h.1, fun j v c hv hc => ?_⟩
    rw [List.getElem?_set] at hv
    split at hv
    · rename_i hj
      subst hj
      split at hv
      · cases hv
        cases hd : l0[d]? with
        | none => exact .any _
        | some u => exact h0.2 d u c hd hc
      · cases hv
    · exact h.2 j v c hv hc
theorem rels_any {G : Gh} {l0 : List V} {cv : List Value} (h : Rels G l0 cv) : Rels G (List.replicate l0.length .any) cv :=
  ⟨by simpa using h.1, fun j v c hv hc => by
    rw [List.getElem?_replicate] at hv
    split at hv
    · cases hv; exact .any _
    · cases hv⟩
theorem Rel.only {G : Gh} {x : St} {a : Act} {w : World} (h : Rel Γ G x a w) {n : Nat} (hn : x.tm.length = n) (lv : List Nat) : Rel Γ G (St.of n lv (x.kept lv) x.ob x.nm x.kh x.kt) a w := by
  subst hn
  exact ⟨setVs_rels lv _ h.tm (rels_any h.tm), h.wr, h.df, h.kh, h.kt⟩
/-- One state says no more than the other. -/
def St.imp (Γ : Nat → Option V) (x y : St) : Prop := ∀ G a w, Rel Γ G x a w → Rel Γ G y a w
theorem SemC.pre {c : Code} {x x' y : St} {e : Exit} (h : SemC P Γ c x' e y) (i : St.imp Γ x x') : SemC P Γ c x e y := fun ro G a w hr ho => h ro G a w (i G a w hr) ho
theorem SemC.post {c : Code} {x y y' : St} {e : Exit} (h : SemC P Γ c x e y) (i : St.imp Γ y y') : SemC P Γ c x e y' := fun ro G a w hr ho => by
  refine wpIn_mono (h ro G a w hr ho) ?_
  rintro e a' w' ⟨rfl, G1, h1, r1⟩
  exact ⟨rfl, G1, h1, i _ _ _ r1⟩
theorem SemL.pre {c : Code} {x x' y : St} {e : Exit} (h : SemL P Γ c x' e y) (i : St.imp Γ x x') : SemL P Γ c x e y := by
  obtain ⟨n, h⟩ := h
  exact ⟨n, fun ro G a w hr ho => h ro G a w (i G a w hr) ho⟩
theorem imp_only {x : St} {n : Nat} (hn : x.tm.length = n) (lv : List Nat) : St.imp Γ x (St.of n lv (x.kept lv) x.ob x.nm x.kh x.kt) := fun G a w hr => hr.only hn lv

def LOrcOk (P : Program) (Γ : Nat → Option V) (lo : LOrc) : Prop :=
  ∀ f i e, lo f i = some e → ∃ fn c b, P.funcs[f]? = some fn ∧ fn.body = some c ∧ (loops c)[i]? = some b ∧ ∀ kh kt vs ob nm t ex s, e.go kh kt vs ob nm = some t → t.run = some (ex, s) → SemL P Γ b (St.of e.n e.lv vs ob nm kh kt) ex.to s

/-- One round, reckoned: what is kept at its end. -/
def outs (lv : Ex → List Nat) (t : Tr (Ex × St)) : Tr (Ex × List V × Ob × Nm × Nat × Nat × Nat) := t.bind fun p => .leaf (some (p.1, p.2.kept (lv p.1), p.2.ob, p.2.nm, p.2.tm.length, p.2.kh, p.2.kt))
theorem outs_run {t : Tr (Ex × St)} {lv : Ex → List Nat} {e : Ex} {vs : List V} {ob : Ob} {nm : Nm} {n kh kt : Nat} (h : (outs lv t).run = some (e, vs, ob, nm, n, kh, kt)) : ∃ s, t.run = some (e, s) ∧ St.imp Γ s (St.of n (lv e) vs ob nm kh kt) := by
  unfold outs at h
  rw [Tr.run_bind] at h
  cases ht : t.run with
  | none => rw [ht] at h; cases h
  | some p =>
    rw [ht] at h
    obtain ⟨e', s⟩ := p
    simp only [Option.bind_some, Tr.run, Option.some.injEq, Prod.mk.injEq] at h
    obtain ⟨rfl, rfl, rfl, rfl, rfl, rfl, rfl⟩ := h
    exact ⟨s, rfl, imp_only rfl (lv e')⟩
end
end Go.Proofs.Ytnjjkobijjdnbaa
