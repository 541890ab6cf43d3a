/- One way through a decision tree; contracts by ways. -/
import Derived.Test.YtnjjkobijjdnbaaEv16
set_option linter.unusedVariables false
set_option linter.unusedSimpArgs false
namespace Go.Proofs.Ytnjjkobijjdnbaa
open Go

/-- The end of the way that the decisions take. -/
def Tr.path {α : Type} : Tr α → List Bool → Option α
  | .leaf x, [] => x
  | .leaf _, _ :: _ => none
  | .br _ _ _, [] => none
  | .br _ x y, d :: ds => match d with | true => x.path ds | false => y.path ds
/-- What is decided along the way. -/
def Tr.conds {α : Type} : Tr α → List Bool → List Bool
  | .br b x y, d :: ds => b :: (match d with | true => x.conds ds | false => y.conds ds)
  | _, _ => []
theorem Tr.run_path {α : Type} : ∀ (t : Tr α) (ds : List Bool) (a : α), t.path ds = some a → t.conds ds = ds → t.run = some a
  | .leaf x, [], a, h, _ => h
  | .leaf x, d :: ds, a, h, _ => by cases h
  | .br b x y, [], a, h, _ => by cases h
  | .br b x y, d :: ds, a, h, hc => by
    simp only [Tr.conds, List.cons.injEq] at hc
    obtain ⟨rfl, hc⟩ := hc
    cases b with
    | true => exact Tr.run_path x ds a h hc
    | false => exact Tr.run_path y ds a h hc
def valO (x : Option (V × St)) : Option V := x.bind fun p => p.1.cl (lendP p.2.ob p.2.nm)
section
variable {P : Program} {Γ : Nat → Option V}
/-- Arguments that stand for the same. -/
theorem SemF.args {f : FuncId} {a b : List V} {ob ob' : Ob} {nm nm' : Nm} {v : V} (h : SemF P Γ f a ob nm v ob' nm') (hab : ∀ (G : Gh) (c : List Value), Rels G b c → Rels G a c) : SemF P Γ f b ob nm v ob' nm' := fun G w cargs hw hr => h G w cargs hw (hab G _ hr)
theorem SemF.sy_args {f : FuncId} {a : List V} {ob ob' : Ob} {nm nm' : Nm} {v : V} (h : SemF P Γ f a ob nm v ob' nm') (ha : ∀ (G : Gh) (c : List Value), Rels G (V.syL a) c → Rels G a c) : SemF P Γ f (V.syL a) ob nm v ob' nm' := h.args ha
theorem Rels.head {G : Gh} {v v' : V} {l l' : List V} (h : ∀ c, VRel G v c → VRel G v' c) (k : ∀ c, Rels G l c → Rels G l' c) : ∀ c, Rels G (v :: l) c → Rels G (v' :: l') c := fun c hc => by
  match c, hc.1 with
  | x :: xs, _ => exact Rels.cons (h x (hc.2 0 v x rfl rfl)) (k xs (by simpa using hc.drop 1))
theorem VRel.known_i {G : Gh} {k : IntKind} {n : Int} : ∀ c, VRel G (.si k n) c → VRel G (.i k n) c := fun c h => by cases h; exact .i _ _
theorem VRel.known_b {G : Gh} {x : Bool} : ∀ c, VRel G (.sb x) c → VRel G (.b x) c := fun c h => by cases h; exact .b _
theorem VRel.known_agg {G : Gh} {l l' : List V} (h : ∀ c, Rels G l c → Rels G l' c) : ∀ c, VRel G (.agg l) c → VRel G (.agg l') c := fun c hc => by
  obtain ⟨x, rfl, hx⟩ := hc.agg_form
  exact VRel.mk_agg (h _ hx)
end
end Go.Proofs.Ytnjjkobijjdnbaa
