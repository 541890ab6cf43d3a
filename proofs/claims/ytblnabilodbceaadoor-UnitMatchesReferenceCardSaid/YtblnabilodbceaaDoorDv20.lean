/- Package variables whose data are laid. -/
import Derived.Test.YtblnabilodbceaaDoorDv19
set_option linter.unusedVariables false
set_option linter.unusedSimpArgs false
namespace Go.Proofs.YtblnabilodbceaaDoor
open Go Go.ChangeShapes Go.WideShapes Go.ChangeAt Go.RowKit

mutual
/-- The cells of a datum. -/
def Ty.cellsD {H : Type} : (t : Ty) → DataW H → Option (List V)
  | .bool, .lit (.bool b) => some [.b b]
  | .int k, .lit (.int k' n) => some [.i k n]
  | .str, .lit (.string s) => some [.s ⟨s.toArray⟩]
  | .agg fs, .agg ds => Ty.cellssD fs ds
  | _, _ => none
def Ty.cellssD {H : Type} : (ts : List Ty) → List (DataW H) → Option (List V)
  | [], [] => some []
  | t :: ts, d :: ds => match t.cellsD d, Ty.cellssD ts ds with | some a, some b => some (a ++ b) | _, _ => none
  | _, _ => none
end
mutual
theorem Ty.cellsD_dat {H : Type} : ∀ (t : Ty) (x : t.den), t.cellsD (H := H) (t.dat x) = some (t.cells x)
  | .bool, b => rfl
  | .int k, n => rfl
  | .str, s => by obtain ⟨a⟩ := (s : ByteArray); simp [Ty.dat, Ty.cellsD, Ty.cells]
  | .agg fs, x => by simp only [Ty.dat, Ty.cellsD, Ty.cells]; exact Ty.cellssD_dats fs x
theorem Ty.cellssD_dats {H : Type} : ∀ (ts : List Ty) (x : Ty.dens ts), Ty.cellssD (H := H) ts (Ty.dats ts x) = some (Ty.cellss ts x)
  | [], _ => rfl
  | t :: ts, x => by simp only [Ty.dats, Ty.cellssD, Ty.cellsD_dat t x.1, Ty.cellssD_dats ts x.2, Ty.cellss]
end
section
variable {P : Program} {W : World}
theorem laid_plain {l : List (String × DataW Unit)} {n : String} {d : DataW Unit} (h : laidMetH P l W) (hn : (n, d) ∈ l) (hp : d.handleName?.isNone = true) :
    ∃ g t cs fuel p, P.globalNamed n = some g ∧ (P.globals[g]?).map (·.type) = some t ∧ W.var? P n = some cs ∧ DataW.trod (fun _ => ()) P W 0 (fun _ => true) false fuel t cs.toList = some (d, p) := by
  have hv : ∃ l' ps, (n, d) ∈ l' ∧ DataW.LaidVars P W l' ps := by
    unfold laidMetH at h
    split at h
    · obtain ⟨ps, h, _⟩ := h
      exact ⟨l, ps, hn, h⟩
    · obtain ⟨⟨ps, h, _⟩, _⟩ := h
      exact ⟨_, ps, List.mem_filter.2 ⟨hn, hp⟩, h⟩
  obtain ⟨l', ps, hm, hl⟩ := hv
  clear h hn
  induction l' generalizing ps with
  | nil => cases hm
  | cons a r ih =>
    obtain ⟨n', d'⟩ := a
    obtain ⟨g, t, cs, fuel, p, q, h1, h2, h3, h4, h5, _⟩ := hl
    rcases List.mem_cons.1 hm with e | hm
    · cases e; exact ⟨g, t, cs, fuel, p, h1, h2, h3, h4⟩
    · exact ih _ hm h5
theorem VRel.func (G : Gh) (f : Fn) : VRel G (.fn f [] []) (.func f #[] #[]) := .fn rfl rfl (fun j v cv h => by simp at h) (fun j v cv h => by simp at h)
/-- A variable's address, its cells known. -/
theorem VRel.glob {n : String} {g : Nat} {cs : Array Value} {vs : List V} (hg : P.globalNamed n = some g) (hv : W.var? P n = some cs) (h : Rels (Gh.start W) vs cs.toList) : VRel (Gh.start W) (.pel [.agg vs] 0 0) (.pointer (some ⟨g, 0, none⟩)) := by
  have hp : VRel (Gh.start W) (.pel [.agg vs] 0 0) (.pointer (some ⟨g, 0 + (0 * vs.length + 0), none⟩)) := by
    refine VRel.pel (sz := vs.length) (cvs := cs.toList) (fun x hx => ?_) ?_ (fun j cv hj => ?_) (fun j v cv h1 h2 => ?_)
    · simp at hx; subst hx; rfl
    · simpa [flat, V.cells] using h.1
    · show W.cell? ⟨g, 0 + j, none⟩ = some cv
      rw [Nat.zero_add, World.var?_cell hg hv j]
      simpa using hj
    · exact h.2 j v cv (by simpa [flat, V.cells] using h1) h2
  simpa using hp
/-- A variable of plain data. -/
theorem VRel.glob_plain {l : List (String × DataW Unit)} {n : String} {d : DataW Unit} {g : Nat} {t : TypeId} {vs : List V} (ty : Ty) (h : laidMetH P l W) (hn : (n, d) ∈ l) (hp : d.handleName?.isNone = true) (hg : P.globalNamed n = some g) (ht : (P.globals[g]?).map (·.type) = some t)
    (hk : ty.ok P t = true) (hd : ty.cellsD d = some vs) : VRel (Gh.start W) (.pel [.agg vs] 0 0) (.pointer (some ⟨g, 0, none⟩)) := by
  obtain ⟨g', t', cs, fuel, p, h1, h2, h3, h4⟩ := laid_plain h hn hp
  obtain rfl := Option.some.inj (hg.symm.trans h1)
  obtain rfl := Option.some.inj (ht.symm.trans h2)
  obtain ⟨x, _, hr, e⟩ := open_ty (G := Gh.start W) ty hk h4
  have e2 := Ty.cellsD_dat (H := Unit) ty x
  rw [← e, hd] at e2
  rw [← Option.some.inj e2] at hr
  exact VRel.glob hg h3 hr
end
end Go.Proofs.YtblnabilodbceaaDoor
