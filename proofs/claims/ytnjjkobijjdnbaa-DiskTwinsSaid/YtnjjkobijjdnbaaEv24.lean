/- A round's end under names that follow from what is kept; loops by induction; buffers born at a loop's head. -/
import Derived.Test.YtnjjkobijjdnbaaEv23b
set_option linter.unusedVariables false
set_option linter.unusedSimpArgs false
namespace Go.Proofs.Ytnjjkobijjdnbaa
open Go

def addNew : List Nat → List Nat → List Nat
  | l, [] => l
  | l, x :: xs => match l.contains x with | true => addNew l xs | false => addNew (l ++ [x]) xs
def obRefs (ob : Ob) : List Nat → List Nat
  | [] => []
  | o :: r => (match ob[o]? with | some (some cs) => V.refsL cs | _ => []) ++ obRefs ob r
def obNrefs (ob : Ob) : List Nat → List Nat
  | [] => []
  | o :: r => (match ob[o]? with | some (some cs) => V.nrefsL cs | _ => []) ++ obNrefs ob r
def nmNrefs (nm : Nm) : List Nat → List Nat
  | [] => []
  | n :: r => (match nm[n]? with | some (some (.live (.cs _ l))) => V.nrefsL l | _ => []) ++ nmNrefs nm r
def nmRefs (nm : Nm) : List Nat → List Nat
  | [] => []
  | n :: r => (match nm[n]? with | some (some (.live (.cs _ l))) => V.refsL l | _ => []) ++ nmRefs nm r
/-- The objects and buffers that what is kept asks for, in the order in which they are come upon. -/
def St.names (y : St) : Nat → List Nat → List Nat → List Nat × List Nat
  | 0, po, pn => (po, pn)
  | k + 1, po, pn => St.names y k (addNew (addNew po (obRefs y.ob po)) (nmRefs y.nm pn)) (addNew (addNew pn (obNrefs y.ob po)) (nmNrefs y.nm pn))
def St.autoN (y : St) (lv : List Nat) : List Nat × List Nat := y.names 3 (addNew (List.range y.kh) (V.refsL (y.kept lv))) (addNew (List.range y.kt) (V.nrefsL (y.kept lv)))
def outa (lv : Ex → List Nat) (t : Tr (Ex × St)) : Tr (Ex × List V × Ob × Nm × Nat × Nat × Nat) :=
  t.bind fun p => match p.2.ren (p.2.autoN (lv p.1)).1 (p.2.autoN (lv p.1)).2 (lv p.1) with | some r => .leaf (some (p.1, r.1, r.2.1, r.2.2, p.2.tm.length, p.2.kh, p.2.kt)) | none => .leaf none
section
variable {P : Program} {Γ : Nat → Option V} {cf : CallF}
theorem outa_run {t : Tr (Ex × St)} {lv : Ex → List Nat} {e : Ex} {vs : List V} {ob : Ob} {nm : Nm} {n kh kt : Nat} (h : (outa lv t).run = some (e, vs, ob, nm, n, kh, kt)) : ∃ s po pn, t.run = some (e, s) ∧ s.ren po pn (lv e) = some (vs, ob, nm) ∧ s.tm.length = n ∧ s.kh = kh ∧ s.kt = kt := by
  unfold outa at h
  rw [Tr.run_bind] at h
  cases ht : t.run with
  | none => rw [ht] at h; cases h
  | some p =>
    rw [ht] at h
    obtain ⟨e', s⟩ := p
    simp only [Option.bind_some] at h
    split at h
    · rename_i r hl
      simp only [Tr.run, Option.some.injEq, Prod.mk.injEq] at h
      obtain ⟨rfl, rfl, rfl, rfl, rfl, rfl, rfl⟩ := h
      exact ⟨s, _, _, rfl, hl, rfl, rfl, rfl⟩
    · cases h
/-- A loop by induction: each round goes on to a state of the same kind that is nearer to the end, or leaves. -/
theorem SemL.ind {A : Type} {b : Code} (emb : A → St) (m : A → Nat) (out : A → Ex × St) (Inv : A → Prop)
    (h : ∀ a, Inv a → (∃ a', SemC P Γ b (emb a) .normal (emb a') ∧ Inv a' ∧ m a' < m a ∧ out a' = out a) ∨ ((out a).1.to ≠ .normal ∧ SemC P Γ b (emb a) (out a).1.to (out a).2)) :
    ∀ a, Inv a → SemL P Γ b (emb a) (out a).1.to (out a).2 := by
  have key : ∀ (k : Nat) a, m a ≤ k → Inv a → SemL P Γ b (emb a) (out a).1.to (out a).2 := by
    intro k
    induction k with
    | zero =>
      intro a hm hi
      rcases h a hi with ⟨a', h1, h2, h3, h4⟩ | ⟨h1, h2⟩
      · omega
      · exact SemL.out h1 h2
    | succ k ih =>
      intro a hm hi
      rcases h a hi with ⟨a', h1, h2, h3, h4⟩ | ⟨h1, h2⟩
      · have := ih a' (by omega) h2
        rw [h4] at this
        exact SemL.next h1 this
      · exact SemL.out h1 h2
  exact fun a hi => key _ a (Nat.le_refl _) hi
/-- A slice that is nil, as an empty buffer. -/
theorem St.birth {kh kt n : Nat} {lv : List Nat} {vs : List V} {ob : Ob} {nm : Nm} (k : Nat) {vs' : List V} (hv : vs' = vs.set k (.bs true nm.length 0 0)) (hk : vs[k]? = some (.lst .full [])) {c : BC} (hc : c.len = 0) (hlv : nodupB lv = true) (hlen : vs.length = lv.length) :
    St.imp Γ (St.of n lv vs ob nm kh kt) (St.of n lv vs' ob (nm ++ [some (.live c)]) kh kt) := by
  intro G a w hr
  subst hv
  refine ⟨?_, ?_, hr.df, hr.kh, hr.kt⟩
  · have hset : ∀ (lv : List Nat) (vs : List V) (l : List V) (k : Nat) (v v' : V) (cvs : List Value), nodupB lv = true → vs.length = lv.length → vs[k]? = some v → (∀ cv, VRel G v cv → VRel G v' cv) → Rels G (setVs lv vs l) cvs → Rels G (setVs lv (vs.set k v') l) cvs := by
      intro lv
      induction lv with
      | nil => intro vs l k v v' cvs _ hl hk; have : vs = [] := List.length_eq_zero_iff.1 hl; subst this; simp at hk
      | cons d ds ih =>
        intro vs l k v v' cvs hn hl hk hv hr
        simp only [nodupB, Bool.and_eq_true, Bool.not_eq_true', List.contains_eq_mem, decide_eq_false_iff_not] at hn
        cases vs with
        | nil => simp at hl
        | cons u us =>
          cases k with
          | zero =>
            simp at hk
            subst hk
            simp only [List.set_cons_zero, setVs] at hr ⊢
            -- the slot d is not written again
            have frame : ∀ (ds : List Nat) (us : List V) (l : List V), d ∉ ds → (setVs ds us l)[d]? = l[d]? ∧ (setVs ds us l).length = l.length := by
              intro ds
              induction ds with
              | nil => intro us l _; exact ⟨rfl, rfl⟩
              | cons e es ihe =>
                intro us l hd
                simp only [List.mem_cons, not_or] at hd
                cases us with
                | nil => exact ⟨rfl, rfl⟩
                | cons z zs =>
                  simp only [setVs]
                  obtain ⟨g1, g2⟩ := ihe zs (l.set e z) hd.2
                  exact ⟨g1.trans (List.getElem?_set_ne (Ne.symm hd.1)), g2.trans (by simp)⟩
            have other : ∀ (ds : List Nat) (us : List V) (l l' : List V), l.length = l'.length → (∀ j, j ≠ d → l[j]? = l'[j]?) → ∀ j, j ≠ d → (setVs ds us l)[j]? = (setVs ds us l')[j]? := by
              intro ds
              induction ds with
              | nil => intro us l l' _ h; simpa [setVs] using h
              | cons e es ihe =>
                intro us l l' hll h
                cases us with
                | nil => simpa [setVs] using h
                | cons z zs =>
                  simp only [setVs]
                  refine ihe zs _ _ (by simpa using hll) (fun j hj => ?_)
                  rw [List.getElem?_set, List.getElem?_set, hll, h j hj]
            have f1 := frame ds us (l.set d u) hn.1
            have f2 := frame ds us (l.set d v') hn.1
            refine ⟨by rw [f2.2, hr.1, f1.2]; simp, fun j x cv hx hcv => ?_⟩
            by_cases hj : j = d
            · subst hj
              rw [f2.1, List.getElem?_set] at hx
              split at hx
              · split at hx
                · rename_i hlt
                  cases hx
                  refine hv cv (hr.2 j u cv ?_ hcv)
                  rw [f1.1, List.getElem?_set_self hlt]
                · cases hx
              · rename_i hne; exact absurd rfl hne
            · rw [← other ds us (l.set d u) (l.set d v') (by simp) (fun i hi => by rw [List.getElem?_set_ne (Ne.symm hi), List.getElem?_set_ne (Ne.symm hi)]) j hj] at hx
              exact hr.2 j x cv hx hcv
          | succ k =>
            simp only [List.set_cons_succ, setVs] at hr ⊢
            exact ih us (l.set d u) k v v' cvs hn.2 (by simpa using hl) (by simpa using hk) hv hr
    exact hset lv vs _ k _ _ _ hlv hlen hk (fun cv h => by
      cases h with
      | lst0 => exact .bs0 _ _ _
      | @lst _ _ b off cap sz cvs h1 h2 h3 h4 h5 h6 =>
        have h6 : cap = 0 := h6
        subst h6
        exact .bs1 _ _ _ _ _) hr.tm
  · have h1 := hr.wr.padded 0 1
    simp only [List.replicate_zero, List.append_nil] at h1
    have h2 := h1.unborn (s := nm.length) (by simp [St.of]) hc
    have e : (nm ++ List.replicate 1 none).set nm.length (some (Bf.live c)) = nm ++ [some (.live c)] := by simp
    show WRel Γ G ob (nm ++ [some (.live c)]) w
    rw [← e]
    exact h2
end
end Go.Proofs.Ytnjjkobijjdnbaa
