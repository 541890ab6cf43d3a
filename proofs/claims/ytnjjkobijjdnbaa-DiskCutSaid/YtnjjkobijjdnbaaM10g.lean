/- Parts of the library of texts, one after the other: Ev25, Ev26. -/
import Derived.Test.YtnjjkobijjdnbaaM10f
/- Calls with memory: the callee is reckoned in the caller's memory; what it made and is still asked for is laid behind. -/
set_option linter.unusedVariables false
set_option linter.unusedSimpArgs false
namespace Go.Proofs.Ytnjjkobijjdnbaa
open Go

def isRange : Nat → Nat → List Nat → Bool
  | _, 0, _ => true
  | s, k + 1, x :: xs => x == s && isRange (s + 1) k xs
  | _, _ + 1, [] => false
theorem isRange_get : ∀ {k s : Nat} {l : List Nat}, isRange s k l = true → ∀ i, i < k → l[i]? = some (s + i)
  | 0, s, l, h, i, hi => by omega
  | k + 1, s, [], h, i, hi => by simp [isRange] at h
  | k + 1, s, x :: xs, h, i, hi => by
    simp only [isRange, Bool.and_eq_true, beq_iff_eq] at h
    cases i with
    | zero => simp [h.1]
    | succ i =>
      have := isRange_get h.2 i (by omega)
      simp only [List.getElem?_cons_succ, this]
      congr 1
      omega
section
variable {P : Program} {Γ : Nat → Option V} {cf : CallF}
theorem SemF.ren {f : FuncId} {args : List V} {ob ob1 ob' : Ob} {nm nm1 nm' : Nm} {v v' : V} (h : SemF P Γ f args ob nm v ob1 nm1) {po pn : List Nat} (hv : v.cl (renP po pn) = some v') (ho : renOb po pn ob1 po = some ob') (hn : renNm po pn nm1 pn = some nm')
    (d1 : nodupB po = true) (d2 : nodupB pn = true) (k1 : isRange 0 ob.length po = true) (k2 : isRange 0 nm.length pn = true) : SemF P Γ f args ob nm v' ob' nm' := by
  intro G w cargs hw hr
  refine (h G w cargs hw hr).mono ?_
  rintro e w' ⟨cv, G1, rfl, hle, hv1, hw1⟩
  refine ⟨cv, G1.ren po pn, rfl, ⟨⟨hle.m, fun o b hh => ?_, fun n x hh => ?_, hle.d⟩, hle.kh, hle.kt, hle.w0, hle.m0, hle.kd⟩, VRel.cl (G := G1) (G' := G1.ren po pn) (renP_cell po pn) (fun _ _ _ h => h) (renP_rel po pn) hv1 hv, hw1.ren ho hn d1 d2⟩
  · have := isRange_get k1 o (hw.hlt o b hh).1
    show (po[o]?).bind G1.H = some b
    rw [this, Nat.zero_add]
    exact hle.h o b hh
  · have := isRange_get k2 n (hw.tlt n x hh)
    show (pn[n]?).bind G1.T = some x
    rw [this, Nat.zero_add]
    exact hle.t n x hh
/-- Objects of which less is said. -/
theorem WRel.weakOb {G : Gh} {ob ob' : Ob} {nm : Nm} {w : World} (h : WRel Γ G ob nm w) (hl : ob'.length = ob.length) (hs : ∀ (o : Nat) (cs' : List V), ob'[o]? = some (some cs') → ∃ cs, ob[o]? = some (some cs) ∧ cs'.length = cs.length ∧ ∀ (j : Nat) (x' : V), cs'[j]? = some x' → ∃ x, cs[j]? = some x ∧ ∀ (G : Gh) (cv : Value), VRel G x cv → VRel G x' cv)
    (hn : ∀ o : Nat, ob'[o]? = some none → ob[o]? = some none) : WRel Γ G ob' nm w :=
  { h with
    hob := fun o cs' b h1 h2 => by
      obtain ⟨cs, e1, e2, e3⟩ := hs o cs' h1
      obtain ⟨a1, ⟨c, E, fr, q1, q2, q3, q4⟩, a3⟩ := h.hob o cs b e1 h2
      refine ⟨a1, ⟨c, E, fr, q1, q2, by omega, ?_⟩, a3⟩
      rw [e2]
      refine ⟨by rw [q4.1, e2], fun j x' cv g1 g2 => ?_⟩
      obtain ⟨x, gx, hx⟩ := e3 j x' g1
      exact hx G cv (q4.2 j x cv gx g2)
    hlt := fun o b h1 => by rw [hl]; exact h.hlt o b h1
    habs := fun o h1 => h.habs o (hn o h1) }
/-- A buffer of which less is said. -/
structure BCw (c c' : BC) : Prop where
  sz : c'.sz = c.sz
  len : c'.len = c.len
  el : (∀ v ∈ c.els, v.cells.length = c.sz) → ∀ v ∈ c'.els, v.cells.length = c'.sz
  fl : (flat c'.els).length = (flat c.els).length
  rel : ∀ (G : Gh) (cvs : List Value), Rels G (flat c.els) cvs → Rels G (flat c'.els) cvs
theorem BCw.refl (c : BC) : BCw c c := ⟨rfl, rfl, fun h => h, rfl, fun _ _ h => h⟩
/-- Buffers of which less is said. -/
theorem WRel.weakNm {G : Gh} {ob : Ob} {nm nm' : Nm} {w : World} (h : WRel Γ G ob nm w) (hl : nm'.length = nm.length) (hs : ∀ (n : Nat) (c' : BC), nm'[n]? = some (some (.live c')) → ∃ c, nm[n]? = some (some (.live c)) ∧ BCw c c') (hn : ∀ n : Nat, nm'[n]? = some none → nm[n]? = some none) : WRel Γ G ob nm' w :=
  { h with
    hnm := fun n c' x h1 h2 => by
      obtain ⟨c, h3, k⟩ := hs n c' h1
      have B := h.hnm n c x h3 h2
      obtain ⟨cvs, E, fr, e1, e2, e3, e4⟩ := B.row
      exact ⟨B.old, ⟨cvs, E, fr, e1, e2, e3, by rw [k.fl]; exact k.rel G _ e4⟩, B.sz.trans k.sz.symm, k.el B.el, k.len.trans B.len, B.cap, B.free, B.obj⟩
    hno := fun n c' h1 h2 => by obtain ⟨c, h3, k⟩ := hs n c' h1; exact k.len.trans (h.hno n c h3 h2)
    nmd := fun n n' c c' x x' hne h1 h2 h3 h4 => by
      obtain ⟨d, g1, _⟩ := hs n c h1
      obtain ⟨d', g2, _⟩ := hs n' c' h2
      exact h.nmd n n' d d' x x' hne g1 g2 h3 h4
    tabs := fun n h1 => h.tabs n (hn n h1)
    tlt := fun n x h1 => by rw [hl]; exact h.tlt n x h1 }
theorem mergeL_append (b : Bool) : ∀ {xs ys zs us vs ws : List V}, mergeL b xs ys = some zs → mergeL b us vs = some ws → mergeL b (xs ++ us) (ys ++ vs) = some (zs ++ ws)
  | [], ys, zs, us, vs, ws, h, k => by
    cases ys with
    | nil => simp [mergeL] at h; subst h; exact k
    | cons y ys => simp [mergeL] at h
  | x :: xs, ys, zs, us, vs, ws, h, k => by
    cases ys with
    | nil => simp [mergeL] at h
    | cons y ys =>
      simp only [mergeL] at h
      split at h
      · rename_i z zs' h1 h2
        cases h
        have := mergeL_append b h2 k
        simp only [List.cons_append, mergeL, h1, this]
      · cases h
theorem mergeL_flat (b : Bool) : ∀ {xs ys zs : List V}, mergeL b xs ys = some zs → mergeL b (flat xs) (flat ys) = some (flat zs)
  | [], ys, zs, h => by
    cases ys with
    | nil => simp [mergeL] at h; subst h; rfl
    | cons y ys => simp [mergeL] at h
  | x :: xs, ys, zs, h => by
    cases ys with
    | nil => simp [mergeL] at h
    | cons y ys =>
      simp only [mergeL] at h
      split at h
      · rename_i z zs' h1 h2
        cases h
        rw [flat_cons, flat_cons, flat_cons]
        exact mergeL_append b (mergeV_cells b h1) (mergeL_flat b h2)
      · cases h
/-! ### The ways' ends in one -/
def mergeO (b : Bool) : Ob → Ob → Option Ob
  | [], [] => some []
  | x :: xs, y :: ys =>
    match mergeO b xs ys with
    | none => none
    | some r =>
      match x, y with
      | none, none => some (none :: r)
      | some a, some c => match mergeL b a c with | some z => some (some z :: r) | none => none
      | _, _ => none
  | _, _ => none
/-- What type a value may be of. -/
def V.tyG : V → Option Ty
  | .b _ => some .bool
  | .sb _ => some .bool
  | .i k _ => some (.int k)
  | .si k _ => some (.int k)
  | .s _ => some .str
  | .ss _ => some .str
  | .slst _ e _ => some (.slice e)
  | .agg cs => match optMap (fun (v : V) => match v with | .b _ => some Ty.bool | .sb _ => some Ty.bool | .i k _ => some (Ty.int k) | .si k _ => some (Ty.int k) | .s _ => some Ty.str | .ss _ => some Ty.str | .slst _ e _ => some (Ty.slice e) | _ => none) cs with | some ts => some (.agg ts) | none => none
  | _ => none
def BC.tyG : BC → Option Ty
  | .arr ty _ => some ty
  | .cs _ (v :: _) => v.tyG
  | .cs _ [] => none
/-- As plain data. -/
def BC.as (ty : Ty) : BC → Option (List ty.den)
  | .arr _ l => listAs ty l
  | .cs sz l => if sz = ty.size then optMap (whole ty.ofC) l else none
/-- Both as plain data. -/
def mergeArr (b : Bool) (c d : BC) : Bf :=
  match (c.tyG).or d.tyG with
  | some ty => match c.as ty, d.as ty with | some l, some l' => .live (.arr ty (bif b then l else l')) | _, _ => .dead
  | none => .dead
def mergeBf (b : Bool) : Bf → Bf → Bf
  | .live (.cs sz l), .live (.cs sz' l') => if sz = sz' then (match mergeL b l l' with | some z => .live (.cs sz z) | none => mergeArr b (.cs sz l) (.cs sz' l')) else .dead
  | .live c, .live d => mergeArr b c d
  | _, _ => .dead
def mergeN (b : Bool) : Nm → Nm → Option Nm
  | [], [] => some []
  | x :: xs, y :: ys =>
    match mergeN b xs ys with
    | none => none
    | some r =>
      match x, y with
      | none, none => some (none :: r)
      | some a, some c => some (some (mergeBf b a c) :: r)
      | _, _ => none
  | _, _ => none
theorem mergeL_get (b : Bool) : ∀ {xs ys zs : List V}, mergeL b xs ys = some zs → zs.length = (bif b then xs else ys).length ∧ ∀ (j : Nat) (z : V), zs[j]? = some z → ∃ x, (bif b then xs else ys)[j]? = some x ∧ ∀ (G : Gh) (cv : Value), VRel G x cv → VRel G z cv
  | [], ws, zs, h => by
    cases ws with
    | nil => simp [mergeL] at h; subst h; cases b <;> exact ⟨rfl, fun j z hj => by simp at hj⟩
    | cons w ws => simp [mergeL] at h
  | x :: xs, ws, zs, h => by
    cases ws with
    | nil => simp [mergeL] at h
    | cons w ws =>
      simp only [mergeL] at h
      split at h
      · rename_i z zs' h1 h2
        cases h
        obtain ⟨g1, g2⟩ := mergeL_get b h2
        have hm := mergeV_ok b x w z h1
        refine ⟨by cases b <;> simpa using g1, fun j u hj => ?_⟩
        cases j with
        | zero =>
          simp at hj
          subst hj
          cases b
          · exact ⟨w, rfl, fun G cv hr => hm G cv hr⟩
          · exact ⟨x, rfl, fun G cv hr => hm G cv hr⟩
        | succ j =>
          obtain ⟨y, hy, hr⟩ := g2 j u (by simpa using hj)
          cases b
          · exact ⟨y, by simpa using hy, hr⟩
          · exact ⟨y, by simpa using hy, hr⟩
      · cases h
theorem mergeO_get (b : Bool) : ∀ {xs ys zs : Ob}, mergeO b xs ys = some zs → zs.length = (bif b then xs else ys).length ∧
    (∀ (o : Nat) (cs' : List V), zs[o]? = some (some cs') → ∃ cs, (bif b then xs else ys)[o]? = some (some cs) ∧ cs'.length = cs.length ∧ ∀ (j : Nat) (x' : V), cs'[j]? = some x' → ∃ x, cs[j]? = some x ∧ ∀ (G : Gh) (cv : Value), VRel G x cv → VRel G x' cv) ∧
    ∀ o : Nat, zs[o]? = some none → (bif b then xs else ys)[o]? = some none
  | [], [], zs, h => by simp [mergeO] at h; subst h; cases b <;> exact ⟨rfl, fun o cs h => by simp at h, fun o h => by simp at h⟩
  | [], y :: ys, zs, h => by simp [mergeO] at h
  | x :: xs, [], zs, h => by simp [mergeO] at h
  | x :: xs, y :: ys, zs, h => by
    simp only [mergeO] at h
    cases hr : mergeO b xs ys with
    | none => rw [hr] at h; cases h
    | some r =>
      rw [hr] at h
      simp only [] at h
      obtain ⟨g1, g2, g3⟩ := mergeO_get b hr
      have e : (bif b then x :: xs else y :: ys) = (bif b then x else y) :: (bif b then xs else ys) := by cases b <;> rfl
      rw [e]
      split at h
      · cases h
        refine ⟨by simp [g1], fun o cs' ho => ?_, fun o ho => ?_⟩
        · cases o with
          | zero => simp at ho
          | succ o => simpa using g2 o cs' (by simpa using ho)
        · cases o with
          | zero => cases b <;> rfl
          | succ o => simpa using g3 o (by simpa using ho)
      · rename_i a c
        split at h
        · rename_i z hz
          cases h
          obtain ⟨l1, l2⟩ := mergeL_get b hz
          refine ⟨by simp [g1], fun o cs' ho => ?_, fun o ho => ?_⟩
          · cases o with
            | zero =>
              simp at ho
              subst ho
              exact ⟨bif b then a else c, by cases b <;> rfl, l1, l2⟩
            | succ o => simpa using g2 o cs' (by simpa using ho)
          · cases o with
            | zero => simp at ho
            | succ o => simpa using g3 o (by simpa using ho)
        · cases h
      · cases h
theorem BC.as_w {ty : Ty} {c : BC} {l : List ty.den} (h : c.as ty = some l) : BCw c (.arr ty l) := by
  cases c with
  | arr ty' l' =>
    simp only [BC.as, listAs] at h
    split at h
    · rename_i he
      obtain rfl := Ty.eqb_eq he
      cases h
      exact .refl _
    · cases h
  | cs sz xs =>
    simp only [BC.as] at h
    split at h
    · rename_i hs
      subst hs
      obtain ⟨h1, h2, h3⟩ := optMap_ok (Ty.ofC_ok ty) h
      refine ⟨rfl, h1, fun _ v hv => ?_, ?_, fun G cvs hr => h3 G cvs hr⟩
      · obtain ⟨x, _, rfl⟩ := List.mem_map.1 hv
        exact Ty.val_len ty x
      · show (flat (l.map ty.val)).length = (flat xs).length
        rw [flat_length (sz := ty.size) (fun v hv => by obtain ⟨x, _, rfl⟩ := List.mem_map.1 hv; exact Ty.val_len ty x), flat_length h2, List.length_map, h1]
    · cases h
theorem mergeArr_live {b : Bool} {c d e : BC} (h : mergeArr b c d = .live e) : ∃ d0, (bif b then Bf.live c else Bf.live d) = .live d0 ∧ BCw d0 e := by
  unfold mergeArr at h
  split at h
  · split at h
    · rename_i l l' h1 h2
      cases h
      cases b
      · exact ⟨d, rfl, BC.as_w h2⟩
      · exact ⟨c, rfl, BC.as_w h1⟩
    · cases h
  · cases h
theorem mergeBf_live {b : Bool} {x y : Bf} {c : BC} (h : mergeBf b x y = .live c) : ∃ d, (bif b then x else y) = .live d ∧ BCw d c := by
  unfold mergeBf at h
  split at h
  · rename_i sz l sz' l'
    split at h
    · rename_i hs
      subst hs
      split at h
      · rename_i z hz
        cases h
        obtain ⟨g1, g0, g2⟩ := mergeL_get0 b hz
        have hfl := mergeL_flat b hz
        obtain ⟨f1, f2⟩ := mergeL_get b hfl
        refine ⟨.cs sz (bif b then l else l'), by cases b <;> rfl, rfl, g1, fun hel v hv => ?_, ?_, fun G cvs hr => ?_⟩
        · obtain ⟨j, hj⟩ := List.getElem?_of_mem hv
          obtain ⟨p, q, e1, e2, e3⟩ := g2 j v hj
          obtain ⟨k1, k2, _⟩ := mergeL_get0 b (mergeV_cells b e3)
          have : (bif b then p else q) ∈ (bif b then l else l') := by
            cases b
            · exact List.mem_of_getElem? e2
            · exact List.mem_of_getElem? e1
          have hc := hel _ this
          have : (bif b then p.cells else q.cells).length = (bif b then p else q).cells.length := by cases b <;> rfl
          show v.cells.length = sz
          rw [k1, this]
          exact hc
        · show (flat z).length = (flat (bif b then l else l')).length
          rw [f1]
          cases b <;> rfl
        · have e : flat (BC.cs sz (bif b then l else l')).els = (bif b then flat l else flat l') := by cases b <;> rfl
          rw [e] at hr
          refine ⟨by show cvs.length = (flat z).length; rw [f1]; exact hr.1, fun j v cv h1 h2 => ?_⟩
          obtain ⟨x, e1, e2⟩ := f2 j v h1
          exact e2 G cv (hr.2 j x cv e1 h2)
      · exact mergeArr_live h
    · cases h
  · exact mergeArr_live h
  · cases h
theorem mergeN_get (b : Bool) : ∀ {xs ys zs : Nm}, mergeN b xs ys = some zs → zs.length = (bif b then xs else ys).length ∧ (∀ (n : Nat) (c : BC), zs[n]? = some (some (.live c)) → ∃ d, (bif b then xs else ys)[n]? = some (some (.live d)) ∧ BCw d c) ∧ ∀ n : Nat, zs[n]? = some none → (bif b then xs else ys)[n]? = some none
  | [], [], zs, h => by simp [mergeN] at h; subst h; cases b <;> exact ⟨rfl, fun o cs h => by simp at h, fun o h => by simp at h⟩
  | [], y :: ys, zs, h => by simp [mergeN] at h
  | x :: xs, [], zs, h => by simp [mergeN] at h
  | x :: xs, y :: ys, zs, h => by
    simp only [mergeN] at h
    cases hr : mergeN b xs ys with
    | none => rw [hr] at h; cases h
    | some r =>
      rw [hr] at h
      simp only [] at h
      obtain ⟨g1, g2, g3⟩ := mergeN_get b hr
      have e : (bif b then x :: xs else y :: ys) = (bif b then x else y) :: (bif b then xs else ys) := by cases b <;> rfl
      rw [e]
      split at h
      · cases h
        refine ⟨by simp [g1], fun o c ho => ?_, fun o ho => ?_⟩
        · cases o with
          | zero => simp at ho
          | succ o => simpa using g2 o c (by simpa using ho)
        · cases o with
          | zero => cases b <;> rfl
          | succ o => simpa using g3 o (by simpa using ho)
      · rename_i a c
        cases h
        refine ⟨by simp [g1], fun o d ho => ?_, fun o ho => ?_⟩
        · cases o with
          | zero =>
            simp at ho
            obtain ⟨d0, this, hw⟩ := mergeBf_live ho
            refine ⟨d0, ?_, hw⟩
            cases b
            · simp only [cond_false] at this ⊢; rw [this]; rfl
            · simp only [cond_true] at this ⊢; rw [this]; rfl
          | succ o => simpa using g2 o d (by simpa using ho)
        · cases o with
          | zero => simp at ho
          | succ o => simpa using g3 o (by simpa using ho)
      · cases h
inductive MR where
  | bad | dead | ok (c : Option Bool) (v : V) (ob : Ob) (nm : Nm)
def MR.mg (b : Bool) : MR → MR → MR
  | .bad, _ => .bad
  | _, .bad => .bad
  | .dead, .dead => .dead
  | .ok c v ob nm, .dead => .ok (some (b && c.getD true)) v ob nm
  | .dead, .ok c v ob nm => .ok (some (!b && c.getD true)) v ob nm
  | .ok c v ob nm, .ok c' v' ob' nm' =>
    match mergeV b v v', mergeO b ob ob', mergeN b nm nm' with
    | some z, some o, some n => .ok (match c, c' with | none, none => none | _, _ => some (bif b then c.getD true else c'.getD true)) z o n
    | _, _, _ => .bad
/-- One way's end under the caller's names. -/
def leafM (k kt : Nat) (v : V) (s : St) : MR :=
  match s.names 3 (addNew (List.range k) v.refs) (addNew (List.range kt) v.nrefs) with
  | (po, pn) =>
    match nodupB po && nodupB pn && isRange 0 k po && isRange 0 kt pn with
    | false => .bad
    | true =>
      match v.cl (renP po pn), renOb po pn s.ob po, renNm po pn s.nm pn with
      | some v', some ob', some nm' => .ok none v' ob' nm'
      | _, _, _ => .bad
def mergeM (k kt : Nat) : Tr (V × St) → MR
  | .leaf none => .dead
  | .leaf (some p) => leafM k kt p.1 p.2
  | .br b x y => (mergeM k kt x).mg b (mergeM k kt y)
theorem mergeM_ok {f : FuncId} {args : List V} {ob : Ob} {nm : Nm} : ∀ (t : Tr (V × St)), (∀ v s, t.run = some (v, s) → SemF P Γ f args ob nm v s.ob s.nm) → ∀ (c : Option Bool) (v : V) (ob' : Ob) (nm' : Nm), mergeM ob.length nm.length t = .ok c v ob' nm' → c.getD true = true → SemF P Γ f args ob nm v ob' nm'
  | .leaf none, _, c, v, ob', nm', h, _ => by cases h
  | .leaf (some p), hs, c, v, ob', nm', h, _ => by
    simp only [mergeM, leafM] at h
    split at h
    · cases h
    · rename_i hc
      simp only [Bool.and_eq_true] at hc
      split at h
      · rename_i v1 ob1 nm1 e1 e2 e3
        cases h
        exact (hs p.1 p.2 rfl).ren e1 e2 e3 hc.1.1.1 hc.1.1.2 hc.1.2 hc.2
      · cases h
  | .br b x y, hs, c, v, ob', nm', h, hc => by
    simp only [mergeM] at h
    have hx : b = true → ∀ v s, x.run = some (v, s) → SemF P Γ f args ob nm v s.ob s.nm := fun hb v s hr => hs v s (by subst hb; exact hr)
    have hy : b = false → ∀ v s, y.run = some (v, s) → SemF P Γ f args ob nm v s.ob s.nm := fun hb v s hr => hs v s (by subst hb; exact hr)
    cases hmx : mergeM ob.length nm.length x with
    | bad => rw [hmx] at h; cases h
    | dead =>
      cases hmy : mergeM ob.length nm.length y with
      | bad => rw [hmx, hmy] at h; cases h
      | dead => rw [hmx, hmy] at h; cases h
      | ok d u o n =>
        rw [hmx, hmy] at h
        cases h
        have hc' : b = false ∧ d.getD true = true := by simpa using hc
        exact mergeM_ok y (hy hc'.1) d _ _ _ hmy hc'.2
    | ok d u o n =>
      cases hmy : mergeM ob.length nm.length y with
      | bad => rw [hmx, hmy] at h; cases h
      | dead =>
        rw [hmx, hmy] at h
        cases h
        have hc' : b = true ∧ d.getD true = true := by simpa using hc
        exact mergeM_ok x (hx hc'.1) d _ _ _ hmx hc'.2
      | ok d2 u2 o2 n2 =>
        rw [hmx, hmy] at h
        simp only [MR.mg] at h
        split at h
        · rename_i z oz nz e1 e2 e3
          cases h
          have hcc : (bif b then d.getD true else d2.getD true) = true := by
            cases d <;> cases d2 <;> cases b <;> first | rfl | simpa using hc
          obtain ⟨o1, o2', o3⟩ := mergeO_get b e2
          obtain ⟨n1, n2', n3⟩ := mergeN_get b e3
          have hm := mergeV_ok b u u2 _ e1
          have base : SemF P Γ f args ob nm (bif b then u else u2) (bif b then o else o2) (bif b then n else n2) := by
            cases b
            · exact mergeM_ok y (hy rfl) d2 _ _ _ hmy hcc
            · exact mergeM_ok x (hx rfl) d _ _ _ hmx hcc
          intro G w cargs hw hr
          refine (base G w cargs hw hr).mono ?_
          rintro e w' ⟨cv, G1, rfl, hle, hv, hw1⟩
          exact ⟨cv, G1, rfl, hle, hm G1 cv hv, (hw1.weakOb o1 o2' o3).weakNm n1 n2' n3⟩
        · cases h
end
end Go.Proofs.Ytnjjkobijjdnbaa

/- The calls: contracts, effects that are told, loops by table; and with memory. -/
set_option linter.unusedVariables false
set_option linter.unusedSimpArgs false
namespace Go.Proofs.Ytnjjkobijjdnbaa
open Go

/-- What is known: contracts by plain arguments; calls with their effects; loops; the slots kept behind joined regions; functions that are always reckoned with memory; the fuel; the ways that are chosen. -/
structure Cfg where
  orc : Orc
  omd : FuncId → Bool
  om : CallF
  lo : LOrc
  lv : FuncId → List Nat
  mem : FuncId → Bool
  n : Nat
  wy : FuncId → List V → Option (List Bool) := fun _ _ => none   -- of these calls one way alone is looked at
structure CfgOk (P : Program) (Γ : Nat → Option V) (C : Cfg) : Prop where
  orc : OrcOk P Γ C.orc
  om : CallsOk P Γ C.om
  fit : CallsFit C.om
  lo : LOrcOk P Γ C.lo
  mixed : P.follows .mixedOrders = true
/-- One way of a tree; the others are dead. -/
def Tr.prune {α : Type} : Tr α → List Bool → Tr α
  | .leaf a, _ => .leaf a
  | .br b x _, true :: ds => .br b (x.prune ds) (.leaf none)
  | .br b _ y, false :: ds => .br b (.leaf none) (y.prune ds)
  | .br _ _ _, [] => .leaf none
theorem Tr.prune_run {α : Type} : ∀ (t : Tr α) (ds : List Bool) (a : α), (t.prune ds).run = some a → t.run = some a
  | .leaf x, _, a, h => h
  | .br b x y, [], a, h => by cases h
  | .br b x y, true :: ds, a, h => by
    cases b with
    | true => exact Tr.prune_run x ds a h
    | false => cases h
  | .br b x y, false :: ds, a, h => by
    cases b with
    | true => cases h
    | false => exact Tr.prune_run y ds a h
def Tr.only {α : Type} (t : Tr α) : Option (List Bool) → Tr α
  | none => t
  | some ds => t.prune ds
theorem Tr.only_run {α : Type} {t : Tr α} {o : Option (List Bool)} {a : α} (h : (t.only o).run = some a) : t.run = some a := by
  cases o with
  | none => exact h
  | some ds => exact Tr.prune_run t ds a h
/-- A call without memory: what must hold, and the value. -/
def callK (P : Program) (Γ : Nat → Option V) (C : Cfg) (cf : CallF) (f : FuncId) (args : List V) : Option (Option Bool × V) :=
  match C.orc f args with
  | some p => some p
  | none =>
    match C.orc f (V.syL args) with
    | some p => some p
    | none =>
      match mergeT ((evFK P Γ cf C.lo (C.lv f) C.n f args [] []).only (C.wy f args)) with
      | .ok c v => some (c, v)
      | _ => none
def freeKeep {α : Type} : List (Option α) → List (Option α) → Bool
  | [], _ => true
  | some _ :: xs, _ :: ys => freeKeep xs ys
  | none :: xs, y :: ys => y.isNone && freeKeep xs ys
  | _ :: _, [] => false
theorem freeKeep_get {α : Type} : ∀ {l l' : List (Option α)}, freeKeep l l' = true → ∀ s : Nat, l[s]? = some none → l'[s]? = some none
  | [], l', h, s, hs => by simp at hs
  | some a :: xs, y :: ys, h, s, hs => by
    simp only [freeKeep] at h
    cases s with
    | zero => simp at hs
    | succ s => simpa using freeKeep_get h s (by simpa using hs)
  | none :: xs, y :: ys, h, s, hs => by
    simp only [freeKeep, Bool.and_eq_true] at h
    cases s with
    | zero => simp at h ⊢; exact h.1
    | succ s => simpa using freeKeep_get h.2 s (by simpa using hs)
  | x :: xs, [], h, s, hs => by cases x <;> simp [freeKeep] at h
/-- All names that values have are of these. -/
def inB (po pn : Nat → Bool) (l : List V) : Bool := (V.refsL l).all po && (V.nrefsL l).all pn
def allO (p : Nat → Bool) (q : List V → Bool) : Nat → Ob → Bool
  | _, [] => true
  | i, none :: r => allO p q (i + 1) r
  | i, some cs :: r => (!p i || q cs) && allO p q (i + 1) r
def allN (p : Nat → Bool) (q : List V → Bool) : Nat → Nm → Bool
  | _, [] => true
  | i, some (.live (.cs _ xs)) :: r => (!p i || q xs) && allN p q (i + 1) r
  | i, _ :: r => allN p q (i + 1) r
/-- A call with memory: it is handed what its arguments lead to. -/
def callM (P : Program) (Γ : Nat → Option V) (C : Cfg) (cf : CallF) (f : FuncId) (args : List V) (ob : Ob) (nm : Nm) : Option Out :=
  match dO ob nm 3 args, dN ob nm 3 args with
  | to, tn =>
    match inB to.contains tn.contains args && allO to.contains (inB to.contains tn.contains) 0 ob && allN tn.contains (inB to.contains tn.contains) 0 nm with
    | false => none
    | true =>
      match mergeM (maskO to 0 ob).length (maskN tn 0 nm).length ((evFK P Γ cf C.lo (C.lv f) C.n f args (maskO to 0 ob) (maskN tn 0 nm)).only (C.wy f args)) with
      | .ok c v ob1 nm1 =>
        match freeKeep (maskO to 0 ob) ob1 && freeKeep (maskN tn 0 nm) nm1 && inB (fun o => to.contains o || Nat.ble ob.length o) (fun n => tn.contains n || Nat.ble nm.length n) [v] &&
            allO (fun o => to.contains o || Nat.ble ob.length o) (inB (fun o => to.contains o || Nat.ble ob.length o) (fun n => tn.contains n || Nat.ble nm.length n)) 0 ob1 &&
            allN (fun n => tn.contains n || Nat.ble nm.length n) (inB (fun o => to.contains o || Nat.ble ob.length o) (fun n => tn.contains n || Nat.ble nm.length n)) 0 nm1 with
        | true => some (outC c v { ro := to, rn := tn, blk := some (restO to 0 ob ob1, restN tn 0 nm nm1), bl := (ob.length, nm.length), ko := to, kn := tn })
        | false => none
      | _ => none
/-- One round. -/
def evY (P : Program) (Γ : Nat → Option V) (cf : CallF) (n : Nat) (tm : List V) (ps : Array Tmp) (as bd : Code) (vs : List V) (ob : Ob) (nm : Nm) : Tr (V × St) :=
  match Nat.beq vs.length ps.size with
  | false => .leaf none
  | true =>
    (evC P Γ cf n as ⟨setPs ps.toList vs tm, ob, nm, ob.length, nm.length⟩).bind fun p =>
      match p.1 with
      | .normal =>
        match p.2.noY with
        | true => (evC P Γ cf n bd p.2).bind fun q => match q.1 with | .normal => .leaf (some (.b true, q.2)) | _ => .leaf none
        | false => .leaf none
      | _ => .leaf none
def callY (P : Program) (Γ : Nat → Option V) (C : Cfg) (cf : CallF) (args : List V) (ob : Ob) (nm : Nm) : Option Out :=
  match args with
  | .yl tm ps as bd :: vs =>
    match P.funcs[yid]? with
    | some _ => none
    | none =>
      match mergeM ob.length nm.length (evY P Γ cf C.n tm ps as bd vs ob nm) with
      | .ok c v ob' nm' => if freeKeep ob ob' && freeKeep nm nm' then some (outC c v { blk := some (ob', nm') }) else none
      | _ => none
  | _ => none
def cfM (P : Program) (Γ : Nat → Option V) (C : Cfg) : Nat → CallF
  | 0, _, _, _, _ => none
  | d + 1, f, args, ob, nm =>
    match Nat.beq f yid with
    | true => callY P Γ C (cfM P Γ C d) args ob nm
    | false =>
      match C.omd f with
      | true => C.om f args ob nm
      | false =>
        match C.mem f with
        | true => callM P Γ C (cfM P Γ C d) f args ob nm
        | false =>
          match V.clnL args with
          | some args' =>
            match callK P Γ C (cfM P Γ C d) f args' with
            | some (c, v) => some (outC c v .pure)
            | none => none
          | none =>
            match V.lndL ob nm args with
            | none => callM P Γ C (cfM P Γ C d) f args ob nm
            | some args' =>
              match callK P Γ C (cfM P Γ C d) f args' with
              | some (c, v) => if v.flt then some (outC c v (.rds (dO ob nm 3 args) (dN ob nm 3 args))) else none
              | none => none
section
variable {P : Program} {Γ : Nat → Option V} {C : Cfg}
theorem evFK_fn {cf : CallF} {lo : LOrc} {lv : List Nat} {n : Nat} {f : FuncId} {args : List V} {ob : Ob} {nm : Nm} {p : V × St} (h : (evFK P Γ cf lo lv n f args ob nm).run = some p) : ∃ fn, P.funcs[f]? = some fn ∧ fn.body.isSome = true ∧ (fn.name == "runtime.NumGoroutine") = false := by
  unfold evFK at h
  cases hf : P.funcs[f]? with
  | none => rw [hf] at h; cases h
  | some fn =>
    rw [hf] at h
    simp only [] at h
    cases hb : fn.body with
    | none => rw [hb] at h; cases h
    | some c =>
      rw [hb] at h
      simp only [] at h
      split at h
      · cases h
      · rename_i hn
        exact ⟨fn, rfl, by rw [hb]; rfl, by simpa using hn⟩
theorem mergeM_fn {k kt : Nat} : ∀ (t : Tr (V × St)) (c : Option Bool) (v : V) (ob' : Ob) (nm' : Nm), mergeM k kt t = .ok c v ob' nm' → c.getD true = true → ∃ p, t.run = some p
  | .leaf none, c, v, ob', nm', h, _ => by cases h
  | .leaf (some p), c, v, ob', nm', h, _ => ⟨p, rfl⟩
  | .br b x y, c, v, ob', nm', h, hc => by
    simp only [mergeM] at h
    cases hmx : mergeM k kt x with
    | bad => rw [hmx] at h; cases h
    | dead =>
      cases hmy : mergeM k kt y with
      | bad => rw [hmx, hmy] at h; cases h
      | dead => rw [hmx, hmy] at h; cases h
      | ok d u o n =>
        rw [hmx, hmy] at h
        cases h
        have hc' : b = false ∧ d.getD true = true := by simpa using hc
        obtain ⟨rfl, hd⟩ := hc'
        exact mergeM_fn y d _ _ _ hmy hd
    | ok d u o n =>
      cases hmy : mergeM k kt y with
      | bad => rw [hmx, hmy] at h; cases h
      | dead =>
        rw [hmx, hmy] at h
        cases h
        have hc' : b = true ∧ d.getD true = true := by simpa using hc
        obtain ⟨rfl, hd⟩ := hc'
        exact mergeM_fn x d _ _ _ hmx hd
      | ok d2 u2 o2 n2 =>
        rw [hmx, hmy] at h
        simp only [MR.mg] at h
        split at h
        · cases h
          have hcc : (bif b then d.getD true else d2.getD true) = true := by
            cases d <;> cases d2 <;> cases b <;> first | rfl | simpa using hc
          cases b
          · exact mergeM_fn y d2 _ _ _ hmy hcc
          · exact mergeM_fn x d _ _ _ hmx hcc
        · cases h
theorem callK_ok (hC : CfgOk P Γ C) {cf : CallF} (hok : CallsOk P Γ cf) (hfit : CallsFit cf) {f : FuncId} {args : List V} {c : Option Bool} {v : V} (h : callK P Γ C cf f args = some (c, v)) (hc : c.getD true = true) :
    SemF P Γ f args [] [] v [] [] ∧ ∃ fn, P.funcs[f]? = some fn ∧ fn.body.isSome = true ∧ (fn.name == "runtime.NumGoroutine") = false := by
  unfold callK at h
  split at h
  · rename_i p hv
    cases h
    exact hC.orc f _ _ _ hv hc
  · split at h
    · rename_i p hv
      cases h
      obtain ⟨g1, g2⟩ := hC.orc f _ _ _ hv hc
      exact ⟨g1.of_sy, g2⟩
    · split at h
      · rename_i c' v' hk
        cases h
        obtain ⟨u, s, u', h1, h2, h3⟩ := mergeT_run _ c v hk hc
        have h1 := Tr.only_run h1
        exact ⟨((evFK_sound hok hfit hC.mixed hC.lo h1).drop h2).weaken h3, evFK_fn h1⟩
      · cases h
theorem freeKeep_len {α : Type} : ∀ {l l' : List (Option α)}, freeKeep l l' = true → l.length ≤ l'.length
  | [], l', h => Nat.zero_le _
  | some a :: xs, y :: ys, h => by simpa using freeKeep_len (l := xs) (by simpa [freeKeep] using h)
  | none :: xs, y :: ys, h => by
    simp only [freeKeep, Bool.and_eq_true] at h
    simpa using freeKeep_len h.2
  | x :: xs, [], h => by cases x <;> simp [freeKeep] at h
theorem inB_ok {po pn : Nat → Bool} {l : List V} (h : inB po pn l = true) : NamesIn (fun o => po o = true) (fun n => pn n = true) l := by
  simp only [inB, Bool.and_eq_true] at h
  exact ⟨fun o ho => List.all_eq_true.1 h.1 o ho, fun n hn => List.all_eq_true.1 h.2 n hn⟩
theorem NamesIn.mono {p q p' q' : Nat → Prop} {l : List V} (h : NamesIn p q l) (hp : ∀ o, p o → p' o) (hq : ∀ n, q n → q' n) : NamesIn p' q' l := ⟨fun o ho => hp o (h.1 o ho), fun n hn => hq n (h.2 n hn)⟩
theorem allO_get {p : Nat → Bool} {q : List V → Bool} : ∀ {i : Nat} {ob : Ob}, allO p q i ob = true → ∀ (j : Nat) (cs : List V), ob[j]? = some (some cs) → p (i + j) = true → q cs = true
  | i, [], _, j, cs, hj, _ => by simp at hj
  | i, none :: r, h, 0, cs, hj, _ => by simp at hj
  | i, none :: r, h, j + 1, cs, hj, hp => allO_get (i := i + 1) (ob := r) (by simpa [allO] using h) j cs (by simpa using hj) (by rw [show i + 1 + j = i + (j + 1) by omega]; exact hp)
  | i, some c :: r, h, 0, cs, hj, hp => by
    simp at hj
    subst hj
    simp only [allO, Bool.and_eq_true, Bool.or_eq_true, Bool.not_eq_true'] at h
    rcases h.1 with h1 | h1
    · rw [Nat.add_zero] at hp; rw [hp] at h1; cases h1
    · exact h1
  | i, some c :: r, h, j + 1, cs, hj, hp => by
    simp only [allO, Bool.and_eq_true] at h
    exact allO_get (i := i + 1) (ob := r) h.2 j cs (by simpa using hj) (by rw [show i + 1 + j = i + (j + 1) by omega]; exact hp)
theorem allN_get {p : Nat → Bool} {q : List V → Bool} : ∀ {i : Nat} {nm : Nm}, allN p q i nm = true → ∀ (j sz : Nat) (xs : List V), nm[j]? = some (some (.live (.cs sz xs))) → p (i + j) = true → q xs = true
  | i, [], _, j, sz, xs, hj, _ => by simp at hj
  | i, c :: r, h, 0, sz, xs, hj, hp => by
    simp at hj
    subst hj
    simp only [allN, Bool.and_eq_true, Bool.or_eq_true, Bool.not_eq_true'] at h
    rcases h.1 with h1 | h1
    · rw [Nat.add_zero] at hp; rw [hp] at h1; cases h1
    · exact h1
  | i, c :: r, h, j + 1, sz, xs, hj, hp => by
    have h2 : allN p q (i + 1) r = true := by
      unfold allN at h
      split at h
      · rename_i e; cases e
      · rename_i e1 e2; cases e2; exact (Bool.and_eq_true _ _ ▸ h : _ ∧ _).2
      · rename_i e2; cases e2; exact h
    exact allN_get (i := i + 1) (nm := r) h2 j sz xs (by simpa using hj) (by rw [show i + 1 + j = i + (j + 1) by omega]; exact hp)
theorem els_names {p q : Nat → Prop} {c : BC} (h : ∀ sz xs, c = .cs sz xs → NamesIn p q xs) : NamesIn p q c.els := by
  cases c with
  | cs sz xs => exact h sz xs rfl
  | arr ty l => exact ⟨(fun o ho => by
      have : V.refsL (l.map ty.val) = [] := (map_refs ty l).1
      rw [show (BC.arr ty l).els = l.map ty.val from rfl, this] at ho; cases ho), (fun o ho => by
      have : V.nrefsL (l.map ty.val) = [] := (map_refs ty l).2
      rw [show (BC.arr ty l).els = l.map ty.val from rfl, this] at ho; cases ho)⟩
theorem okB {to : List Nat} {L o : Nat} : ((to.contains o || Nat.ble L o) = true) ↔ (o ∈ to ∨ L ≤ o) := by
  rw [Bool.or_eq_true, List.contains_iff_mem, Nat.ble_eq]
theorem callM_ok (hC : CfgOk P Γ C) {cf : CallF} (hok : CallsOk P Γ cf) (hfit : CallsFit cf) {f : FuncId} {args : List V} {ob : Ob} {nm : Nm} {out : Out} (h : callM P Γ C cf f args ob nm = some out) :
    EffOk 0 false ob nm out.eff ∧ out.eff.lays = true ∧ (out.chk = true → SemF P Γ f args ob nm out.v (out.eff.ob ob) (out.eff.nm nm) ∧ ∃ fn, P.funcs[f]? = some fn ∧ fn.body.isSome = true ∧ (fn.name == "runtime.NumGoroutine") = false) := by
  unfold callM at h
  simp only [] at h
  generalize dO ob nm 3 args = to at h
  generalize dN ob nm 3 args = tn at h
  split at h
  · cases h
  · rename_i hin
    simp only [Bool.and_eq_true] at hin
    obtain ⟨⟨i1, i2⟩, i3⟩ := hin
    split at h
    · rename_i c v ob1 nm1 hm
      split at h
      · rename_i hk
        simp only [Bool.and_eq_true] at hk
        obtain ⟨⟨⟨⟨k1, k2⟩, k3⟩, k4⟩, k5⟩ := hk
        have l1 : ob.length ≤ ob1.length := by have := freeKeep_len k1; rwa [maskO_len] at this
        have l2 : nm.length ≤ nm1.length := by have := freeKeep_len k2; rwa [maskN_len] at this
        cases h
        refine ⟨?_, ?_, fun hchk => ?_⟩
        · rw [outC_eff]
          refine ⟨(fun p hp => by cases hp), (fun p hp => by cases hp), (fun p hp => by
            cases hp
            refine ⟨fun s hs => ?_, fun s hs => ?_, fun o ho hno => ?_, fun n hn hno => ?_⟩
            · show (restO to 0 ob ob1)[s]? = some none
              rw [restO_get to 0 ob ob1 l1]
              split
              · exact hs
              · exact freeKeep_get k1 s (by rw [maskO_get, hs]; rfl)
            · show (restN tn 0 nm nm1)[s]? = some none
              rw [restN_get tn 0 nm nm1 l2]
              split
              · exact hs
              · exact freeKeep_get k2 s (by rw [maskN_get, hs]; rfl)
            · show (restO to 0 ob ob1)[o]? = ob[o]?
              rw [restO_get to 0 ob ob1 l1, if_pos ⟨ho, by simpa using hno⟩]
            · show (restN tn 0 nm nm1)[n]? = nm[n]?
              rw [restN_get tn 0 nm nm1 l2, if_pos ⟨hn, by simpa using hno⟩])⟩
        · rw [outC_eff]; rfl
        · rw [outC_chk] at hchk
          rw [outC_eff, outC_v]
          obtain ⟨p, hp⟩ := mergeM_fn _ c v ob1 nm1 hm hchk
          have hs : SemF P Γ f args (maskO to 0 ob) (maskN tn 0 nm) v ob1 nm1 := mergeM_ok _ (fun v s hr => evFK_sound hok hfit hC.mixed hC.lo (Tr.only_run hr)) c v ob1 nm1 hm hchk
          refine ⟨hs.mask ((inB_ok i1).mono (fun o ho => by simpa using ho) (fun n hn => by simpa using hn)) (fun o ho cs hcs => ?_) (fun n hn c hc => ?_) l1 l2 ((inB_ok k3).mono (fun o ho => okB.1 ho) (fun n hn => okB.1 hn)) (fun o ho cs hcs => ?_) (fun n hn c hc => ?_), evFK_fn (Tr.only_run hp)⟩
          · exact (inB_ok (allO_get i2 o cs hcs (by simpa using ho))).mono (fun o ho => by simpa using ho) (fun n hn => by simpa using hn)
          · refine els_names fun sz xs e => ?_
            subst e
            exact (inB_ok (allN_get i3 n sz xs hc (by simpa using hn))).mono (fun o ho => by simpa using ho) (fun n hn => by simpa using hn)
          · exact (inB_ok (allO_get k4 o cs hcs (by rw [Nat.zero_add]; exact okB.2 ho))).mono (fun o ho => okB.1 ho) (fun n hn => okB.1 hn)
          · refine els_names fun sz xs e => ?_
            subst e
            exact (inB_ok (allN_get k5 n sz xs hc (by rw [Nat.zero_add]; exact okB.2 hn))).mono (fun o ho => okB.1 ho) (fun n hn => okB.1 hn)
      · cases h
    · cases h
theorem evY_sound {cf : CallF} (hok : CallsOk P Γ cf) (hfit : CallsFit cf) (hm : P.follows .mixedOrders = true) {n : Nat} {tm : List V} {ps : Array Tmp} {as bd : Code} {vs : List V} {ob : Ob} {nm : Nm} {v : V} {s : St} (hf : P.funcs[yid]? = none)
    (h : (evY P Γ cf n tm ps as bd vs ob nm).run = some (v, s)) : SemF P Γ yid (.yl tm ps as bd :: vs) ob nm v s.ob s.nm := by
  unfold evY at h
  split at h
  · cases h
  · rename_i hl
    rw [Tr.run_bind] at h
    cases h1 : (evC P Γ cf n as ⟨setPs ps.toList vs tm, ob, nm, ob.length, nm.length⟩).run with
    | none => rw [h1] at h; cases h
    | some p =>
      obtain ⟨e, x⟩ := p
      rw [h1] at h
      simp only [Option.bind_some] at h
      split at h
      · rename_i he
        split at h
        · rename_i hY
          rw [Tr.run_bind] at h
          cases h2 : (evC P Γ cf n bd x).run with
          | none => rw [h2] at h; cases h
          | some q =>
            obtain ⟨e2, y⟩ := q
            rw [h2] at h
            simp only [Option.bind_some] at h
            split at h
            · rename_i he2
              simp only [Tr.run, Option.some.injEq, Prod.mk.injEq] at h
              obtain ⟨rfl, rfl⟩ := h
              exact SemF.yield hf (Nat.eq_of_beq_eq_true hl) (evC_sound hok hfit hm h1) hY (evC_sound hok hfit hm h2)
            · cases h
        · cases h
      · cases h
theorem callY_ok (hC : CfgOk P Γ C) {cf : CallF} (hok : CallsOk P Γ cf) (hfit : CallsFit cf) {args : List V} {ob : Ob} {nm : Nm} {out : Out} (h : callY P Γ C cf args ob nm = some out) :
    EffOk 0 false ob nm out.eff ∧ out.eff.lays = true ∧ (out.chk = true → SemF P Γ yid args ob nm out.v (out.eff.ob ob) (out.eff.nm nm) ∧ P.funcs[yid]? = none) := by
  unfold callY at h
  split at h
  · split at h
    · cases h
    · rename_i hf
      split at h
      · rename_i c v ob' nm' hm
        split at h
        · rename_i hk
          simp only [Bool.and_eq_true] at hk
          cases h
          refine ⟨?_, ?_, fun hchk => ?_⟩
          · rw [outC_eff]
            exact ⟨(fun p hp => by cases hp), (fun p hp => by cases hp), (fun p hp => by cases hp; exact ⟨freeKeep_get hk.1, freeKeep_get hk.2, (fun o ho => absurd ho (Nat.not_lt_zero _)), (fun o ho => absurd ho (Nat.not_lt_zero _))⟩)⟩
          · rw [outC_eff]; rfl
          · rw [outC_chk] at hchk
            rw [outC_eff, outC_v]
            exact ⟨mergeM_ok _ (fun v s hr => evY_sound hok hfit hC.mixed hf hr) c v ob' nm' hm hchk, hf⟩
        · cases h
      · cases h
  · cases h
theorem cfM_fit (hC : CfgOk P Γ C) : ∀ (d : Nat), CallsOk P Γ (cfM P Γ C d) ∧ CallsFit (cfM P Γ C d)
  | 0 => ⟨(fun f args ob nm out h => by cases h), ⟨(fun f args ob nm out h => by cases h), (fun f args ob nm out h => by cases h)⟩⟩
  | d + 1 => by
    obtain ⟨ihok, ihfit⟩ := cfM_fit hC d
    refine ⟨(fun f args ob nm out h hchk => ?_), ⟨(fun f args ob nm out h => ?_), (fun f args ob nm out h ob' nm' hs => ?_)⟩⟩
    · simp only [cfM] at h
      split at h
      · rename_i hy
        obtain rfl := Nat.eq_of_beq_eq_true hy
        obtain ⟨g1, g2⟩ := (callY_ok hC ihok ihfit h).2.2 hchk
        exact ⟨g1, .inl ⟨rfl, g2⟩⟩
      · rename_i hy
        split at h
        · exact hC.om f args ob nm out h hchk
        · split at h
          · obtain ⟨g1, g2⟩ := (callM_ok hC ihok ihfit h).2.2 hchk
            exact ⟨g1, .inr ⟨beq_ne hy, g2⟩⟩
          · split at h
            · rename_i args' hcl
              split at h
              · rename_i c v hk
                cases h
                rw [outC_chk] at hchk
                obtain ⟨g1, g2⟩ := callK_ok hC ihok ihfit hk hchk
                rw [outC_v, outC_eff]
                exact ⟨g1.frame hcl ob nm, .inr ⟨beq_ne hy, g2⟩⟩
              · cases h
            · split at h
              · obtain ⟨g1, g2⟩ := (callM_ok hC ihok ihfit h).2.2 hchk
                exact ⟨g1, .inr ⟨beq_ne hy, g2⟩⟩
              · rename_i args' hl
                split at h
                · rename_i c v hk
                  split at h
                  · rename_i hf
                    cases h
                    rw [outC_chk] at hchk
                    obtain ⟨g1, g2⟩ := callK_ok hC ihok ihfit hk hchk
                    rw [outC_v, outC_eff]
                    exact ⟨g1.lend hl hf, .inr ⟨beq_ne hy, g2⟩⟩
                  · cases h
                · cases h
    · simp only [cfM] at h
      split at h
      · exact (callY_ok hC ihok ihfit h).1
      · split at h
        · exact hC.fit.eff f args ob nm out h
        · split at h
          · exact (callM_ok hC ihok ihfit h).1
          · split at h
            · split at h
              · cases h; rw [outC_eff]; exact EffOk.none _ _ _ _
              · cases h
            · split at h
              · exact (callM_ok hC ihok ihfit h).1
              · split at h
                · split at h
                  · cases h; rw [outC_eff]; exact EffOk.rds _ _ _ _ _ _
                  · cases h
                · cases h
    · simp only [cfM] at h ⊢
      split at h
      · have hl := (callY_ok hC ihok ihfit h).2.1
        obtain ⟨rfl, rfl⟩ := hs.2.2 hl
        exact h
      · split at h
        · exact hC.fit.frame f args ob nm out h ob' nm' hs
        · split at h
          · have hl := (callM_ok hC ihok ihfit h).2.1
            obtain ⟨rfl, rfl⟩ := hs.2.2 hl
            exact h
          · split at h
            · exact h
            · split at h
              · have hl := (callM_ok hC ihok ihfit h).2.1
                obtain ⟨rfl, rfl⟩ := hs.2.2 hl
                rename_i hlnd
                rw [hlnd]
                exact h
              · rename_i args' hl
                split at h
                · rename_i c v hk
                  split at h
                  · rename_i hf
                    cases h
                    rw [outC_eff] at hs
                    obtain ⟨q1, q2, q3⟩ := clL_refs args hs.1 hs.2.1
                    have hl' : V.lndL ob' nm' args = some args' := by
                      rw [← hl]; exact q1.symm
                    simp only [hl', hk, hf, if_true, q2, q3]
                  · cases h
                · cases h
/-- A function's contract, reckoned. -/
theorem SemF.of_evM (hC : CfgOk P Γ C) {lv : List Nat} {n d : Nat} {f : FuncId} {args : List V} {c : Option Bool} {v v' : V} (h : mergeT (evFK P Γ (cfM P Γ C d) C.lo lv n f args [] []) = .ok c v) (hc : c.getD true = true) (hv : v = v') : SemF P Γ f args [] [] v' [] [] := by
  subst hv
  obtain ⟨u, s, u', h1, h2, h3⟩ := mergeT_run _ c v h hc
  exact ((evFK_sound (cfM_fit hC d).1 (cfM_fit hC d).2 hC.mixed hC.lo h1).drop h2).weaken h3
/-- The same by one way. -/
theorem SemF.of_pathM (hC : CfgOk P Γ C) {lv : List Nat} {n d : Nat} {f : FuncId} {args : List V} {v : V} (ds : List Bool) {cs : List Bool} (h : valO ((evFK P Γ (cfM P Γ C d) C.lo lv n f args [] []).path ds) = some v) (h2 : (evFK P Γ (cfM P Γ C d) C.lo lv n f args [] []).conds ds = cs) (hc : cs = ds) : SemF P Γ f args [] [] v [] [] := by
  unfold valO at h
  cases hp : (evFK P Γ (cfM P Γ C d) C.lo lv n f args [] []).path ds with
  | none => rw [hp] at h; cases h
  | some p =>
    rw [hp] at h
    have hr := Tr.run_path _ ds p hp (h2.trans hc)
    exact (evFK_sound (cfM_fit hC d).1 (cfM_fit hC d).2 hC.mixed hC.lo (v := p.1) (x := p.2) hr).drop h
theorem LOrcOk.at (hC : LOrcOk P Γ C.lo) {f : FuncId} {fn : Func} {root : Code} (hf : P.funcs[f]? = some fn) (hb : fn.body = some root) : ∀ i e, C.lo f i = some e → ∀ b, (loops root)[i]? = some b → ∀ kh kt vs ob nm t ex s, e.go kh kt vs ob nm = some t → t.run = some (ex, s) → SemL P Γ b (St.of e.n e.lv vs ob nm kh kt) ex.to s := fun i e he b hb' => by
  obtain ⟨fn', c', b', g1, g2, g3, g4⟩ := hC f i e he
  rw [hf] at g1
  obtain rfl := Option.some.inj g1
  rw [hb] at g2
  obtain rfl := Option.some.inj g2
  rw [hb'] at g3
  obtain rfl := Option.some.inj g3
  exact g4
/-- A piece of a function's code; names follow from what is kept. -/
theorem SemC.of_evM (hC : CfgOk P Γ C) {f : FuncId} {fn : Func} {root : Code} (hf : P.funcs[f]? = some fn) (hb : fn.body = some root) {lv : List Nat} {lv' : Ex → List Nat} {n d i : Nat} {c : Code} (hl : Lies root i c) {x : St} {e : Ex} {vs : List V} {ob : Ob} {nm : Nm} {m kh kt : Nat}
    (h : (outa lv' (evCK P Γ (cfM P Γ C d) (C.lo f) lv n i c x)).run = some (e, vs, ob, nm, m, kh, kt)) : SemC P Γ c x e.to (St.of m (lv' e) vs ob nm kh kt) := by
  obtain ⟨s, po, pn, h1, h2, h3, rfl, rfl⟩ := outa_run h
  exact ((evCK_sound' (cfM_fit hC d).1 (cfM_fit hC d).2 hC.mixed (hC.lo.at hf hb) n i c x e s hl h1).1).ren h3 h2
/-- The same, no name changed. -/
theorem SemC.of_evS (hC : CfgOk P Γ C) {f : FuncId} {fn : Func} {root : Code} (hf : P.funcs[f]? = some fn) (hb : fn.body = some root) {lv : List Nat} {lv' : Ex → List Nat} {n d i : Nat} {c : Code} (hl : Lies root i c) {x : St} {e : Ex} {vs : List V} {ob : Ob} {nm : Nm} {m kh kt : Nat}
    (h : (outs lv' (evCK P Γ (cfM P Γ C d) (C.lo f) lv n i c x)).run = some (e, vs, ob, nm, m, kh, kt)) : SemC P Γ c x e.to (St.of m (lv' e) vs ob nm kh kt) := by
  obtain ⟨s, h1, h2⟩ := outs_run (Γ := Γ) h
  exact ((evCK_sound' (cfM_fit hC d).1 (cfM_fit hC d).2 hC.mixed (hC.lo.at hf hb) n i c x e s hl h1).1).post h2
/-- A contract for plain arguments, as an entry of the table. -/
theorem OrcOk.plain {orc : Orc} (h : OrcOk P Γ orc) (f0 : FuncId) (ts : List Ty) (g : Ty.dens ts → Option Bool × V) (fn : Func) (hf : P.funcs[f0]? = some fn) (hb : fn.body.isSome = true) (hn : (fn.name == "runtime.NumGoroutine") = false)
    (hg : ∀ x : Ty.dens ts, (g x).1.getD true = true → SemF P Γ f0 (Ty.vals ts x) [] [] (g x).2 [] []) : OrcOk P Γ (fun f args => if f = f0 then (Ty.ofVs ts args).map g else orc f args) := by
  intro f args c v hv hc
  simp only at hv
  split at hv
  · rename_i he
    subst he
    rw [Option.map_eq_some_iff] at hv
    obtain ⟨x, hx, hgx⟩ := hv
    have hs := hg x (by rw [hgx]; exact hc)
    rw [hgx] at hs
    exact ⟨hs.args (fun G cv hr => Ty.ofVs_ok hx hr), fn, hf, hb, hn⟩
  · exact h f args c v hv hc
end
end Go.Proofs.Ytnjjkobijjdnbaa

