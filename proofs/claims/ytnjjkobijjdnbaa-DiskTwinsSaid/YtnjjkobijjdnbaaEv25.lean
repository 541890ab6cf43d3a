/- Calls with memory: the callee is reckoned in the caller's memory; what it made and is still asked for is laid behind. -/
import Derived.Test.YtnjjkobijjdnbaaEv24b
set_option linter.unusedVariables false
set_option linter.unusedSimpArgs false
namespace Go.Proofs.Ytnjjkobijjdnbaa
open Go

def isRange : Nat → Nat → List Nat → Bool
  | _, 0, _ => true
  | s, k + 1, x :: xs => x == s && isRange (s + 1) k xs
  | _, _ + 1, [] => false
theorem isRange_get : ∀ {k s : Nat} {l : List Nat}, isRange s k l = true → ∀ i, i < k → l[i]? = some (s + i)
  | 0, s, l, h, i, hi => by omega
  | k + 1, s, [], h, i, hi => by simp [isRange] at h
  | k + 1, s, x :: xs, h, i, hi => by
    simp only [isRange, Bool.and_eq_true, beq_iff_eq] at h
    cases i with
    | zero => simp [h.1]
    | succ i =>
      have := isRange_get h.2 i (by omega)
      simp only [List.getElem?_cons_succ, this]
      congr 1
      omega
section
variable {P : Program} {Γ : Nat → Option V} {cf : CallF}
theorem SemF.ren {f : FuncId} {args : List V} {ob ob1 ob' : Ob} {nm nm1 nm' : Nm} {v v' : V} (h : SemF P Γ f args ob nm v ob1 nm1) {po pn : List Nat} (hv : v.cl (renP po pn) = some v') (ho : renOb po pn ob1 po = some ob') (hn : renNm po pn nm1 pn = some nm')
    (d1 : nodupB po = true) (d2 : nodupB pn = true) (k1 : isRange 0 ob.length po = true) (k2 : isRange 0 nm.length pn = true) : SemF P Γ f args ob nm v' ob' nm' := by
  intro G w cargs hw hr
  refine (h G w cargs hw hr).mono ?_
  rintro e w' ⟨cv, G1, rfl, hle, hv1, hw1⟩
  refine ⟨cv, G1.ren po pn, rfl, ⟨⟨hle.m, fun o b hh => ?_, fun n x hh => ?_, hle.d⟩, hle.kh, hle.kt, hle.w0, hle.m0, hle.kd⟩, VRel.cl (G := G1) (G' := G1.ren po pn) (renP_cell po pn) (fun _ _ _ h => h) (renP_rel po pn) hv1 hv, hw1.ren ho hn d1 d2⟩
  · have := isRange_get k1 o (hw.hlt o b hh).1
    show (po[o]?).bind G1.H = some b
    rw [this, Nat.zero_add]
    exact hle.h o b hh
  · have := isRange_get k2 n (hw.tlt n x hh)
    show (pn[n]?).bind G1.T = some x
    rw [this, Nat.zero_add]
    exact hle.t n x hh
/-- Objects of which less is said. -/
theorem WRel.weakOb {G : Gh} {ob ob' : Ob} {nm : Nm} {w : World} (h : WRel Γ G ob nm w) (hl : ob'.length = ob.length) (hs : ∀ (o : Nat) (cs' : List V), ob'[o]? = some (some cs') → ∃ cs, ob[o]? = some (some cs) ∧ cs'.length = cs.length ∧ ∀ (j : Nat) (x' : V), cs'[j]? = some x' → ∃ x, cs[j]? = some x ∧ ∀ (G : Gh) (cv : Value), VRel G x cv → VRel G x' cv)
    (hn : ∀ o : Nat, ob'[o]? = some none → ob[o]? = some none) : WRel Γ G ob' nm w :=
  { h with
    hob := fun o cs' b h1 h2 => by
      obtain ⟨cs, e1, e2, e3⟩ := hs o cs' h1
      obtain ⟨a1, ⟨c, E, fr, q1, q2, q3, q4⟩, a3⟩ := h.hob o cs b e1 h2
      refine ⟨a1, ⟨c, E, fr, q1, q2, by omega, ?_⟩, a3⟩
      rw [e2]
      refine ⟨by rw [q4.1, e2], fun j x' cv g1 g2 => ?_⟩
      obtain ⟨x, gx, hx⟩ := e3 j x' g1
      exact hx G cv (q4.2 j x cv gx g2)
    hlt := fun o b h1 => by rw [hl]; exact h.hlt o b h1
    habs := fun o h1 => h.habs o (hn o h1) }
/-- A buffer of which less is said. -/
structure BCw (c c' : BC) : Prop where
  sz : c'.sz = c.sz
  len : c'.len = c.len
  el : (∀ v ∈ c.els, v.cells.length = c.sz) → ∀ v ∈ c'.els, v.cells.length = c'.sz
  fl : (flat c'.els).length = (flat c.els).length
  rel : ∀ (G : Gh) (cvs : List Value), Rels G (flat c.els) cvs → Rels G (flat c'.els) cvs
theorem BCw.refl (c : BC) : BCw c c := ⟨rfl, rfl, fun h => h, rfl, fun _ _ h => h⟩
/-- Buffers of which less is said. -/
theorem WRel.weakNm {G : Gh} {ob : Ob} {nm nm' : Nm} {w : World} (h : WRel Γ G ob nm w) (hl : nm'.length = nm.length) (hs : ∀ (n : Nat) (c' : BC), nm'[n]? = some (some (.live c')) → ∃ c, nm[n]? = some (some (.live c)) ∧ BCw c c') (hn : ∀ n : Nat, nm'[n]? = some none → nm[n]? = some none) : WRel Γ G ob nm' w :=
  { h with
    hnm := fun n c' x h1 h2 => by
      obtain ⟨c, h3, k⟩ := hs n c' h1
      have B := h.hnm n c x h3 h2
      obtain ⟨cvs, E, fr, e1, e2, e3, e4⟩ := B.row
      exact ⟨B.old, ⟨cvs, E, fr, e1, e2, e3, by rw [k.fl]; exact k.rel G _ e4⟩, B.sz.trans k.sz.symm, k.el B.el, k.len.trans B.len, B.cap, B.free, B.obj⟩
    hno := fun n c' h1 h2 => by obtain ⟨c, h3, k⟩ := hs n c' h1; exact k.len.trans (h.hno n c h3 h2)
    nmd := fun n n' c c' x x' hne h1 h2 h3 h4 => by
      obtain ⟨d, g1, _⟩ := hs n c h1
      obtain ⟨d', g2, _⟩ := hs n' c' h2
      exact h.nmd n n' d d' x x' hne g1 g2 h3 h4
    tabs := fun n h1 => h.tabs n (hn n h1)
    tlt := fun n x h1 => by rw [hl]; exact h.tlt n x h1 }
theorem mergeL_append (b : Bool) : ∀ {xs ys zs us vs ws : List V}, mergeL b xs ys = some zs → mergeL b us vs = some ws → mergeL b (xs ++ us) (ys ++ vs) = some (zs ++ ws)
  | [], ys, zs, us, vs, ws, h, k => by
    cases ys with
    | nil => simp [mergeL] at h; subst h; exact k
    | cons y ys => simp [mergeL] at h
  | x :: xs, ys, zs, us, vs, ws, h, k => by
    cases ys with
    | nil => simp [mergeL] at h
    | cons y ys =>
      simp only [mergeL] at h
      split at h
      · rename_i z zs' h1 h2
        cases h
        have := mergeL_append b h2 k
        simp only [List.cons_append, mergeL, h1, this]
      · cases h
theorem mergeL_flat (b : Bool) : ∀ {xs ys zs : List V}, mergeL b xs ys = some zs → mergeL b (flat xs) (flat ys) = some (flat zs)
  | [], ys, zs, h => by
    cases ys with
    | nil => simp [mergeL] at h; subst h; rfl
    | cons y ys => simp [mergeL] at h
  | x :: xs, ys, zs, h => by
    cases ys with
    | nil => simp [mergeL] at h
    | cons y ys =>
      simp only [mergeL] at h
      split at h
      · rename_i z zs' h1 h2
        cases h
        rw [flat_cons, flat_cons, flat_cons]
        exact mergeL_append b (mergeV_cells b h1) (mergeL_flat b h2)
      · cases h
/-! ### The ways' ends in one -/
def mergeO (b : Bool) : Ob → Ob → Option Ob
  | [], [] => some []
  | x :: xs, y :: ys =>
    match mergeO b xs ys with
    | none => none
    | some r =>
      match x, y with
      | none, none => some (none :: r)
      | some a, some c => match mergeL b a c with | some z => some (some z :: r) | none => none
      | _, _ => none
  | _, _ => none
/-- What type a value may be of. -/
def V.tyG : V → Option Ty
  | .b _ => some .bool
  | .sb _ => some .bool
  | .i k _ => some (.int k)
  | .si k _ => some (.int k)
  | .s _ => some .str
  | .ss _ => some .str
  | .slst _ e _ => some (.slice e)
  | .agg cs => match optMap (fun (v : V) => match v with | .b _ => some Ty.bool | .sb _ => some Ty.bool | .i k _ => some (Ty.int k) | .si k _ => some (Ty.int k) | .s _ => some Ty.str | .ss _ => some Ty.str | .slst _ e _ => some (Ty.slice e) | _ => none) cs with | some ts => some (.agg ts) | none => none
  | _ => none
def BC.tyG : BC → Option Ty
  | .arr ty _ => some ty
  | .cs _ (v :: _) => v.tyG
  | .cs _ [] => none
/-- As plain data. -/
def BC.as (ty : Ty) : BC → Option (List ty.den)
  | .arr _ l => listAs ty l
  | .cs sz l => if sz = ty.size then optMap (whole ty.ofC) l else none
/-- Both as plain data. -/
def mergeArr (b : Bool) (c d : BC) : Bf :=
  match (c.tyG).or d.tyG with
  | some ty => match c.as ty, d.as ty with | some l, some l' => .live (.arr ty (bif b then l else l')) | _, _ => .dead
  | none => .dead
def mergeBf (b : Bool) : Bf → Bf → Bf
  | .live (.cs sz l), .live (.cs sz' l') => if sz = sz' then (match mergeL b l l' with | some z => .live (.cs sz z) | none => mergeArr b (.cs sz l) (.cs sz' l')) else .dead
  | .live c, .live d => mergeArr b c d
  | _, _ => .dead
def mergeN (b : Bool) : Nm → Nm → Option Nm
  | [], [] => some []
  | x :: xs, y :: ys =>
    match mergeN b xs ys with
    | none => none
    | some r =>
      match x, y with
      | none, none => some (none :: r)
      | some a, some c => some (some (mergeBf b a c) :: r)
      | _, _ => none
  | _, _ => none
theorem mergeL_get (b : Bool) : ∀ {xs ys zs : List V}, mergeL b xs ys = some zs → zs.length = (bif b then xs else ys).length ∧ ∀ (j : Nat) (z : V), zs[j]? = some z → ∃ x, (bif b then xs else ys)[j]? = some x ∧ ∀ (G : Gh) (cv : Value), VRel G x cv → VRel G z cv
  | [], ws, zs, h => by
    cases ws with
    | nil => simp [mergeL] at h; subst h; cases b <;> exact ⟨rfl, fun j z hj => by simp at hj⟩
    | cons w ws => simp [mergeL] at h
  | x :: xs, ws, zs, h => by
    cases ws with
    | nil => simp [mergeL] at h
    | cons w ws =>
      simp only [mergeL] at h
      split at h
      · rename_i z zs' h1 h2
        cases h
        obtain ⟨g1, g2⟩ := mergeL_get b h2
        have hm := mergeV_ok b x w z h1
        refine ⟨by cases b <;> simpa using g1, fun j u hj => ?_⟩
        cases j with
        | zero =>
          simp at hj
          subst hj
          cases b
          · exact ⟨w, rfl, fun G cv hr => hm G cv hr⟩
          · exact ⟨x, rfl, fun G cv hr => hm G cv hr⟩
        | succ j =>
          obtain ⟨y, hy, hr⟩ := g2 j u (by simpa using hj)
          cases b
          · exact ⟨y, by simpa using hy, hr⟩
          · exact ⟨y, by simpa using hy, hr⟩
      · cases h
theorem mergeO_get (b : Bool) : ∀ {xs ys zs : Ob}, mergeO b xs ys = some zs → zs.length = (bif b then xs else ys).length ∧
    (∀ (o : Nat) (cs' : List V), zs[o]? = some (some cs') → ∃ cs, (bif b then xs else ys)[o]? = some (some cs) ∧ cs'.length = cs.length ∧ ∀ (j : Nat) (x' : V), cs'[j]? = some x' → ∃ x, cs[j]? = some x ∧ ∀ (G : Gh) (cv : Value), VRel G x cv → VRel G x' cv) ∧
    ∀ o : Nat, zs[o]? = some none → (bif b then xs else ys)[o]? = some none
  | [], [], zs, h => by simp [mergeO] at h; subst h; cases b <;> exact ⟨rfl, fun o cs h => by simp at h, fun o h => by simp at h⟩
  | [], y :: ys, zs, h => by simp [mergeO] at h
  | x :: xs, [], zs, h => by simp [mergeO] at h
  | x :: xs, y :: ys, zs, h => by
    simp only [mergeO] at h
    cases hr : mergeO b xs ys with
    | none => rw [hr] at h; cases h
    | some r =>
      rw [hr] at h
      simp only [] at h
      obtain ⟨g1, g2, g3⟩ := mergeO_get b hr
      have e : (bif b then x :: xs else y :: ys) = (bif b then x else y) :: (bif b then xs else ys) := by cases b <;> rfl
      rw [e]
      split at h
      · cases h
        refine ⟨by simp [g1], fun o cs' ho => ?_, fun o ho => ?_⟩
        · cases o with
          | zero => simp at ho
          | succ o => simpa using g2 o cs' (by simpa using ho)
        · cases o with
          | zero => cases b <;> rfl
          | succ o => simpa using g3 o (by simpa using ho)
      · rename_i a c
        split at h
        · rename_i z hz
          cases h
          obtain ⟨l1, l2⟩ := mergeL_get b hz
          refine ⟨by simp [g1], fun o cs' ho => ?_, fun o ho => ?_⟩
          · cases o with
            | zero =>
              simp at ho
              subst ho
              exact ⟨bif b then a else c, by cases b <;> rfl, l1, l2⟩
            | succ o => simpa using g2 o cs' (by simpa using ho)
          · cases o with
            | zero => simp at ho
            | succ o => simpa using g3 o (by simpa using ho)
        · cases h
      · cases h
theorem BC.as_w {ty : Ty} {c : BC} {l : List ty.den} (h : c.as ty = some l) : BCw c (.arr ty l) := by
  cases c with
  | arr ty' l' =>
    simp only [BC.as, listAs] at h
    split at h
    · rename_i he
      obtain rfl := Ty.eqb_eq he
      cases h
      exact .refl _
    · cases h
  | cs sz xs =>
    simp only [BC.as] at h
    split at h
    · rename_i hs
      subst hs
      obtain ⟨h1, h2, h3⟩ := optMap_ok (Ty.ofC_ok ty) h
      refine ⟨rfl, h1, fun _ v hv => ?_, ?_, fun G cvs hr => h3 G cvs hr⟩
      · obtain ⟨x, _, rfl⟩ := List.mem_map.1 hv
        exact Ty.val_len ty x
      · show (flat (l.map ty.val)).length = (flat xs).length
        rw [flat_length (sz := ty.size) (fun v hv => by obtain ⟨x, _, rfl⟩ := List.mem_map.1 hv; exact Ty.val_len ty x), flat_length h2, List.length_map, h1]
    · cases h
theorem mergeArr_live {b : Bool} {c d e : BC} (h : mergeArr b c d = .live e) : ∃ d0, (bif b then Bf.live c else Bf.live d) = .live d0 ∧ BCw d0 e := by
  unfold mergeArr at h
  split at h
  · split at h
    · rename_i l l' h1 h2
      cases h
      cases b
      · exact ⟨d, rfl, BC.as_w h2⟩
      · exact ⟨c, rfl, BC.as_w h1⟩
    · cases h
  · cases h
theorem mergeBf_live {b : Bool} {x y : Bf} {c : BC} (h : mergeBf b x y = .live c) : ∃ d, (bif b then x else y) = .live d ∧ BCw d c := by
  unfold mergeBf at h
  split at h
  · rename_i sz l sz' l'
    split at h
    · rename_i hs
      subst hs
      split at h
      · rename_i z hz
        cases h
        obtain ⟨g1, g0, g2⟩ := mergeL_get0 b hz
        have hfl := mergeL_flat b hz
        obtain ⟨f1, f2⟩ := mergeL_get b hfl
        refine ⟨.cs sz (bif b then l else l'), by cases b <;> rfl, rfl, g1, fun hel v hv => ?_, ?_, fun G cvs hr => ?_⟩
        · obtain ⟨j, hj⟩ := List.getElem?_of_mem hv
          obtain ⟨p, q, e1, e2, e3⟩ := g2 j v hj
          obtain ⟨k1, k2, _⟩ := mergeL_get0 b (mergeV_cells b e3)
          have : (bif b then p else q) ∈ (bif b then l else l') := by
            cases b
            · exact List.mem_of_getElem? e2
            · exact List.mem_of_getElem? e1
          have hc := hel _ this
          have : (bif b then p.cells else q.cells).length = (bif b then p else q).cells.length := by cases b <;> rfl
          show v.cells.length = sz
          rw [k1, this]
          exact hc
        · show (flat z).length = (flat (bif b then l else l')).length
          rw [f1]
          cases b <;> rfl
        · have e : flat (BC.cs sz (bif b then l else l')).els = (bif b then flat l else flat l') := by cases b <;> rfl
          rw [e] at hr
          refine ⟨by show cvs.length = (flat z).length; rw [f1]; exact hr.1, fun j v cv h1 h2 => ?_⟩
          obtain ⟨x, e1, e2⟩ := f2 j v h1
          exact e2 G cv (hr.2 j x cv e1 h2)
      · exact mergeArr_live h
    · cases h
  · exact mergeArr_live h
  · cases h
theorem mergeN_get (b : Bool) : ∀ {xs ys zs : Nm}, mergeN b xs ys = some zs → zs.length = (bif b then xs else ys).length ∧ (∀ (n : Nat) (c : BC), zs[n]? = some (some (.live c)) → ∃ d, (bif b then xs else ys)[n]? = some (some (.live d)) ∧ BCw d c) ∧ ∀ n : Nat, zs[n]? = some none → (bif b then xs else ys)[n]? = some none
  | [], [], zs, h => by simp [mergeN] at h; subst h; cases b <;> exact ⟨rfl, fun o cs h => by simp at h, fun o h => by simp at h⟩
  | [], y :: ys, zs, h => by simp [mergeN] at h
  | x :: xs, [], zs, h => by simp [mergeN] at h
  | x :: xs, y :: ys, zs, h => by
    simp only [mergeN] at h
    cases hr : mergeN b xs ys with
    | none => rw [hr] at h; cases h
    | some r =>
      rw [hr] at h
      simp only [] at h
      obtain ⟨g1, g2, g3⟩ := mergeN_get b hr
      have e : (bif b then x :: xs else y :: ys) = (bif b then x else y) :: (bif b then xs else ys) := by cases b <;> rfl
      rw [e]
      split at h
      · cases h
        refine ⟨by simp [g1], fun o c ho => ?_, fun o ho => ?_⟩
        · cases o with
          | zero => simp at ho
          | succ o => simpa using g2 o c (by simpa using ho)
        · cases o with
          | zero => cases b <;> rfl
          | succ o => simpa using g3 o (by simpa using ho)
      · rename_i a c
        cases h
        refine ⟨by simp [g1], fun o d ho => ?_, fun o ho => ?_⟩
        · cases o with
          | zero =>
            simp at ho
            obtain ⟨d0, this, hw⟩ := mergeBf_live ho
            refine ⟨d0, ?_, hw⟩
            cases b
            · simp only [cond_false] at this ⊢; rw [this]; rfl
            · simp only [cond_true] at this ⊢; rw [this]; rfl
          | succ o => simpa using g2 o d (by simpa using ho)
        · cases o with
          | zero => simp at ho
          | succ o => simpa using g3 o (by simpa using ho)
      · cases h
inductive MR where
  | bad | dead | ok (c : Option Bool) (v : V) (ob : Ob) (nm : Nm)
def MR.mg (b : Bool) : MR → MR → MR
  | .bad, _ => .bad
  | _, .bad => .bad
  | .dead, .dead => .dead
  | .ok c v ob nm, .dead => .ok (some (b && c.getD true)) v ob nm
  | .dead, .ok c v ob nm => .ok (some (!b && c.getD true)) v ob nm
  | .ok c v ob nm, .ok c' v' ob' nm' =>
    match mergeV b v v', mergeO b ob ob', mergeN b nm nm' with
    | some z, some o, some n => .ok (match c, c' with | none, none => none | _, _ => some (bif b then c.getD true else c'.getD true)) z o n
    | _, _, _ => .bad
/-- One way's end under the caller's names. -/
def leafM (k kt : Nat) (v : V) (s : St) : MR :=
  match s.names 3 (addNew (List.range k) v.refs) (addNew (List.range kt) v.nrefs) with
  | (po, pn) =>
    match nodupB po && nodupB pn && isRange 0 k po && isRange 0 kt pn with
    | false => .bad
    | true =>
      match v.cl (renP po pn), renOb po pn s.ob po, renNm po pn s.nm pn with
      | some v', some ob', some nm' => .ok none v' ob' nm'
      | _, _, _ => .bad
def mergeM (k kt : Nat) : Tr (V × St) → MR
  | .leaf none => .dead
  | .leaf (some p) => leafM k kt p.1 p.2
  | .br b x y => (mergeM k kt x).mg b (mergeM k kt y)
theorem mergeM_ok {f : FuncId} {args : List V} {ob : Ob} {nm : Nm} : ∀ (t : Tr (V × St)), (∀ v s, t.run = some (v, s) → SemF P Γ f args ob nm v s.ob s.nm) → ∀ (c : Option Bool) (v : V) (ob' : Ob) (nm' : Nm), mergeM ob.length nm.length t = .ok c v ob' nm' → c.getD true = true → SemF P Γ f args ob nm v ob' nm'
  | .leaf none, _, c, v, ob', nm', h, _ => by cases h
  | .leaf (some p), hs, c, v, ob', nm', h, _ => by
    simp only [mergeM, leafM] at h
    split at h
    · cases h
    · rename_i hc
      simp only [Bool.and_eq_true] at hc
      split at h
      · rename_i v1 ob1 nm1 e1 e2 e3
        cases h
        exact (hs p.1 p.2 rfl).ren e1 e2 e3 hc.1.1.1 hc.1.1.2 hc.1.2 hc.2
      · cases h
  | .br b x y, hs, c, v, ob', nm', h, hc => by
    simp only [mergeM] at h
    have hx : b = true → ∀ v s, x.run = some (v, s) → SemF P Γ f args ob nm v s.ob s.nm := fun hb v s hr => hs v s (by subst hb; exact hr)
    have hy : b = false → ∀ v s, y.run = some (v, s) → SemF P Γ f args ob nm v s.ob s.nm := fun hb v s hr => hs v s (by subst hb; exact hr)
    cases hmx : mergeM ob.length nm.length x with
    | bad => rw [hmx] at h; cases h
    | dead =>
      cases hmy : mergeM ob.length nm.length y with
      | bad => rw [hmx, hmy] at h; cases h
      | dead => rw [hmx, hmy] at h; cases h
      | ok d u o n =>
        rw [hmx, hmy] at h
        cases h
        have hc' : b = false ∧ d.getD true = true := by simpa using hc
        exact mergeM_ok y (hy hc'.1) d _ _ _ hmy hc'.2
    | ok d u o n =>
      cases hmy : mergeM ob.length nm.length y with
      | bad => rw [hmx, hmy] at h; cases h
      | dead =>
        rw [hmx, hmy] at h
        cases h
        have hc' : b = true ∧ d.getD true = true := by simpa using hc
        exact mergeM_ok x (hx hc'.1) d _ _ _ hmx hc'.2
      | ok d2 u2 o2 n2 =>
        rw [hmx, hmy] at h
        simp only [MR.mg] at h
        split at h
        · rename_i z oz nz e1 e2 e3
          cases h
          have hcc : (bif b then d.getD true else d2.getD true) = true := by
            cases d <;> cases d2 <;> cases b <;> first | rfl | simpa using hc
          obtain ⟨o1, o2', o3⟩ := mergeO_get b e2
          obtain ⟨n1, n2', n3⟩ := mergeN_get b e3
          have hm := mergeV_ok b u u2 _ e1
          have base : SemF P Γ f args ob nm (bif b then u else u2) (bif b then o else o2) (bif b then n else n2) := by
            cases b
            · exact mergeM_ok y (hy rfl) d2 _ _ _ hmy hcc
            · exact mergeM_ok x (hx rfl) d _ _ _ hmx hcc
          intro G w cargs hw hr
          refine (base G w cargs hw hr).mono ?_
          rintro e w' ⟨cv, G1, rfl, hle, hv, hw1⟩
          exact ⟨cv, G1, rfl, hle, hm G1 cv hv, (hw1.weakOb o1 o2' o3).weakNm n1 n2' n3⟩
        · cases h
end
end Go.Proofs.Ytnjjkobijjdnbaa
