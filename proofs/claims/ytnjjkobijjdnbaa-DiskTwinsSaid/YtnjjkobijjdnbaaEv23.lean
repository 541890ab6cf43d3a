/- Objects and buffers that nothing asks for any more are forgotten; the others get new names. -/
import Derived.Test.YtnjjkobijjdnbaaEv22
set_option linter.unusedVariables false
set_option linter.unusedSimpArgs false
namespace Go.Proofs.Ytnjjkobijjdnbaa
open Go

def ixOf : List Nat → Nat → Option Nat
  | [], _ => none
  | x :: xs, o => if x = o then some 0 else match ixOf xs o with | some i => some (i + 1) | none => none
theorem ixOf_get : ∀ {l : List Nat} {o i : Nat}, ixOf l o = some i → l[i]? = some o
  | [], o, i, h => by cases h
  | x :: xs, o, i, h => by
    simp only [ixOf] at h
    split at h
    · rename_i e; cases h; simp [e]
    · split at h
      · rename_i k hk; cases h; simpa using ixOf_get hk
      · cases h
/-- New names: po, pn: the old ones, in the new order. -/
def renP (po pn : List Nat) : V → Option V
  | .ptr o off => match ixOf po o with | some i => some (.ptr i off) | none => none
  | .sl o off n => match ixOf po o with | some i => some (.sl i off n) | none => none
  | .bs sy n off len => match ixOf pn n with | some i => some (.bs sy i off len) | none => none
  | .bp n j off => match ixOf pn n with | some i => some (.bp i j off) | none => none
  | _ => none
theorem renP_cell (po pn : List Nat) : ∀ u q, renP po pn u = some q → q.cells = [q] := by
  intro u q h
  unfold renP at h
  split at h <;> (try split at h) <;> cases h <;> rfl
def Gh.ren (G : Gh) (po pn : List Nat) : Gh := { G with H := fun i => (po[i]?).bind G.H, T := fun i => (pn[i]?).bind G.T }
theorem renP_rel {G : Gh} (po pn : List Nat) (u q : V) (cu : Value) (hu : VRel G u cu) (h : renP po pn u = some q) : VRel (G.ren po pn) q cu := by
  unfold renP at h
  split at h
  · split at h
    · rename_i i hi
      cases h
      cases hu with
      | ptr hh => exact .ptr (by simp [Gh.ren, ixOf_get hi, hh])
    · cases h
  · split at h
    · rename_i i hi
      cases h
      cases hu with
      | sl hh hc => exact .sl (by simp [Gh.ren, ixOf_get hi, hh]) hc
    · cases h
  · split at h
    · rename_i i hi
      cases h
      cases hu with
      | bs0 => exact .bs0 _ _ _
      | bs1 => exact .bs1 _ _ _ _ _
      | bs hh hc => exact .bs (by simp [Gh.ren, ixOf_get hi, hh]) hc
    · cases h
  · split at h
    · rename_i i hi
      cases h
      cases hu with
      | bp hh => exact .bp (by simp [Gh.ren, ixOf_get hi, hh])
    · cases h
  · cases h
def renB (po pn : List Nat) : Bf → Option Bf
  | .dead => some .dead
  | .live (.arr ty l) => some (.live (.arr ty l))
  | .live (.cs sz l) => match V.clL (renP po pn) l with | some l' => some (.live (.cs sz l')) | none => none
def renOb (po pn : List Nat) (ob : Ob) : List Nat → Option Ob
  | [] => some []
  | o :: r =>
    match renOb po pn ob r with
    | none => none
    | some r' =>
      match ob[o]? with
      | some (some cs) => match V.clL (renP po pn) cs with | some cs' => some (some cs' :: r') | none => none
      | _ => some (none :: r')
def renNm (po pn : List Nat) (nm : Nm) : List Nat → Option Nm
  | [] => some []
  | n :: r =>
    match renNm po pn nm r with
    | none => none
    | some r' =>
      match nm[n]? with
      | some (some b) => match renB po pn b with | some b' => some (some b' :: r') | none => none
      | _ => some (none :: r')
theorem renOb_get {po pn : List Nat} {ob : Ob} : ∀ {l : List Nat} {ob' : Ob}, renOb po pn ob l = some ob' → ob'.length = l.length ∧ ∀ (i : Nat) (c : Option (List V)), ob'[i]? = some c → ∃ o, l[i]? = some o ∧ ((∃ cs cs', ob[o]? = some (some cs) ∧ V.clL (renP po pn) cs = some cs' ∧ c = some cs') ∨ ((∀ cs, ob[o]? ≠ some (some cs)) ∧ c = none))
  | [], ob', h => by cases h; exact ⟨rfl, fun i c hi => by simp at hi⟩
  | o :: r, ob', h => by
    simp only [renOb] at h
    cases hr : renOb po pn ob r with
    | none => rw [hr] at h; cases h
    | some r' =>
      rw [hr] at h
      simp only [] at h
      obtain ⟨h1, h2⟩ := renOb_get hr
      split at h
      · rename_i cs hcs
        split at h
        · rename_i cs' hcl
          cases h
          refine ⟨by simp [h1], fun i c hi => ?_⟩
          cases i with
          | zero => simp at hi; exact ⟨o, rfl, .inl ⟨cs, cs', hcs, hcl, hi.symm⟩⟩
          | succ i => simp at hi; simpa using h2 i c hi
        · cases h
      · rename_i hno
        cases h
        refine ⟨by simp [h1], fun i c hi => ?_⟩
        cases i with
        | zero => simp at hi; exact ⟨o, rfl, .inr ⟨fun cs hc => hno cs hc, hi.symm⟩⟩
        | succ i => simp at hi; simpa using h2 i c hi
theorem renNm_get {po pn : List Nat} {nm : Nm} : ∀ {l : List Nat} {nm' : Nm}, renNm po pn nm l = some nm' → nm'.length = l.length ∧ ∀ (i : Nat) (c : Option Bf), nm'[i]? = some c → ∃ n, l[i]? = some n ∧ ((∃ b b', nm[n]? = some (some b) ∧ renB po pn b = some b' ∧ c = some b') ∨ ((∀ b, nm[n]? ≠ some (some b)) ∧ c = none))
  | [], nm', h => by cases h; exact ⟨rfl, fun i c hi => by simp at hi⟩
  | n :: r, nm', h => by
    simp only [renNm] at h
    cases hr : renNm po pn nm r with
    | none => rw [hr] at h; cases h
    | some r' =>
      rw [hr] at h
      simp only [] at h
      obtain ⟨h1, h2⟩ := renNm_get hr
      split at h
      · rename_i b hb
        split at h
        · rename_i b' hcl
          cases h
          refine ⟨by simp [h1], fun i c hi => ?_⟩
          cases i with
          | zero => simp at hi; exact ⟨n, rfl, .inl ⟨b, b', hb, hcl, hi.symm⟩⟩
          | succ i => simp at hi; simpa using h2 i c hi
        · cases h
      · rename_i hno
        cases h
        refine ⟨by simp [h1], fun i c hi => ?_⟩
        cases i with
        | zero => simp at hi; exact ⟨n, rfl, .inr ⟨fun cs hc => hno cs hc, hi.symm⟩⟩
        | succ i => simp at hi; simpa using h2 i c hi
def nodupB : List Nat → Bool
  | [] => true
  | x :: xs => !xs.contains x && nodupB xs
theorem nodupB_get : ∀ {l : List Nat}, nodupB l = true → ∀ {i j x : Nat}, l[i]? = some x → l[j]? = some x → i = j
  | [], _, i, j, x, h, _ => by simp at h
  | y :: l, h, i, j, x, hi, hj => by
    simp only [nodupB, Bool.and_eq_true, Bool.not_eq_true', List.contains_eq_mem, decide_eq_false_iff_not] at h
    cases i with
    | zero =>
      cases j with
      | zero => rfl
      | succ j => simp at hi hj; subst hi; exact absurd (List.mem_of_getElem? hj) h.1
    | succ i =>
      cases j with
      | zero => simp at hi hj; subst hj; exact absurd (List.mem_of_getElem? hi) h.1
      | succ j => simp at hi hj; rw [nodupB_get h.2 hi hj]
section
variable {P : Program} {Γ : Nat → Option V} {cf : CallF}
theorem bind_get {α β : Type} {l : List α} {i : Nat} {f : α → Option β} {b : β} (h : (l[i]?).bind f = some b) : ∃ a, l[i]? = some a ∧ f a = some b := by
  cases hl : l[i]? with
  | none => rw [hl] at h; cases h
  | some a => rw [hl] at h; exact ⟨a, rfl, h⟩
theorem renB_ok {G : Gh} {w : World} {po pn : List Nat} {x : Tail} {b : Bf} {c' : BC} (h : ∀ c, b = .live c → BufOk G w x c) (hr : renB po pn b = some (.live c')) (hobj : ∀ o, (G.ren po pn).H o ≠ some x.b) : BufOk (G.ren po pn) w x c' := by
  cases b with
  | dead => cases hr
  | live c =>
    have B := h c rfl
    obtain ⟨cvs, E, fr, e1, e2, e3, e4⟩ := B.row
    have hM : ∀ b off cv, G.M b off = some cv → (G.ren po pn).M b off = some cv := fun _ _ _ h => h
    cases c with
    | arr ty l =>
      simp only [renB] at hr
      cases hr
      refine ⟨B.old, ⟨cvs, E, fr, e1, e2, e3, ?_⟩, B.sz, B.el, B.len, B.cap, B.free, hobj⟩
      exact Rels.cl (renP_cell po pn) hM (renP_rel po pn) e4 (clnL_flat (renP_cell po pn) (Ty.map_cl _ ty l))
    | cs sz l =>
      simp only [renB] at hr
      split at hr
      · rename_i l' hl
        cases hr
        have hf := clnL_flat (renP_cell po pn) hl
        have hlen := clnL_len hf
        refine ⟨B.old, ⟨cvs, E, fr, e1, e2, e3, ?_⟩, B.sz, fun v hv => ?_, (clnL_len hl).trans B.len, B.cap, B.free, hobj⟩
        · show Rels _ (flat l') ((cvs.toList.drop x.lo).take (flat l').length)
          rw [hlen]
          exact Rels.cl (renP_cell po pn) hM (renP_rel po pn) e4 hf
        · obtain ⟨j, hj⟩ := List.getElem?_of_mem hv
          obtain ⟨z, hz, hcz⟩ := clnL_get hl j v hj
          rw [clnL_len (cln_cells (renP_cell po pn) hcz)]
          exact B.el z (List.mem_of_getElem? hz)
      · cases hr
theorem renB_len {po pn : List Nat} {b : Bf} {c' : BC} (hr : renB po pn b = some (.live c')) : ∃ c, b = .live c ∧ c'.len = c.len := by
  cases b with
  | dead => cases hr
  | live c =>
    cases c with
    | arr ty l => simp only [renB] at hr; cases hr; exact ⟨_, rfl, rfl⟩
    | cs sz l =>
      simp only [renB] at hr
      split at hr
      · rename_i l' hl; cases hr; exact ⟨_, rfl, clnL_len hl⟩
      · cases hr
theorem WRel.ren {G : Gh} {ob : Ob} {nm : Nm} {w : World} (h : WRel Γ G ob nm w) {po pn : List Nat} {ob' : Ob} {nm' : Nm} (h1 : renOb po pn ob po = some ob') (h2 : renNm po pn nm pn = some nm') (d1 : nodupB po = true) (d2 : nodupB pn = true) : WRel Γ (G.ren po pn) ob' nm' w := by
  obtain ⟨l1, g1⟩ := renOb_get h1
  obtain ⟨l2, g2⟩ := renNm_get h2
  have hM : ∀ b off cv, G.M b off = some cv → (G.ren po pn).M b off = some cv := fun _ _ _ h => h
  have hH : ∀ {i b}, (G.ren po pn).H i = some b → ∃ o, po[i]? = some o ∧ G.H o = some b := fun hh => bind_get hh
  have hT : ∀ {i x}, (G.ren po pn).T i = some x → ∃ n, pn[i]? = some n ∧ G.T n = some x := fun hh => bind_get hh
  exact {
    m := h.m
    hob := fun i cs' b q1 q2 => by
      obtain ⟨o, ho, hb⟩ := hH q2
      obtain ⟨o', ho', q⟩ := g1 i _ q1
      obtain rfl := Option.some.inj (ho.symm.trans ho')
      rcases q with ⟨cs, cs2, e1, e2, e3⟩ | ⟨_, e⟩
      · cases e3
        obtain ⟨a1, ⟨c, E, fr, r1, r2, r3, r4⟩, a3⟩ := h.hob o cs b e1 hb
        have hlen := clnL_len e2
        exact ⟨a1, ⟨c, E, fr, r1, r2, by omega, by rw [hlen]; exact Rels.cl (renP_cell po pn) hM (renP_rel po pn) r4 e2⟩, a3⟩
      · cases e
    hlt := fun i b q => by
      obtain ⟨o, ho, hb⟩ := hH q
      exact ⟨by rw [l1]; exact get_lt ho, (h.hlt o b hb).2⟩
    habs := fun i q => by
      obtain ⟨o, ho, r⟩ := g1 i _ q
      rcases r with ⟨_, _, _, _, e⟩ | ⟨e, _⟩
      · cases e
      · show (po[i]?).bind G.H = none
        rw [ho]
        show G.H o = none
        cases hh : G.H o with
        | none => rfl
        | some b =>
          have hl := (h.hlt o b hh).1
          have hs : ob[o]? = some (ob[o]'hl) := List.getElem?_eq_getElem hl
          cases hc : ob[o]'hl with
          | none => rw [hc] at hs; rw [h.habs o hs] at hh; cases hh
          | some cs => rw [hc] at hs; exact absurd hs (e cs)
    inj := fun i j b q1 q2 => by
      obtain ⟨o, ho, hb⟩ := hH q1
      obtain ⟨o', ho', hb'⟩ := hH q2
      obtain rfl := h.inj o o' b hb hb'
      exact nodupB_get d1 ho ho'
    hnm := fun i c' x q1 q2 => by
      obtain ⟨n, hn, hx⟩ := hT q2
      obtain ⟨n', hn', q⟩ := g2 i _ q1
      obtain rfl := Option.some.inj (hn.symm.trans hn')
      rcases q with ⟨b, b', e1, e2, e3⟩ | ⟨_, e⟩
      · cases e3
        obtain ⟨c0, rfl, _⟩ := renB_len e2
        refine renB_ok (fun c hc => by cases hc; exact h.hnm n _ x e1 hx) e2 (fun o ho => ?_)
        obtain ⟨o', _, hb⟩ := hH ho
        exact (h.hnm n _ x e1 hx).obj o' hb
      · cases e
    hno := fun i c' q1 q2 => by
      obtain ⟨n, hn, q⟩ := g2 i _ q1
      rcases q with ⟨b, b', e1, e2, e3⟩ | ⟨_, e⟩
      · cases e3
        obtain ⟨c0, rfl, el⟩ := renB_len e2
        have hTn : (pn[i]?).bind G.T = none := q2
        rw [hn] at hTn
        rw [el]
        exact h.hno n c0 e1 hTn
      · cases e
    nmd := fun i j c c' x x' hij q1 q2 q3 q4 => by
      obtain ⟨n, hn, hx⟩ := hT q3
      obtain ⟨n', hn', hx'⟩ := hT q4
      obtain ⟨m, hm, r⟩ := g2 i _ q1
      obtain ⟨m', hm', r'⟩ := g2 j _ q2
      obtain rfl := Option.some.inj (hn.symm.trans hm)
      obtain rfl := Option.some.inj (hn'.symm.trans hm')
      rcases r with ⟨b, b', e1, e2, e3⟩ | ⟨_, e⟩
      · rcases r' with ⟨b2, b2', f1, f2, f3⟩ | ⟨_, e⟩
        · cases e3
          cases f3
          obtain ⟨c0, rfl, _⟩ := renB_len e2
          obtain ⟨c1, rfl, _⟩ := renB_len f2
          exact h.nmd n n' c0 c1 x x' (fun e => hij (nodupB_get d2 hn (e ▸ hn'))) e1 f1 hx hx'
        · cases e
      · cases e
    tabs := fun i q => by
      obtain ⟨n, hn, r⟩ := g2 i _ q
      rcases r with ⟨_, _, _, _, e⟩ | ⟨e, _⟩
      · cases e
      · show (pn[i]?).bind G.T = none
        rw [hn]
        show G.T n = none
        cases hh : G.T n with
        | none => rfl
        | some x =>
          have hl := h.tlt n x hh
          have hs : nm[n]? = some (nm[n]'hl) := List.getElem?_eq_getElem hl
          cases hc : nm[n]'hl with
          | none => rw [hc] at hs; rw [h.tabs n hs] at hh; cases hh
          | some b => rw [hc] at hs; exact absurd hs (e b)
    tlt := fun i x q => by
      obtain ⟨n, hn, hx⟩ := hT q
      rw [l2]; exact get_lt hn
    dd := h.dd
    kdle := h.kdle
    gl := fun g v hg => (h.gl g v hg).mono' ⟨fun _ _ _ h => h, (fun _ _ h => by cases h), (fun _ _ h => by cases h), (fun _ _ h => by cases h)⟩
    mold := h.mold
    os := h.os
    tape := h.tape
    output := h.output
    size := h.size
    block := h.block }
/-- The first ones stay. -/
def idB (k : Nat) (l : List Nat) : Bool := (List.range k).all fun o => l[o]? == some o
theorem idB_get {k : Nat} {l : List Nat} (h : idB k l = true) {o : Nat} (ho : o < k) : l[o]? = some o := by
  have := List.all_eq_true.1 h o (List.mem_range.2 ho)
  simpa using this
/-- A state under new names. -/
def St.ren (y : St) (po pn lv : List Nat) : Option (List V × Ob × Nm) :=
  if idB y.kh po = true ∧ idB y.kt pn = true ∧ nodupB po = true ∧ nodupB pn = true then
    match V.clL (renP po pn) (y.kept lv), renOb po pn y.ob po, renNm po pn y.nm pn with
    | some vs, some ob, some nm => some (vs, ob, nm)
    | _, _, _ => none
  else none
theorem Rel.ren {G G1 : Gh} {y : St} {a' : Act} {w' : World} {n : Nat} {po pn lv : List Nat} {vs : List V} {ob : Ob} {nm : Nm} (h1 : G.leW G1) (r1 : Rel Γ G1 y a' w') (hn : y.tm.length = n) (hs : y.ren po pn lv = some (vs, ob, nm)) :
    ∃ G', G.leW G' ∧ Rel Γ G' (St.of n lv vs ob nm y.kh y.kt) a' w' := by
  unfold St.ren at hs
  split at hs
  · rename_i hk
    obtain ⟨k1, k2, d1, d2⟩ := hk
    split at hs
    · rename_i vs' ob' nm' e1 e2 e3
      cases hs
      have hkh : G.kh = y.kh := by rw [← h1.kh, r1.kh]
      have hkt : G.kt = y.kt := by rw [← h1.kt, r1.kt]
      refine ⟨G1.ren po pn, ⟨h1.m, (fun o b ho hh => by
        show (po[o]?).bind G1.H = some b
        rw [idB_get k1 (by omega)]
        exact h1.h o b ho hh), (fun n x hn hh => by
        show (pn[n]?).bind G1.T = some x
        rw [idB_get k2 (by omega)]
        exact h1.t n x hn hh), h1.d, h1.kh, h1.kt, h1.w0, h1.m0, h1.kd⟩, ⟨?_, r1.wr.ren e2 e3 d1 d2, Marks.mono (G := G1) (G' := G1.ren po pn) (fun _ _ h => h) rfl r1.df, r1.kh, r1.kt⟩⟩
      subst hn
      have hM : ∀ b off cv, G1.M b off = some cv → (G1.ren po pn).M b off = some cv := fun _ _ _ h => h
      have key : ∀ (lv : List Nat) (l0 l vs : List V) (cv : List Value), Rels G1 l0 cv → V.clL (renP po pn) (lv.map fun d => (l0[d]?).getD .any) = some vs → Rels (G1.ren po pn) l cv → Rels (G1.ren po pn) (setVs lv vs l) cv := by
        intro lv
        induction lv with
        | nil => intro l0 l vs cv _ hv h; simp [V.clL] at hv; subst hv; exact h
        | cons d ds ih =>
          intro l0 l vs cv hr0 hv hrl
          simp only [List.map_cons, V.clL] at hv
          split at hv
          · rename_i v vs' hv1 hv2
            cases hv
            simp only [setVs]
            refine ih l0 _ vs' cv hr0 hv2 ⟨by simpa using hrl.1, fun j u c hu hc => ?_⟩
            rw [List.getElem?_set] at hu
            split at hu
            · rename_i hj
              subst hj
              split at hu
              · cases hu
                cases hd : l0[d]? with
                | none =>
                  rw [hd] at hv1
                  simp [V.cl] at hv1
                  subst hv1
                  exact .any _
                | some z =>
                  rw [hd] at hv1
                  exact VRel.cl (renP_cell po pn) hM (renP_rel po pn) (hr0.2 d z c hd hc) hv1
              · cases hu
            · exact hrl.2 j u c hu hc
          · cases hv
      have hany : Rels (G1.ren po pn) (List.replicate y.tm.length V.any) a'.tmps.toList := ⟨by simpa using r1.tm.1, fun j v c hv hc => by
        rw [List.getElem?_replicate] at hv
        split at hv
        · cases hv; exact .any _
        · cases hv⟩
      exact key lv y.tm _ _ _ r1.tm e1 hany
    · cases hs
  · cases hs
theorem SemC.ren {c : Code} {x : St} {e : Exit} {n : Nat} {po pn lv : List Nat} {vs : List V} {ob : Ob} {nm : Nm} {y : St} (h : SemC P Γ c x e y) (hn : y.tm.length = n) (hs : y.ren po pn lv = some (vs, ob, nm)) : SemC P Γ c x e (St.of n lv vs ob nm y.kh y.kt) := by
  intro ro G a w hr ho
  refine wpIn_mono (h ro G a w hr ho) ?_
  rintro e a' w' ⟨rfl, G1, h1, r1⟩
  exact ⟨rfl, r1.ren h1 hn hs⟩
theorem SemL.ren {c : Code} {x : St} {e : Exit} {n : Nat} {po pn lv : List Nat} {vs : List V} {ob : Ob} {nm : Nm} {y : St} (h : SemL P Γ c x e y) (hn : y.tm.length = n) (hs : y.ren po pn lv = some (vs, ob, nm)) : SemL P Γ c x e (St.of n lv vs ob nm y.kh y.kt) := by
  obtain ⟨m, h⟩ := h
  refine ⟨m, fun ro G a w hr ho => rounds_mono ?_ m a w (h ro G a w hr ho)⟩
  rintro e a' w' ⟨rfl, G1, h1, r1⟩
  exact ⟨rfl, r1.ren h1 hn hs⟩
/-- A loop from a state under new names. -/
theorem SemL.preRen {c : Code} {x z : St} {e : Exit} {n : Nat} {po pn lv : List Nat} {vs : List V} {ob : Ob} {nm : Nm} (hn : x.tm.length = n) (hs : x.ren po pn lv = some (vs, ob, nm)) (h : SemL P Γ c (St.of n lv vs ob nm x.kh x.kt) e z) : SemL P Γ c x e z := by
  obtain ⟨k, h⟩ := h
  refine ⟨k, fun ro G a w hr ho => ?_⟩
  obtain ⟨G', hle, hr'⟩ := Rel.ren (Gh.leW.refl G) hr hn hs
  refine rounds_mono ?_ k a w (h ro G' a w hr' (ho.leW hle))
  rintro e a' w' ⟨rfl, G1, h1, r1⟩
  exact ⟨rfl, G1, hle.trans h1, r1⟩
end
end Go.Proofs.Ytnjjkobijjdnbaa
