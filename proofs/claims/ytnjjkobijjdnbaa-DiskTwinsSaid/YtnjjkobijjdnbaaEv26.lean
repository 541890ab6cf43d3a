/- The calls: contracts, effects that are told, loops by table; and with memory. -/
import Derived.Test.YtnjjkobijjdnbaaEv25
set_option linter.unusedVariables false
set_option linter.unusedSimpArgs false
namespace Go.Proofs.Ytnjjkobijjdnbaa
open Go

/-- What is known: contracts by plain arguments; calls with their effects; loops; the slots kept behind joined regions; functions that are always reckoned with memory; the fuel; the ways that are chosen. -/
structure Cfg where
  orc : Orc
  omd : FuncId → Bool
  om : CallF
  lo : LOrc
  lv : FuncId → List Nat
  mem : FuncId → Bool
  n : Nat
  wy : FuncId → List V → Option (List Bool) := fun _ _ => none   -- of these calls one way alone is looked at
structure CfgOk (P : Program) (Γ : Nat → Option V) (C : Cfg) : Prop where
  orc : OrcOk P Γ C.orc
  om : CallsOk P Γ C.om
  fit : CallsFit C.om
  lo : LOrcOk P Γ C.lo
  mixed : P.follows .mixedOrders = true
/-- One way of a tree; the others are dead. -/
def Tr.prune {α : Type} : Tr α → List Bool → Tr α
  | .leaf a, [] => .leaf a
  | .br b x _, true :: ds => .br b (x.prune ds) (.leaf none)
  | .br b _ y, false :: ds => .br b (.leaf none) (y.prune ds)
  | _, _ => .leaf none
theorem Tr.prune_run {α : Type} : ∀ (t : Tr α) (ds : List Bool) (a : α), (t.prune ds).run = some a → t.run = some a
  | .leaf x, [], a, h => h
  | .leaf x, d :: ds, a, h => by cases h
  | .br b x y, [], a, h => by cases h
  | .br b x y, true :: ds, a, h => by
    cases b with
    | true => exact Tr.prune_run x ds a h
    | false => cases h
  | .br b x y, false :: ds, a, h => by
    cases b with
    | true => cases h
    | false => exact Tr.prune_run y ds a h
def Tr.only {α : Type} (t : Tr α) : Option (List Bool) → Tr α
  | none => t
  | some ds => t.prune ds
theorem Tr.only_run {α : Type} {t : Tr α} {o : Option (List Bool)} {a : α} (h : (t.only o).run = some a) : t.run = some a := by
  cases o with
  | none => exact h
  | some ds => exact Tr.prune_run t ds a h
/-- A call without memory: what must hold, and the value. -/
def callK (P : Program) (Γ : Nat → Option V) (C : Cfg) (cf : CallF) (f : FuncId) (args : List V) : Option (Option Bool × V) :=
  match C.orc f args with
  | some p => some p
  | none =>
    match C.orc f (V.syL args) with
    | some p => some p
    | none =>
      match mergeT ((evFK P Γ cf C.lo (C.lv f) C.n f args [] []).only (C.wy f args)) with
      | .ok c v => some (c, v)
      | _ => none
def freeKeep {α : Type} : List (Option α) → List (Option α) → Bool
  | [], _ => true
  | some _ :: xs, _ :: ys => freeKeep xs ys
  | none :: xs, y :: ys => y.isNone && freeKeep xs ys
  | _ :: _, [] => false
theorem freeKeep_get {α : Type} : ∀ {l l' : List (Option α)}, freeKeep l l' = true → ∀ s : Nat, l[s]? = some none → l'[s]? = some none
  | [], l', h, s, hs => by simp at hs
  | some a :: xs, y :: ys, h, s, hs => by
    simp only [freeKeep] at h
    cases s with
    | zero => simp at hs
    | succ s => simpa using freeKeep_get h s (by simpa using hs)
  | none :: xs, y :: ys, h, s, hs => by
    simp only [freeKeep, Bool.and_eq_true] at h
    cases s with
    | zero => simp at h ⊢; exact h.1
    | succ s => simpa using freeKeep_get h.2 s (by simpa using hs)
  | x :: xs, [], h, s, hs => by cases x <;> simp [freeKeep] at h
/-- All names that values have are of these. -/
def inB (po pn : Nat → Bool) (l : List V) : Bool := (V.refsL l).all po && (V.nrefsL l).all pn
def allO (p : Nat → Bool) (q : List V → Bool) : Nat → Ob → Bool
  | _, [] => true
  | i, none :: r => allO p q (i + 1) r
  | i, some cs :: r => (!p i || q cs) && allO p q (i + 1) r
def allN (p : Nat → Bool) (q : List V → Bool) : Nat → Nm → Bool
  | _, [] => true
  | i, some (.live (.cs _ xs)) :: r => (!p i || q xs) && allN p q (i + 1) r
  | i, _ :: r => allN p q (i + 1) r
/-- A call with memory: it is handed what its arguments lead to. -/
def callM (P : Program) (Γ : Nat → Option V) (C : Cfg) (cf : CallF) (f : FuncId) (args : List V) (ob : Ob) (nm : Nm) : Option Out :=
  match dO ob nm 3 args, dN ob nm 3 args with
  | to, tn =>
    match inB to.contains tn.contains args && allO to.contains (inB to.contains tn.contains) 0 ob && allN tn.contains (inB to.contains tn.contains) 0 nm with
    | false => none
    | true =>
      match mergeM (maskO to 0 ob).length (maskN tn 0 nm).length ((evFK P Γ cf C.lo (C.lv f) C.n f args (maskO to 0 ob) (maskN tn 0 nm)).only (C.wy f args)) with
      | .ok c v ob1 nm1 =>
        match freeKeep (maskO to 0 ob) ob1 && freeKeep (maskN tn 0 nm) nm1 && inB (fun o => to.contains o || Nat.ble ob.length o) (fun n => tn.contains n || Nat.ble nm.length n) [v] &&
            allO (fun o => to.contains o || Nat.ble ob.length o) (inB (fun o => to.contains o || Nat.ble ob.length o) (fun n => tn.contains n || Nat.ble nm.length n)) 0 ob1 &&
            allN (fun n => tn.contains n || Nat.ble nm.length n) (inB (fun o => to.contains o || Nat.ble ob.length o) (fun n => tn.contains n || Nat.ble nm.length n)) 0 nm1 with
        | true => some (outC c v { ro := to, rn := tn, blk := some (restO to 0 ob ob1, restN tn 0 nm nm1), bl := (ob.length, nm.length), ko := to, kn := tn })
        | false => none
      | _ => none
/-- One round. -/
def evY (P : Program) (Γ : Nat → Option V) (cf : CallF) (n : Nat) (tm : List V) (ps : Array Tmp) (as bd : Code) (vs : List V) (ob : Ob) (nm : Nm) : Tr (V × St) :=
  match Nat.beq vs.length ps.size with
  | false => .leaf none
  | true =>
    (evC P Γ cf n as ⟨setPs ps.toList vs tm, ob, nm, ob.length, nm.length⟩).bind fun p =>
      match p.1 with
      | .normal =>
        match p.2.noY with
        | true => (evC P Γ cf n bd p.2).bind fun q => match q.1 with | .normal => .leaf (some (.b true, q.2)) | _ => .leaf none
        | false => .leaf none
      | _ => .leaf none
def callY (P : Program) (Γ : Nat → Option V) (C : Cfg) (cf : CallF) (args : List V) (ob : Ob) (nm : Nm) : Option Out :=
  match args with
  | .yl tm ps as bd :: vs =>
    match P.funcs[yid]? with
    | some _ => none
    | none =>
      match mergeM ob.length nm.length (evY P Γ cf C.n tm ps as bd vs ob nm) with
      | .ok c v ob' nm' => if freeKeep ob ob' && freeKeep nm nm' then some (outC c v { blk := some (ob', nm') }) else none
      | _ => none
  | _ => none
def cfM (P : Program) (Γ : Nat → Option V) (C : Cfg) : Nat → CallF
  | 0, _, _, _, _ => none
  | d + 1, f, args, ob, nm =>
    match Nat.beq f yid with
    | true => callY P Γ C (cfM P Γ C d) args ob nm
    | false =>
      match C.omd f with
      | true => C.om f args ob nm
      | false =>
        match C.mem f with
        | true => callM P Γ C (cfM P Γ C d) f args ob nm
        | false =>
          match V.clnL args with
          | some args' =>
            match callK P Γ C (cfM P Γ C d) f args' with
            | some (c, v) => some (outC c v .pure)
            | none => none
          | none =>
            match V.lndL ob nm args with
            | none => callM P Γ C (cfM P Γ C d) f args ob nm
            | some args' =>
              match callK P Γ C (cfM P Γ C d) f args' with
              | some (c, v) => if v.flt then some (outC c v (.rds (dO ob nm 3 args) (dN ob nm 3 args))) else none
              | none => none
section
variable {P : Program} {Γ : Nat → Option V} {C : Cfg}
theorem evFK_fn {cf : CallF} {lo : LOrc} {lv : List Nat} {n : Nat} {f : FuncId} {args : List V} {ob : Ob} {nm : Nm} {p : V × St} (h : (evFK P Γ cf lo lv n f args ob nm).run = some p) : ∃ fn, P.funcs[f]? = some fn ∧ fn.body.isSome = true ∧ (fn.name == "runtime.NumGoroutine") = false := by
  unfold evFK at h
  cases hf : P.funcs[f]? with
  | none => rw [hf] at h; cases h
  | some fn =>
    rw [hf] at h
    simp only [] at h
    cases hb : fn.body with
    | none => rw [hb] at h; cases h
    | some c =>
      rw [hb] at h
      simp only [] at h
      split at h
      · cases h
      · rename_i hn
        exact ⟨fn, rfl, by rw [hb]; rfl, by simpa using hn⟩
theorem mergeM_fn {k kt : Nat} : ∀ (t : Tr (V × St)) (c : Option Bool) (v : V) (ob' : Ob) (nm' : Nm), mergeM k kt t = .ok c v ob' nm' → c.getD true = true → ∃ p, t.run = some p
  | .leaf none, c, v, ob', nm', h, _ => by cases h
  | .leaf (some p), c, v, ob', nm', h, _ => ⟨p, rfl⟩
  | .br b x y, c, v, ob', nm', h, hc => by
    simp only [mergeM] at h
    cases hmx : mergeM k kt x with
    | bad => rw [hmx] at h; cases h
    | dead =>
      cases hmy : mergeM k kt y with
      | bad => rw [hmx, hmy] at h; cases h
      | dead => rw [hmx, hmy] at h; cases h
      | ok d u o n =>
        rw [hmx, hmy] at h
        cases h
        have hc' : b = false ∧ d.getD true = true := by simpa using hc
        obtain ⟨rfl, hd⟩ := hc'
        exact mergeM_fn y d _ _ _ hmy hd
    | ok d u o n =>
      cases hmy : mergeM k kt y with
      | bad => rw [hmx, hmy] at h; cases h
      | dead =>
        rw [hmx, hmy] at h
        cases h
        have hc' : b = true ∧ d.getD true = true := by simpa using hc
        obtain ⟨rfl, hd⟩ := hc'
        exact mergeM_fn x d _ _ _ hmx hd
      | ok d2 u2 o2 n2 =>
        rw [hmx, hmy] at h
        simp only [MR.mg] at h
        split at h
        · cases h
          have hcc : (bif b then d.getD true else d2.getD true) = true := by
            cases d <;> cases d2 <;> cases b <;> first | rfl | simpa using hc
          cases b
          · exact mergeM_fn y d2 _ _ _ hmy hcc
          · exact mergeM_fn x d _ _ _ hmx hcc
        · cases h
theorem callK_ok (hC : CfgOk P Γ C) {cf : CallF} (hok : CallsOk P Γ cf) (hfit : CallsFit cf) {f : FuncId} {args : List V} {c : Option Bool} {v : V} (h : callK P Γ C cf f args = some (c, v)) (hc : c.getD true = true) :
    SemF P Γ f args [] [] v [] [] ∧ ∃ fn, P.funcs[f]? = some fn ∧ fn.body.isSome = true ∧ (fn.name == "runtime.NumGoroutine") = false := by
  unfold callK at h
  split at h
  · rename_i p hv
    cases h
    exact hC.orc f _ _ _ hv hc
  · split at h
    · rename_i p hv
      cases h
      obtain ⟨g1, g2⟩ := hC.orc f _ _ _ hv hc
      exact ⟨g1.of_sy, g2⟩
    · split at h
      · rename_i c' v' hk
        cases h
        obtain ⟨u, s, u', h1, h2, h3⟩ := mergeT_run _ c v hk hc
        have h1 := Tr.only_run h1
        exact ⟨((evFK_sound hok hfit hC.mixed hC.lo h1).drop h2).weaken h3, evFK_fn h1⟩
      · cases h
theorem freeKeep_len {α : Type} : ∀ {l l' : List (Option α)}, freeKeep l l' = true → l.length ≤ l'.length
  | [], l', h => Nat.zero_le _
  | some a :: xs, y :: ys, h => by simpa using freeKeep_len (l := xs) (by simpa [freeKeep] using h)
  | none :: xs, y :: ys, h => by
    simp only [freeKeep, Bool.and_eq_true] at h
    simpa using freeKeep_len h.2
  | x :: xs, [], h => by cases x <;> simp [freeKeep] at h
theorem inB_ok {po pn : Nat → Bool} {l : List V} (h : inB po pn l = true) : NamesIn (fun o => po o = true) (fun n => pn n = true) l := by
  simp only [inB, Bool.and_eq_true] at h
  exact ⟨fun o ho => List.all_eq_true.1 h.1 o ho, fun n hn => List.all_eq_true.1 h.2 n hn⟩
theorem NamesIn.mono {p q p' q' : Nat → Prop} {l : List V} (h : NamesIn p q l) (hp : ∀ o, p o → p' o) (hq : ∀ n, q n → q' n) : NamesIn p' q' l := ⟨fun o ho => hp o (h.1 o ho), fun n hn => hq n (h.2 n hn)⟩
theorem allO_get {p : Nat → Bool} {q : List V → Bool} : ∀ {i : Nat} {ob : Ob}, allO p q i ob = true → ∀ (j : Nat) (cs : List V), ob[j]? = some (some cs) → p (i + j) = true → q cs = true
  | i, [], _, j, cs, hj, _ => by simp at hj
  | i, none :: r, h, 0, cs, hj, _ => by simp at hj
  | i, none :: r, h, j + 1, cs, hj, hp => allO_get (i := i + 1) (ob := r) (by simpa [allO] using h) j cs (by simpa using hj) (by rw [show i + 1 + j = i + (j + 1) by omega]; exact hp)
  | i, some c :: r, h, 0, cs, hj, hp => by
    simp at hj
    subst hj
    simp only [allO, Bool.and_eq_true, Bool.or_eq_true, Bool.not_eq_true'] at h
    rcases h.1 with h1 | h1
    · rw [Nat.add_zero] at hp; rw [hp] at h1; cases h1
    · exact h1
  | i, some c :: r, h, j + 1, cs, hj, hp => by
    simp only [allO, Bool.and_eq_true] at h
    exact allO_get (i := i + 1) (ob := r) h.2 j cs (by simpa using hj) (by rw [show i + 1 + j = i + (j + 1) by omega]; exact hp)
theorem allN_get {p : Nat → Bool} {q : List V → Bool} : ∀ {i : Nat} {nm : Nm}, allN p q i nm = true → ∀ (j sz : Nat) (xs : List V), nm[j]? = some (some (.live (.cs sz xs))) → p (i + j) = true → q xs = true
  | i, [], _, j, sz, xs, hj, _ => by simp at hj
  | i, c :: r, h, 0, sz, xs, hj, hp => by
    simp at hj
    subst hj
    simp only [allN, Bool.and_eq_true, Bool.or_eq_true, Bool.not_eq_true'] at h
    rcases h.1 with h1 | h1
    · rw [Nat.add_zero] at hp; rw [hp] at h1; cases h1
    · exact h1
  | i, c :: r, h, j + 1, sz, xs, hj, hp => by
    have h2 : allN p q (i + 1) r = true := by
      unfold allN at h
      split at h
      · rename_i e; cases e
      · rename_i e1 e2; cases e2; exact (Bool.and_eq_true _ _ ▸ h : _ ∧ _).2
      · rename_i e2; cases e2; exact h
    exact allN_get (i := i + 1) (nm := r) h2 j sz xs (by simpa using hj) (by rw [show i + 1 + j = i + (j + 1) by omega]; exact hp)
theorem els_names {p q : Nat → Prop} {c : BC} (h : ∀ sz xs, c = .cs sz xs → NamesIn p q xs) : NamesIn p q c.els := by
  cases c with
  | cs sz xs => exact h sz xs rfl
  | arr ty l => exact ⟨(fun o ho => by
      have : V.refsL (l.map ty.val) = [] := (map_refs ty l).1
      rw [show (BC.arr ty l).els = l.map ty.val from rfl, this] at ho; cases ho), (fun o ho => by
      have : V.nrefsL (l.map ty.val) = [] := (map_refs ty l).2
      rw [show (BC.arr ty l).els = l.map ty.val from rfl, this] at ho; cases ho)⟩
theorem okB {to : List Nat} {L o : Nat} : ((to.contains o || Nat.ble L o) = true) ↔ (o ∈ to ∨ L ≤ o) := by
  rw [Bool.or_eq_true, List.contains_iff_mem, Nat.ble_eq]
theorem callM_ok (hC : CfgOk P Γ C) {cf : CallF} (hok : CallsOk P Γ cf) (hfit : CallsFit cf) {f : FuncId} {args : List V} {ob : Ob} {nm : Nm} {out : Out} (h : callM P Γ C cf f args ob nm = some out) :
    EffOk 0 false ob nm out.eff ∧ out.eff.lays = true ∧ (out.chk = true → SemF P Γ f args ob nm out.v (out.eff.ob ob) (out.eff.nm nm) ∧ ∃ fn, P.funcs[f]? = some fn ∧ fn.body.isSome = true ∧ (fn.name == "runtime.NumGoroutine") = false) := by
  unfold callM at h
  simp only [] at h
  generalize dO ob nm 3 args = to at h
  generalize dN ob nm 3 args = tn at h
  split at h
  · cases h
  · rename_i hin
    simp only [Bool.and_eq_true] at hin
    obtain ⟨⟨i1, i2⟩, i3⟩ := hin
    split at h
    · rename_i c v ob1 nm1 hm
      split at h
      · rename_i hk
        simp only [Bool.and_eq_true] at hk
        obtain ⟨⟨⟨⟨k1, k2⟩, k3⟩, k4⟩, k5⟩ := hk
        have l1 : ob.length ≤ ob1.length := by have := freeKeep_len k1; rwa [maskO_len] at this
        have l2 : nm.length ≤ nm1.length := by have := freeKeep_len k2; rwa [maskN_len] at this
        cases h
        refine ⟨?_, ?_, fun hchk => ?_⟩
        · rw [outC_eff]
          refine ⟨(fun p hp => by cases hp), (fun p hp => by cases hp), (fun p hp => by
            cases hp
            refine ⟨fun s hs => ?_, fun s hs => ?_, fun o ho hno => ?_, fun n hn hno => ?_⟩
            · show (restO to 0 ob ob1)[s]? = some none
              rw [restO_get to 0 ob ob1 l1]
              split
              · exact hs
              · exact freeKeep_get k1 s (by rw [maskO_get, hs]; rfl)
            · show (restN tn 0 nm nm1)[s]? = some none
              rw [restN_get tn 0 nm nm1 l2]
              split
              · exact hs
              · exact freeKeep_get k2 s (by rw [maskN_get, hs]; rfl)
            · show (restO to 0 ob ob1)[o]? = ob[o]?
              rw [restO_get to 0 ob ob1 l1, if_pos ⟨ho, by simpa using hno⟩]
            · show (restN tn 0 nm nm1)[n]? = nm[n]?
              rw [restN_get tn 0 nm nm1 l2, if_pos ⟨hn, by simpa using hno⟩])⟩
        · rw [outC_eff]; rfl
        · rw [outC_chk] at hchk
          rw [outC_eff, outC_v]
          obtain ⟨p, hp⟩ := mergeM_fn _ c v ob1 nm1 hm hchk
          have hs : SemF P Γ f args (maskO to 0 ob) (maskN tn 0 nm) v ob1 nm1 := mergeM_ok _ (fun v s hr => evFK_sound hok hfit hC.mixed hC.lo (Tr.only_run hr)) c v ob1 nm1 hm hchk
          refine ⟨hs.mask ((inB_ok i1).mono (fun o ho => by simpa using ho) (fun n hn => by simpa using hn)) (fun o ho cs hcs => ?_) (fun n hn c hc => ?_) l1 l2 ((inB_ok k3).mono (fun o ho => okB.1 ho) (fun n hn => okB.1 hn)) (fun o ho cs hcs => ?_) (fun n hn c hc => ?_), evFK_fn (Tr.only_run hp)⟩
          · exact (inB_ok (allO_get i2 o cs hcs (by simpa using ho))).mono (fun o ho => by simpa using ho) (fun n hn => by simpa using hn)
          · refine els_names fun sz xs e => ?_
            subst e
            exact (inB_ok (allN_get i3 n sz xs hc (by simpa using hn))).mono (fun o ho => by simpa using ho) (fun n hn => by simpa using hn)
          · exact (inB_ok (allO_get k4 o cs hcs (by rw [Nat.zero_add]; exact okB.2 ho))).mono (fun o ho => okB.1 ho) (fun n hn => okB.1 hn)
          · refine els_names fun sz xs e => ?_
            subst e
            exact (inB_ok (allN_get k5 n sz xs hc (by rw [Nat.zero_add]; exact okB.2 hn))).mono (fun o ho => okB.1 ho) (fun n hn => okB.1 hn)
      · cases h
    · cases h
theorem evY_sound {cf : CallF} (hok : CallsOk P Γ cf) (hfit : CallsFit cf) (hm : P.follows .mixedOrders = true) {n : Nat} {tm : List V} {ps : Array Tmp} {as bd : Code} {vs : List V} {ob : Ob} {nm : Nm} {v : V} {s : St} (hf : P.funcs[yid]? = none)
    (h : (evY P Γ cf n tm ps as bd vs ob nm).run = some (v, s)) : SemF P Γ yid (.yl tm ps as bd :: vs) ob nm v s.ob s.nm := by
  unfold evY at h
  split at h
  · cases h
  · rename_i hl
    rw [Tr.run_bind] at h
    cases h1 : (evC P Γ cf n as ⟨setPs ps.toList vs tm, ob, nm, ob.length, nm.length⟩).run with
    | none => rw [h1] at h; cases h
    | some p =>
      obtain ⟨e, x⟩ := p
      rw [h1] at h
      simp only [Option.bind_some] at h
      split at h
      · rename_i he
        split at h
        · rename_i hY
          rw [Tr.run_bind] at h
          cases h2 : (evC P Γ cf n bd x).run with
          | none => rw [h2] at h; cases h
          | some q =>
            obtain ⟨e2, y⟩ := q
            rw [h2] at h
            simp only [Option.bind_some] at h
            split at h
            · rename_i he2
              simp only [Tr.run, Option.some.injEq, Prod.mk.injEq] at h
              obtain ⟨rfl, rfl⟩ := h
              exact SemF.yield hf (Nat.eq_of_beq_eq_true hl) (evC_sound hok hfit hm h1) hY (evC_sound hok hfit hm h2)
            · cases h
        · cases h
      · cases h
theorem callY_ok (hC : CfgOk P Γ C) {cf : CallF} (hok : CallsOk P Γ cf) (hfit : CallsFit cf) {args : List V} {ob : Ob} {nm : Nm} {out : Out} (h : callY P Γ C cf args ob nm = some out) :
    EffOk 0 false ob nm out.eff ∧ out.eff.lays = true ∧ (out.chk = true → SemF P Γ yid args ob nm out.v (out.eff.ob ob) (out.eff.nm nm) ∧ P.funcs[yid]? = none) := by
  unfold callY at h
  split at h
  · split at h
    · cases h
    · rename_i hf
      split at h
      · rename_i c v ob' nm' hm
        split at h
        · rename_i hk
          simp only [Bool.and_eq_true] at hk
          cases h
          refine ⟨?_, ?_, fun hchk => ?_⟩
          · rw [outC_eff]
            exact ⟨(fun p hp => by cases hp), (fun p hp => by cases hp), (fun p hp => by cases hp; exact ⟨freeKeep_get hk.1, freeKeep_get hk.2, (fun o ho => absurd ho (Nat.not_lt_zero _)), (fun o ho => absurd ho (Nat.not_lt_zero _))⟩)⟩
          · rw [outC_eff]; rfl
          · rw [outC_chk] at hchk
            rw [outC_eff, outC_v]
            exact ⟨mergeM_ok _ (fun v s hr => evY_sound hok hfit hC.mixed hf hr) c v ob' nm' hm hchk, hf⟩
        · cases h
      · cases h
  · cases h
theorem cfM_fit (hC : CfgOk P Γ C) : ∀ (d : Nat), CallsOk P Γ (cfM P Γ C d) ∧ CallsFit (cfM P Γ C d)
  | 0 => ⟨(fun f args ob nm out h => by cases h), ⟨(fun f args ob nm out h => by cases h), (fun f args ob nm out h => by cases h)⟩⟩
  | d + 1 => by
    obtain ⟨ihok, ihfit⟩ := cfM_fit hC d
    refine ⟨(fun f args ob nm out h hchk => ?_), ⟨(fun f args ob nm out h => ?_), (fun f args ob nm out h ob' nm' hs => ?_)⟩⟩
    · simp only [cfM] at h
      split at h
      · rename_i hy
        obtain rfl := Nat.eq_of_beq_eq_true hy
        obtain ⟨g1, g2⟩ := (callY_ok hC ihok ihfit h).2.2 hchk
        exact ⟨g1, .inl ⟨rfl, g2⟩⟩
      · rename_i hy
        split at h
        · exact hC.om f args ob nm out h hchk
        · split at h
          · obtain ⟨g1, g2⟩ := (callM_ok hC ihok ihfit h).2.2 hchk
            exact ⟨g1, .inr ⟨beq_ne hy, g2⟩⟩
          · split at h
            · rename_i args' hcl
              split at h
              · rename_i c v hk
                cases h
                rw [outC_chk] at hchk
                obtain ⟨g1, g2⟩ := callK_ok hC ihok ihfit hk hchk
                rw [outC_v, outC_eff]
                exact ⟨g1.frame hcl ob nm, .inr ⟨beq_ne hy, g2⟩⟩
              · cases h
            · split at h
              · obtain ⟨g1, g2⟩ := (callM_ok hC ihok ihfit h).2.2 hchk
                exact ⟨g1, .inr ⟨beq_ne hy, g2⟩⟩
              · rename_i args' hl
                split at h
                · rename_i c v hk
                  split at h
                  · rename_i hf
                    cases h
                    rw [outC_chk] at hchk
                    obtain ⟨g1, g2⟩ := callK_ok hC ihok ihfit hk hchk
                    rw [outC_v, outC_eff]
                    exact ⟨g1.lend hl hf, .inr ⟨beq_ne hy, g2⟩⟩
                  · cases h
                · cases h
    · simp only [cfM] at h
      split at h
      · exact (callY_ok hC ihok ihfit h).1
      · split at h
        · exact hC.fit.eff f args ob nm out h
        · split at h
          · exact (callM_ok hC ihok ihfit h).1
          · split at h
            · split at h
              · cases h; rw [outC_eff]; exact EffOk.none _ _ _ _
              · cases h
            · split at h
              · exact (callM_ok hC ihok ihfit h).1
              · split at h
                · split at h
                  · cases h; rw [outC_eff]; exact EffOk.rds _ _ _ _ _ _
                  · cases h
                · cases h
    · simp only [cfM] at h ⊢
      split at h
      · have hl := (callY_ok hC ihok ihfit h).2.1
        obtain ⟨rfl, rfl⟩ := hs.2.2 hl
        exact h
      · split at h
        · exact hC.fit.frame f args ob nm out h ob' nm' hs
        · split at h
          · have hl := (callM_ok hC ihok ihfit h).2.1
            obtain ⟨rfl, rfl⟩ := hs.2.2 hl
            exact h
          · split at h
            · exact h
            · split at h
              · have hl := (callM_ok hC ihok ihfit h).2.1
                obtain ⟨rfl, rfl⟩ := hs.2.2 hl
                rename_i hlnd
                rw [hlnd]
                exact h
              · rename_i args' hl
                split at h
                · rename_i c v hk
                  split at h
                  · rename_i hf
                    cases h
                    rw [outC_eff] at hs
                    obtain ⟨q1, q2, q3⟩ := clL_refs args hs.1 hs.2.1
                    have hl' : V.lndL ob' nm' args = some args' := by
                      rw [← hl]; exact q1.symm
                    simp only [hl', hk, hf, if_true, q2, q3]
                  · cases h
                · cases h
/-- A function's contract, reckoned. -/
theorem SemF.of_evM (hC : CfgOk P Γ C) {lv : List Nat} {n d : Nat} {f : FuncId} {args : List V} {c : Option Bool} {v v' : V} (h : mergeT (evFK P Γ (cfM P Γ C d) C.lo lv n f args [] []) = .ok c v) (hc : c.getD true = true) (hv : v = v') : SemF P Γ f args [] [] v' [] [] := by
  subst hv
  obtain ⟨u, s, u', h1, h2, h3⟩ := mergeT_run _ c v h hc
  exact ((evFK_sound (cfM_fit hC d).1 (cfM_fit hC d).2 hC.mixed hC.lo h1).drop h2).weaken h3
/-- The same by one way. -/
theorem SemF.of_pathM (hC : CfgOk P Γ C) {lv : List Nat} {n d : Nat} {f : FuncId} {args : List V} {v : V} (ds : List Bool) {cs : List Bool} (h : valO ((evFK P Γ (cfM P Γ C d) C.lo lv n f args [] []).path ds) = some v) (h2 : (evFK P Γ (cfM P Γ C d) C.lo lv n f args [] []).conds ds = cs) (hc : cs = ds) : SemF P Γ f args [] [] v [] [] := by
  unfold valO at h
  cases hp : (evFK P Γ (cfM P Γ C d) C.lo lv n f args [] []).path ds with
  | none => rw [hp] at h; cases h
  | some p =>
    rw [hp] at h
    have hr := Tr.run_path _ ds p hp (h2.trans hc)
    exact (evFK_sound (cfM_fit hC d).1 (cfM_fit hC d).2 hC.mixed hC.lo (v := p.1) (x := p.2) hr).drop h
theorem LOrcOk.at (hC : LOrcOk P Γ C.lo) {f : FuncId} {fn : Func} {root : Code} (hf : P.funcs[f]? = some fn) (hb : fn.body = some root) : ∀ i e, C.lo f i = some e → ∀ b, (loops root)[i]? = some b → ∀ kh kt vs ob nm t ex s, e.go kh kt vs ob nm = some t → t.run = some (ex, s) → SemL P Γ b (St.of e.n e.lv vs ob nm kh kt) ex.to s := fun i e he b hb' => by
  obtain ⟨fn', c', b', g1, g2, g3, g4⟩ := hC f i e he
  rw [hf] at g1
  obtain rfl := Option.some.inj g1
  rw [hb] at g2
  obtain rfl := Option.some.inj g2
  rw [hb'] at g3
  obtain rfl := Option.some.inj g3
  exact g4
/-- A piece of a function's code; names follow from what is kept. -/
theorem SemC.of_evM (hC : CfgOk P Γ C) {f : FuncId} {fn : Func} {root : Code} (hf : P.funcs[f]? = some fn) (hb : fn.body = some root) {lv : List Nat} {lv' : Ex → List Nat} {n d i : Nat} {c : Code} (hl : Lies root i c) {x : St} {e : Ex} {vs : List V} {ob : Ob} {nm : Nm} {m kh kt : Nat}
    (h : (outa lv' (evCK P Γ (cfM P Γ C d) (C.lo f) lv n i c x)).run = some (e, vs, ob, nm, m, kh, kt)) : SemC P Γ c x e.to (St.of m (lv' e) vs ob nm kh kt) := by
  obtain ⟨s, po, pn, h1, h2, h3, rfl, rfl⟩ := outa_run h
  exact ((evCK_sound' (cfM_fit hC d).1 (cfM_fit hC d).2 hC.mixed (hC.lo.at hf hb) n i c x e s hl h1).1).ren h3 h2
/-- The same, no name changed. -/
theorem SemC.of_evS (hC : CfgOk P Γ C) {f : FuncId} {fn : Func} {root : Code} (hf : P.funcs[f]? = some fn) (hb : fn.body = some root) {lv : List Nat} {lv' : Ex → List Nat} {n d i : Nat} {c : Code} (hl : Lies root i c) {x : St} {e : Ex} {vs : List V} {ob : Ob} {nm : Nm} {m kh kt : Nat}
    (h : (outs lv' (evCK P Γ (cfM P Γ C d) (C.lo f) lv n i c x)).run = some (e, vs, ob, nm, m, kh, kt)) : SemC P Γ c x e.to (St.of m (lv' e) vs ob nm kh kt) := by
  obtain ⟨s, h1, h2⟩ := outs_run (Γ := Γ) h
  exact ((evCK_sound' (cfM_fit hC d).1 (cfM_fit hC d).2 hC.mixed (hC.lo.at hf hb) n i c x e s hl h1).1).post h2
/-- A contract for plain arguments, as an entry of the table. -/
theorem OrcOk.plain {orc : Orc} (h : OrcOk P Γ orc) (f0 : FuncId) (ts : List Ty) (g : Ty.dens ts → Option Bool × V) (fn : Func) (hf : P.funcs[f0]? = some fn) (hb : fn.body.isSome = true) (hn : (fn.name == "runtime.NumGoroutine") = false)
    (hg : ∀ x : Ty.dens ts, (g x).1.getD true = true → SemF P Γ f0 (Ty.vals ts x) [] [] (g x).2 [] []) : OrcOk P Γ (fun f args => if f = f0 then (Ty.ofVs ts args).map g else orc f args) := by
  intro f args c v hv hc
  simp only at hv
  split at hv
  · rename_i he
    subst he
    rw [Option.map_eq_some_iff] at hv
    obtain ⟨x, hx, hgx⟩ := hv
    have hs := hg x (by rw [hgx]; exact hc)
    rw [hgx] at hs
    exact ⟨hs.args (fun G cv hr => Ty.ofVs_ok hx hr), fn, hf, hb, hn⟩
  · exact h f args c v hv hc
end
end Go.Proofs.Ytnjjkobijjdnbaa
