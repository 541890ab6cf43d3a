/- Parts of the library of texts, one after the other: Ev15b, Ev16, Ev17, Ev21, Ev22, Ev23, Ev23b, Ev24, Ev24b. -/
import Derived.Test.YtnjjkobijjdnbaaM10e
/- A range over a function: its rounds. -/
set_option linter.unusedVariables false
set_option linter.unusedSimpArgs false
namespace Go.Proofs.Ytnjjkobijjdnbaa
open Go

/-- Yield's arguments in the loop's temporaries. -/
def setPs : List Nat → List V → List V → List V
  | p :: ps, v :: vs, tm => setPs ps vs (tm.set p v)
  | _, _, tm => tm
theorem setPs_rels {G : Gh} : ∀ (ps : List Nat) (vs : List V) (cvs : List Value) (tm : List V) (t : Array Value), Rels G vs cvs → Rels G tm t.toList → Rels G (setPs ps vs tm) ((ps.zip cvs).foldl (fun t p => t.setIfInBounds p.1 p.2) t).toList
  | [], vs, cvs, tm, t, _, h => by simpa [setPs] using h
  | p :: ps, [], cvs, tm, t, h1, h => by
    have : cvs = [] := by have := h1.1; simpa using this
    subst this
    simpa [setPs] using h
  | p :: ps, v :: vs, [], tm, t, h1, h => by have := h1.1; simp at this
  | p :: ps, v :: vs, c :: cvs, tm, t, h1, h => by
    have hv : VRel G v c := h1.2 0 v c rfl rfl
    have hvs : Rels G vs cvs := ⟨by have := h1.1; simpa using this, fun j x y a b => h1.2 (j + 1) x y (by simpa using a) (by simpa using b)⟩
    simp only [setPs, List.zip_cons_cons, List.foldl_cons]
    exact setPs_rels ps vs cvs _ _ hvs (by simpa using h.set hv p)
def St.noY (x : St) : Bool := (V.clL idP x.tm).isSome && noYm x.ob x.nm
section
variable {P : Program} {Γ : Nat → Option V} {G : Gh} {ob : Ob} {nm : Nm} {w : World} {σ : St}
theorem rec_back {r : Loop} (h1 : r.state = .ready) (h2 : r.pending = none) : ({ r with state := .ready, pending := none } : Loop) = r := by
  cases r
  simp only at h1 h2
  subst h1
  subst h2
  rfl
theorem SemF.yield {tm : List V} {ps : Array Tmp} {as bd : Code} {vs : List V} {s1 s2 : St} (hf : P.funcs[yid]? = none) (hl : vs.length = ps.size)
    (hA : SemC P Γ as ⟨setPs ps.toList vs tm, ob, nm, ob.length, nm.length⟩ .normal s1) (hY : s1.noY = true) (hB : SemC P Γ bd s1 .normal s2) : SemF P Γ yid (.yl tm ps as bd :: vs) ob nm (.b true) s2.ob s2.nm := by
  intro G w cargs hw hr
  refine (callsX_yield hf).2 ?_
  match cargs, hr with
  | [], hr => exact absurd hr.1 (by simp)
  | c0 :: rest, hr =>
    have h0 : VRel G (.yl tm ps as bd) c0 := hr.2 0 _ _ rfl rfl
    have hrs : Rels G vs rest := ⟨by have := hr.1; simpa using this, fun j x y a b => hr.2 (j + 1) x y (by simpa using a) (by simpa using b)⟩
    cases h0 with
    | @yl _ _ _ _ l r hD hs hlen ht =>
      obtain ⟨s0, p0, rfl, rfl, rfl⟩ := hs
      have hheap := (hw.dd _ _ hD).1
      refine ⟨l, rest, rfl, r.fn, _, r.assign, r.body, run_yield hheap (by rw [← hl]; simpa using hrs.1), ?_⟩
      refine roundIn_of_wpIn (F := Fence.wide) trivial ?_
      have htm : Rels G tm r.tmps.toList := ⟨by simpa using hlen, fun j v cv a b => ht j v cv a (by simpa using b)⟩
      have e0 : ((r.params.zip rest.toArray).foldl (fun tmps (x : Tmp × Value) => match x with | (t, a) => tmps.setIfInBounds t a) r.tmps) = (r.params.toList.zip rest).foldl (fun t p => t.setIfInBounds p.1 p.2) r.tmps := by
        rw [← Array.foldl_toList, Array.toList_zip]
      have hps := setPs_rels r.params.toList vs rest tm r.tmps hrs htm
      rw [← e0] at hps
      have hw0 := hw.reK ob.length nm.length
      refine wpIn_mono (hA (some l) (G.reK ob.length nm.length) _ w ⟨hps.mono' (G.reK_sub _ _), hw0, .nil _, rfl, rfl⟩ (fun l' e => by cases e; exact ⟨r, hD⟩)) ?_
      rintro e a1 w1 ⟨rfl, G1, hle1, r1⟩
      have hD1 : G1.D l = some (.loop r) := hle1.d _ _ hD
      have hold : G1.w0.own l := (r1.wr.dd _ _ hD1).2.2
      have hb1 := run_beginRound (P := P) (r1.wr.dd _ _ hD1).1 s0
      refine ⟨_, hb1, ?_⟩
      simp only [St.noY, Bool.and_eq_true] at hY
      obtain ⟨hY1, hY2⟩ := hY
      have hw2 := r1.wr.putD (G2 := G1.setD l (.loop { r with state := .busy })) (o := .loop { r with state := .busy }) hD1 rfl hold rfl (fun v hv cv h => VRel.noYD h (noYm_ob hY2 v hv)) (fun v hv cv h => VRel.noYD h (noYm_nm hY2 v hv))
      have htm1 : V.clL idP s1.tm = some s1.tm := by
        cases hc : V.clL idP s1.tm with
        | none => rw [hc] at hY1; cases hY1
        | some ys => rw [clL_id _ _ hc]
      have rel2 : Rel Γ (G1.setD l (.loop { r with state := .busy })) s1 a1 (w1.putObj l (.loop { r with state := .busy })) :=
        ⟨⟨r1.tm.1, fun j v cv a b => VRel.noYD (r1.tm.2 j v cv a b) (clL_id_mem htm1 v (List.mem_of_getElem? a))⟩, hw2, ⟨r1.df.nd, fun d hd => by
          obtain ⟨D, e, q1, q2⟩ := r1.df.at_ d hd
          refine ⟨D, e, q1, ?_⟩
          show (if D = l then _ else G1.D D) = _
          rw [if_neg (by rintro rfl; rw [hD1] at q2; cases q2)]
          exact q2⟩, r1.kh, r1.kt⟩
      have ro2 : RoOk (G1.setD l (.loop { r with state := .busy })) (some l) := fun l' e => by cases e; exact ⟨_, setD_new _ _ _⟩
      refine wpIn_mono (hB (some l) _ a1 _ rel2 ro2) ?_
      rintro e a2 w3 ⟨rfl, G2, hle2, r2⟩
      have hD2 : G2.D l = some (.loop { r with state := .busy }) := hle2.d _ _ (setD_new _ _ _)
      have he := run_endRound (P := P) none (r2.wr.dd _ _ hD2).1
      simp only [Option.isNone_none, if_true] at he
      rw [rec_back s0 p0] at he
      refine ⟨_, _, he, .bool true, (G2.setD l (.loop r)).reK G.kh G.kt, rfl, ?_, .b true, ?_⟩
      · refine ⟨⟨fun b off cv h => hle2.m b off cv (hle1.m b off cv h), fun o b h => ?_, fun n x h => ?_, fun k q h => ?_⟩, rfl, rfl, hle2.w0.trans hle1.w0, hle2.m0.trans hle1.m0, hle2.kd.trans hle1.kd⟩
        · have hlt := (hw.hlt o b h).1
          have g1 := hle1.h o b hlt h
          exact hle2.h o b (by show o < G1.kh; rw [hle1.kh]; exact hlt) g1
        · have hlt := hw.tlt n x h
          have g1 := hle1.t n x hlt h
          exact hle2.t n x (by show n < G1.kt; rw [hle1.kt]; exact hlt) g1
        · show (if k = l then _ else G2.D k) = _
          by_cases hk : k = l
          · subst hk; rw [hD] at h; cases h; rw [if_pos rfl]
          · rw [if_neg hk]
            refine hle2.d _ _ ?_
            show (if k = l then _ else G1.D k) = _
            rw [if_neg hk]
            exact hle1.d _ _ h
      · have gd : ∀ {v : V} {cv : Value}, VRel G2 v cv → VRel (G2.setD l (.loop r)) v cv := fun h =>
          VRel.mono0 (G := G2) (G' := G2.setD l (.loop r)) (fun _ _ _ h => h) (fun _ _ h => h) (fun _ _ h => h) (fun l' q hq h => by
            show (if l' = l then _ else G2.D l') = _
            by_cases hk : l' = l
            · subst hk; rw [hD2] at h; cases h; cases hq
            · rw [if_neg hk]; exact h) h
        exact (r2.wr.putD (o := .loop r) hD2 rfl (by rw [hle2.w0]; exact hold) rfl (fun v _ cv h => gd h) (fun v _ cv h => gd h)).reK _ _
end
end Go.Proofs.Ytnjjkobijjdnbaa

/- The evaluator of code and functions, and its soundness. -/
set_option linter.unusedVariables false
set_option linter.unusedSimpArgs false
namespace Go.Proofs.Ytnjjkobijjdnbaa
open Go

section
variable {P : Program} {Γ : Nat → Option V} {cf : CallF} {ops : Array Oper} {base : Nat}

/-- A region's steps as a tree. -/
def evReg (P : Program) (Γ : Nat → Option V) (cf : CallF) (ops : Array Oper) (base : Nat) : Nat → Nat → St → Tr (St × List (Option Eff))
  | 0, _, x => .leaf (some (x, []))
  | n + 1, i, x =>
    match ops[i]? with
    | none => (evReg P Γ cf ops base n (i + 1) x).bind fun p => .leaf (some (p.1, none :: p.2))
    | some o =>
      match wantedL ops x.tm o with
      | none => .leaf none
      | some false => (evReg P Γ cf ops base n (i + 1) (x.put o.dst (.tup []))).bind fun p => .leaf (some (p.1, none :: p.2))
      | some true =>
        match evE P cf (slotOf ops base i) o (x.eval Γ) x.ob x.nm with
        | none => .leaf none
        | some out =>
          Tr.chk out.chk out.sy (match isGd ops i, out.v with
            | true, .sb b => .br b ((evReg P Γ cf ops base n (i + 1) (x.after out o.dst (.b true))).bind fun p => .leaf (some (p.1, some out.eff :: p.2)))
                ((evReg P Γ cf ops base n (i + 1) (x.after out o.dst (.b false))).bind fun p => .leaf (some (p.1, some out.eff :: p.2)))
            | _, v => (evReg P Γ cf ops base n (i + 1) (x.after out o.dst v)).bind fun p => .leaf (some (p.1, some out.eff :: p.2)))
theorem evReg_run : ∀ (n i : Nat) (x : St), (evReg P Γ cf ops base n i x).run = chain P Γ cf ops base n i x
  | 0, i, x => rfl
  | n + 1, i, x => by
    have hb : ∀ (y : St) (ef : Option Eff), ((evReg P Γ cf ops base n (i + 1) y).bind fun p => Tr.leaf (some (p.1, ef :: p.2))).run = (match chain P Γ cf ops base n (i + 1) y with | none => none | some (x2, es) => some (x2, ef :: es)) := fun y ef => by
      rw [Tr.run_bind, evReg_run n (i + 1) y]
      cases chain P Γ cf ops base n (i + 1) y with
      | none => rfl
      | some p => rfl
    simp only [evReg, chain, stp]
    cases ho : ops[i]? with
    | none => exact hb x none
    | some o =>
      simp only []
      cases hw : wantedL ops x.tm o with
      | none => rfl
      | some t =>
        cases t with
        | false => exact hb _ none
        | true =>
          simp only []
          cases he : evE P cf (slotOf ops base i) o (x.eval Γ) x.ob x.nm with
          | none => rfl
          | some out =>
            simp only [Tr.run_chk]
            by_cases hc : out.chk = true
            · simp only [hc, if_true]
              cases hg : isGd ops i with
              | false => simp only [litG]; exact hb _ _
              | true =>
                cases hv : out.v with
                | sb b => cases b <;> exact hb _ _
                | _ => simp only [litG]; exact hb _ _
            · simp [hc]

inductive Ex where
  | normal | exit (id : Nat) | ret
def Ex.to : Ex → Exit
  | .normal => .normal
  | .exit id => .exit id
  | .ret => .ret
def padK (ops : Array Oper) : Nat := (ops.toList.filter allocs).length
def St.basis (x : St) : Nat := max x.ob.length x.nm.length
def St.pad (x : St) (k : Nat) : St :=
  match k with
  | 0 => x
  | k + 1 => { x with ob := x.ob ++ List.replicate (x.basis + (k + 1) - x.ob.length) none, nm := x.nm ++ List.replicate (x.basis + (k + 1) - x.nm.length) none }
def evRegion (P : Program) (Γ : Nat → Option V) (cf : CallF) (ops : Array Oper) (draw : Bool) (x : St) : Tr (Ex × St) :=
  match draw with
  | false => (evReg P Γ cf ops x.basis ops.size 0 (x.pad (padK ops))).bind fun p => .leaf (some (.normal, p.1))
  | true =>
    match Region.lexB .any ops with
    | true => (evReg P Γ cf ops x.basis ops.size 0 (x.pad (padK ops))).bind fun p => match commAll ops p.2 with | true => .leaf (some (.normal, p.1)) | false => .leaf none
    | false => .leaf none
/-- A range over a function: the function is called with yield. -/
def evRange (P : Program) (Γ : Nat → Option V) (cf : CallF) (g : Operand) (ps : Array Tmp) (as bd : Code) (x : St) : Tr (Ex × St) :=
  match x.eval Γ g with
  | .fn (.func f) first cap =>
    match Nat.beq f yid with
    | true => .leaf none
    | false =>
      match cf f (first ++ .yl x.tm ps as bd :: cap) x.ob x.nm with
      | some out =>
        match noYm (out.eff.ob x.ob) (out.eff.nm x.nm) with
        | true =>
          match out.sy with
          | true => .br out.chk (.leaf (some (.normal, { x with ob := out.eff.ob x.ob, nm := out.eff.nm x.nm }))) (.leaf none)
          | false => match out.chk with | true => .leaf (some (.normal, { x with ob := out.eff.ob x.ob, nm := out.eff.nm x.nm })) | false => .leaf none
        | false => .leaf none
      | none => .leaf none
  | _ => .leaf none
def evC (P : Program) (Γ : Nat → Option V) (cf : CallF) : Nat → Code → St → Tr (Ex × St)
  | 0, _, _ => .leaf none
  | n + 1, c, x =>
    match c with
    | .skip => .leaf (some (.normal, x))
    | .ret => .leaf (some (.ret, x))
    | .exit id => .leaf (some (.exit id, x))
    | .region _ ops draw => evRegion P Γ cf ops draw x
    | .seq a b => (evC P Γ cf n a x).bind fun p => match p.1 with | .normal => evC P Γ cf n b p.2 | e => .leaf (some (e, p.2))
    | .cond c t f =>
      match (x.eval Γ c).bool? with
      | some (b, true) => .br b (evC P Γ cf n t x) (evC P Γ cf n f x)
      | some (true, false) => evC P Γ cf n t x
      | some (false, false) => evC P Γ cf n f x
      | none => .leaf none
    | .block id b => (evC P Γ cf n b x).bind fun p => match p.1 with | .exit i => if i = id then .leaf (some (.normal, p.2)) else .leaf (some (.exit i, p.2)) | e => .leaf (some (e, p.2))
    | .loop b => (evC P Γ cf n b x).bind fun p => match p.1 with | .normal => evC P Γ cf n (.loop b) p.2 | e => .leaf (some (e, p.2))
    | .rangeFunc g ps as bd => evRange P Γ cf g ps as bd x
    | _ => .leaf none

theorem rep_get {α : Type} {l : List (Option α)} {k o : Nat} {c : Option α} (hc : (l ++ List.replicate k none)[o]? = some c) : l[o]? = some c ∨ (l.length ≤ o ∧ c = none) := by
  rcases Nat.lt_or_ge o l.length with hl | hl
  · rw [List.getElem?_append_left hl] at hc; exact .inl hc
  · rw [List.getElem?_append_right hl, List.getElem?_replicate] at hc
    split at hc
    · simp at hc; exact .inr ⟨hl, hc.symm⟩
    · cases hc
theorem WRel.padded {G : Gh} {ob : Ob} {nm : Nm} {w : World} (h : WRel Γ G ob nm w) (k m : Nat) : WRel Γ G (ob ++ List.replicate k none) (nm ++ List.replicate m none) w :=
  { h with
    hob := fun o cs b h1 h2 => by
      rcases rep_get h1 with h1 | ⟨_, h1⟩
      · exact h.hob o cs b h1 h2
      · cases h1
    hlt := fun o b h1 => ⟨by have := (h.hlt o b h1).1; simp; omega, (h.hlt o b h1).2⟩
    habs := fun o h1 => by
      rcases rep_get h1 with h1 | ⟨h1, _⟩
      · exact h.habs o h1
      · cases hh : G.H o with
        | none => rfl
        | some b => have := (h.hlt o b hh).1; omega
    hnm := fun n c x h1 h2 => by
      rcases rep_get h1 with h1 | ⟨_, h1⟩
      · exact h.hnm n c x h1 h2
      · cases h1
    hno := fun n c h1 h2 => by
      rcases rep_get h1 with h1 | ⟨_, h1⟩
      · exact h.hno n c h1 h2
      · cases h1
    nmd := fun n n' c c' x x' hn h1 h2 h3 h4 => by
      rcases rep_get h1 with h1 | ⟨_, h1⟩
      · rcases rep_get h2 with h2 | ⟨_, h2⟩
        · exact h.nmd n n' c c' x x' hn h1 h2 h3 h4
        · cases h2
      · cases h1
    tabs := fun n h1 => by
      rcases rep_get h1 with h1 | ⟨h1, _⟩
      · exact h.tabs n h1
      · cases hh : G.T n with
        | none => rfl
        | some b => have := h.tlt n b hh; omega
    tlt := fun n x h1 => by have := h.tlt n x h1; simp; omega
    dd := h.dd
    kdle := h.kdle }
theorem Rel.pad {G : Gh} {x : St} {a : Act} {w : World} (h : Rel Γ G x a w) (k : Nat) : Rel Γ G (x.pad k) a w := by
  cases k with
  | zero => exact h
  | succ k => exact ⟨h.tm, h.wr.padded _ _, h.df, h.kh, h.kt⟩
theorem pad_free (x : St) : Free ops x.basis 0 (x.pad (padK ops)) := by
  intro j o _ ho hal
  have hj : j < ops.toList.length := by
    rcases Nat.lt_or_ge j ops.toList.length with h | h
    · exact h
    · have : ops.toList[j]? = some o := by simpa using ho
      rw [List.getElem?_eq_none h] at this
      cases this
  have h1 : ops.toList.take (j + 1) = ops.toList.take j ++ [o] := by
    rw [List.take_succ_eq_append_getElem hj]
    congr 2
    have : ops.toList[j]? = some o := by simpa using ho
    rw [List.getElem?_eq_getElem hj] at this
    exact Option.some.inj this
  have h2 : ((ops.toList.take j).filter allocs).length + 1 = ((ops.toList.take (j + 1)).filter allocs).length := by rw [h1]; simp [hal]
  have h3 : ((ops.toList.take (j + 1)).filter allocs).length ≤ padK ops := ((List.take_sublist _ _).filter _).length_le
  have b1 : x.ob.length ≤ x.basis := Nat.le_max_left _ _
  have b2 : x.nm.length ≤ x.basis := Nat.le_max_right _ _
  cases hp : padK ops with
  | zero => omega
  | succ k =>
    simp only [St.pad, slotOf]
    rw [hp] at h3
    rw [List.getElem?_append_right (by omega), List.getElem?_append_right (by omega), List.getElem?_replicate, List.getElem?_replicate, if_pos (by omega), if_pos (by omega)]
    exact ⟨rfl, rfl⟩
theorem SemC.of_pad {c : Code} {x x' : St} {e : Exit} {k : Nat} (h : SemC P Γ c (x.pad k) e x') : SemC P Γ c x e x' := fun ro G a w hr ho => h ro G a w (hr.pad k) ho

theorem evRegion_sound (hcf : CallsOk P Γ cf) (hfit : CallsFit cf) (hm : P.follows .mixedOrders = true) {id : Nat} {draw : Bool} {x : St} {e : Ex} {x' : St} (h : (evRegion P Γ cf ops draw x).run = some (e, x')) : SemC P Γ (.region id ops draw) x e.to x' := by
  unfold evRegion at h
  cases draw with
  | false =>
    simp only [Tr.run_bind, evReg_run] at h
    cases hc : chain P Γ cf ops x.basis ops.size 0 (x.pad (padK ops)) with
    | none => rw [hc] at h; cases h
    | some p =>
      rw [hc] at h
      cases h
      exact SemC.of_pad (SemC.region_chain hcf hfit (pad_free x) hc)
  | true =>
    simp only [] at h
    cases hB : Region.lexB .any ops with
    | false => rw [hB] at h; cases h
    | true =>
      rw [hB] at h
      simp only [Tr.run_bind, evReg_run] at h
      cases hc : chain P Γ cf ops x.basis ops.size 0 (x.pad (padK ops)) with
      | none => rw [hc] at h; cases h
      | some p =>
        rw [hc] at h
        simp only [Option.bind_some] at h
        cases hco : commAll ops p.2 with
        | false => rw [hco] at h; cases h
        | true =>
          rw [hco] at h
          cases h
          exact SemC.of_pad (SemC.region_draw hcf hfit hm hB (pad_free x) hc hco)

theorem evRange_sound (hcf : CallsOk P Γ cf) {g : Operand} {ps : Array Tmp} {as bd : Code} {x : St} {e : Ex} {x' : St} (h : (evRange P Γ cf g ps as bd x).run = some (e, x')) : SemC P Γ (.rangeFunc g ps as bd) x e.to x' := by
  unfold evRange at h
  split at h
  · rename_i f first cap hx
    split at h
    · cases h
    · rename_i hne
      split at h
      · rename_i out ho
        split at h
        · rename_i hY
          have key : out.chk = true ∧ e = .normal ∧ x' = { x with ob := out.eff.ob x.ob, nm := out.eff.nm x.nm } := by
            split at h
            · simp only [Tr.run] at h
              cases hc : out.chk <;> rw [hc] at h <;> simp [Tr.run] at h
              exact ⟨rfl, h.1.symm, h.2.symm⟩
            · split at h
              · rename_i hc
                simp [Tr.run] at h
                exact ⟨hc, h.1.symm, h.2.symm⟩
              · simp [Tr.run] at h
          obtain ⟨hchk, rfl, rfl⟩ := key
          obtain ⟨h1, hn⟩ := hcf _ _ _ _ _ ho hchk
          rcases hn with ⟨e, _⟩ | ⟨_, fn, h2, h3, h4⟩
          · exact absurd e (beq_ne hne)
          · exact SemC.rangeFunc hx h2 h3 h4 h1 hY
        · cases h
      · cases h
  · cases h
theorem evC_sound' (hcf : CallsOk P Γ cf) (hfit : CallsFit cf) (hm : P.follows .mixedOrders = true) : ∀ (n : Nat) (c : Code) (x : St) (e : Ex) (x' : St), (evC P Γ cf n c x).run = some (e, x') → SemC P Γ c x e.to x' ∧ ∀ b, c = .loop b → SemL P Γ b x e.to x'
  | 0, c, x, e, x', h => by cases h
  | n + 1, c, x, e, x', h => by
    have ihl := evC_sound' hcf hfit hm n
    have ih := fun c x e x' h => (ihl c x e x' h).1
    have hbind : ∀ {c : Code} {y : St} {f : Ex × St → Tr (Ex × St)} {r : Ex × St}, ((evC P Γ cf n c y).bind f).run = some r → ∃ p, (evC P Γ cf n c y).run = some p ∧ (f p).run = some r := fun {c y f r} hh => by
      rw [Tr.run_bind] at hh
      cases hp : (evC P Γ cf n c y).run with
      | none => rw [hp] at hh; cases hh
      | some p => rw [hp] at hh; exact ⟨p, rfl, hh⟩
    cases c with
    | skip => cases h; exact ⟨SemC.skip, fun b hb => by cases hb⟩
    | ret => cases h; exact ⟨SemC.ret, fun b hb => by cases hb⟩
    | exit id => cases h; exact ⟨SemC.exit, fun b hb => by cases hb⟩
    | region id ops draw => exact ⟨evRegion_sound hcf hfit hm h, fun b hb => by cases hb⟩
    | seq a b =>
      refine ⟨?_, fun b hb => by cases hb⟩
      obtain ⟨⟨e1, x1⟩, h1, h2⟩ := hbind h
      cases e1 with
      | normal => exact SemC.seq (ih a x .normal x1 h1) (ih b x1 e x' h2)
      | exit i => cases h2; exact SemC.seq_out (by simp [Ex.to]) (ih a x _ _ h1)
      | ret => cases h2; exact SemC.seq_out (by simp [Ex.to]) (ih a x _ _ h1)
    | cond q t f =>
      refine ⟨?_, fun b hb => by cases hb⟩
      simp only [evC] at h
      cases hq : (x.eval Γ q).bool? with
      | none => rw [hq] at h; cases h
      | some p =>
        obtain ⟨b, s⟩ := p
        rw [hq] at h
        intro ro G a w hr ho
        have hb := bool?_eq hq (hr.eval q)
        cases b
        · have h' : (evC P Γ cf n f x).run = some (e, x') := by cases s <;> exact h
          exact wpIn_cond_false hb (ih f x e x' h' ro G a w hr ho)
        · have h' : (evC P Γ cf n t x).run = some (e, x') := by cases s <;> exact h
          exact wpIn_cond_true hb (ih t x e x' h' ro G a w hr ho)
    | block id b =>
      refine ⟨?_, fun b hb => by cases hb⟩
      obtain ⟨⟨e1, x1⟩, h1, h2⟩ := hbind h
      cases e1 with
      | normal => cases h2; exact SemC.block (by simp [Ex.to]) (ih b x _ _ h1)
      | ret => cases h2; exact SemC.block (by simp [Ex.to]) (ih b x _ _ h1)
      | exit i =>
        simp only [] at h2
        split at h2
        · rename_i hi; subst hi; cases h2; exact SemC.block_exit (ih b x _ _ h1)
        · rename_i hi; cases h2; exact SemC.block (by simpa [Ex.to] using hi) (ih b x _ _ h1)
    | loop b =>
      have key : SemL P Γ b x e.to x' := by
        obtain ⟨⟨e1, x1⟩, h1, h2⟩ := hbind h
        cases e1 with
        | normal => exact SemL.next (ih b x .normal x1 h1) ((ihl (.loop b) x1 e x' h2).2 b rfl)
        | exit i => cases h2; exact SemL.out (by simp [Ex.to]) (ih b x _ _ h1)
        | ret => cases h2; exact SemL.out (by simp [Ex.to]) (ih b x _ _ h1)
      exact ⟨SemC.loop key, fun b' hb => by cases hb; exact key⟩
    | rangeFunc g ps as bd => exact ⟨evRange_sound hcf h, fun b hb => by cases hb⟩
    | _ => cases h
theorem evC_sound (hcf : CallsOk P Γ cf) (hfit : CallsFit cf) (hm : P.follows .mixedOrders = true) {n : Nat} {c : Code} {x : St} {e : Ex} {x' : St} (h : (evC P Γ cf n c x).run = some (e, x')) : SemC P Γ c x e.to x' := (evC_sound' hcf hfit hm n c x e x' h).1

/-! ### Functions -/
/-- What a function comes to. -/
def evF (P : Program) (Γ : Nat → Option V) (cf : CallF) (n : Nat) (f : FuncId) (args : List V) (ob : Ob) (nm : Nm) : Tr (V × St) :=
  match P.funcs[f]? with
  | none => .leaf none
  | some fn =>
    match fn.body with
    | none => .leaf none
    | some c =>
      if fn.name == "runtime.NumGoroutine" then .leaf none else
      (evC P Γ cf n c (St.start fn.ntmps args ob nm)).bind fun p =>
        match p.1 with
        | .exit _ => .leaf none
        | _ => match resV P p.2 fn.results.toList with | some v => .leaf (some (v, p.2)) | none => .leaf none
theorem evF_sound (hcf : CallsOk P Γ cf) (hfit : CallsFit cf) (hm : P.follows .mixedOrders = true) {n : Nat} {f : FuncId} {args : List V} {ob : Ob} {nm : Nm} {v : V} {x : St} (h : (evF P Γ cf n f args ob nm).run = some (v, x)) :
    SemF P Γ f args ob nm v x.ob x.nm ∧ ∃ fn, P.funcs[f]? = some fn ∧ fn.body.isSome = true ∧ (fn.name == "runtime.NumGoroutine") = false := by
  unfold evF at h
  cases hf : P.funcs[f]? with
  | none => rw [hf] at h; cases h
  | some fn =>
    rw [hf] at h
    simp only [] at h
    cases hb : fn.body with
    | none => rw [hb] at h; cases h
    | some c =>
      rw [hb] at h
      simp only [] at h
      split at h
      · cases h
      · rename_i hn
        refine ⟨?_, fn, rfl, by rw [hb]; rfl, by simpa using hn⟩
        rw [Tr.run_bind] at h
        cases hc : (evC P Γ cf n c (St.start fn.ntmps args ob nm)).run with
        | none => rw [hc] at h; cases h
        | some p =>
          obtain ⟨e, y⟩ := p
          rw [hc] at h
          simp only [Option.bind_some] at h
          have hs := evC_sound hcf hfit hm hc
          have key : ∀ v', resV P y fn.results.toList = some v' → (e = .ret ∨ e = .normal) → SemF P Γ f args ob nm v' y.ob y.nm := fun v' hv he =>
            SemF.of_body hf hb (by rcases he with rfl | rfl <;> simp [Ex.to]) hs hv
          cases e with
          | exit i => cases h
          | ret =>
            simp only [] at h
            cases hv : resV P y fn.results.toList with
            | none => rw [hv] at h; cases h
            | some v' => rw [hv] at h; cases h; exact key _ hv (.inl rfl)
          | normal =>
            simp only [] at h
            cases hv : resV P y fn.results.toList with
            | none => rw [hv] at h; cases h
            | some v' => rw [hv] at h; cases h; exact key _ hv (.inr rfl)
open Classical in
/-- What the function made for itself goes; what the value shows of it never changes from here on. -/
theorem SemF.drop {f : FuncId} {args : List V} {v v' : V} {ob1 : Ob} {nm1 : Nm} (h : SemF P Γ f args [] [] v ob1 nm1) (hc : v.cl (lendP ob1 nm1) = some v') : SemF P Γ f args [] [] v' [] [] := by
  intro G w cargs hw hr
  refine (h G w cargs hw hr).mono ?_
  rintro e w' ⟨cv, G1, rfl, hle, hv, hw1⟩
  have hH : ∀ o b, G.H o ≠ some b := fun o b hh => by have := (hw.hlt o b hh).1; simp at this
  have hT : ∀ n t, G.T n ≠ some t := fun n t hh => by have := hw.tlt n t hh; simp at this
  let M1 : Nat → Nat → Option Value := fun b off => if Lent G1 ob1 nm1 b then w'.cell? ⟨b, off, none⟩ else G1.M b off
  have hM : ∀ b off cv, G1.M b off = some cv → M1 b off = some cv := fun b off cv hm => by
    show (if _ then _ else _) = _
    split
    · exact hw1.m b off cv hm
    · exact hm
  let G2 : Gh := { M := M1, H := fun _ => none, T := fun _ => none, D := G1.D, kh := G1.kh, kt := G1.kt, w0 := G1.w0, M0 := G1.M0, kd := G1.kd }
  have hb0 : G1.bare.sub G2 := ⟨hM, (fun _ _ h => by cases h), (fun _ _ h => by cases h), (fun _ _ h => by cases h)⟩
  have hold : ∀ b, Lent G1 ob1 nm1 b → G1.w0.own b := fun b hb => by
    rcases hb with ⟨o, cs, h1, h2⟩ | ⟨n, c, x, h1, h2, rfl⟩
    · exact (hw1.hob o cs b h1 h2).1
    · exact (hw1.hnm n c x h1 h2).old
  refine ⟨cv, G2, rfl, ⟨⟨fun b off cv hm => hM b off cv (hle.m b off cv hm), fun o b hh => absurd hh (hH o b), fun n t hh => absurd hh (hT n t), hle.d⟩, hle.kh, hle.kt, hle.w0, hle.m0, hle.kd⟩,
    VRel.cl (lendP_cell ob1 nm1) hM (lendP_rel hw1 (fun b hb off => if_pos hb) hb0) hv hc, ?_⟩
  exact {
    m := fun b off cv hm => by
      have hm : (if Lent G1 ob1 nm1 b then w'.cell? ⟨b, off, none⟩ else G1.M b off) = some cv := hm
      split at hm
      · exact hm
      · exact hw1.m b off cv hm
    hob := fun o cs b h1 h2 => by simp at h1
    hlt := fun o b h1 => by cases h1
    habs := fun o h1 => rfl
    inj := fun o o' b h1 h2 => by cases h1
    hnm := fun n c x h1 h2 => by simp at h1
    hno := fun n c h1 => by simp at h1
    nmd := fun n n' c c' x x' _ h1 => by simp at h1
    tabs := fun n _ => rfl
    tlt := fun n t h1 => by cases h1
    dd := hw1.dd
    kdle := hw1.kdle
    gl := fun g v hg => (hw1.gl g v hg).mono' hb0.bare
    mold := fun b off hb => by
      show (if Lent G1 ob1 nm1 b then w'.cell? ⟨b, off, none⟩ else G1.M b off) = G1.M0 b off
      rw [if_neg (fun hl => hb (hold b hl))]
      exact hw1.mold b off hb
    os := hw1.os
    tape := hw1.tape
    output := hw1.output
    size := hw1.size
    block := hw1.block }
/-- A weaker value. -/
theorem SemF.weaken {f : FuncId} {args : List V} {v v' : V} {ob ob1 : Ob} {nm nm1 : Nm} (h : SemF P Γ f args ob nm v ob1 nm1) (hw : ∀ (G : Gh) (cv : Value), VRel G v cv → VRel G v' cv) : SemF P Γ f args ob nm v' ob1 nm1 :=
  fun G w cargs h1 h2 => (h G w cargs h1 h2).mono fun e w' ⟨cv, G1, h3, h4, h5, h6⟩ => ⟨cv, G1, h3, h4, hw _ _ h5, h6⟩

/-- The ways' values in one. -/
inductive MRes where
  | bad | dead | ok (c : Option Bool) (v : V)
def MRes.mg (b : Bool) : MRes → MRes → MRes
  | .bad, _ => .bad
  | _, .bad => .bad
  | .dead, .dead => .dead
  | .ok c v, .dead => .ok (some (match c with | none => b | some c => b && c)) v
  | .dead, .ok c v => .ok (some (match c with | none => !b | some c => !b && c)) v
  | .ok c v, .ok d u =>
    match mergeV b v u with
    | some z => .ok (match c, d with | none, none => none | some c, none => some (!b || c) | none, some d => some (b || d) | some c, some d => some (bif b then c else d)) z
    | none => .bad
def mergeT : Tr (V × St) → MRes
  | .leaf none => .dead
  | .leaf (some p) => match p.1.cl (lendP p.2.ob p.2.nm) with | some v => .ok none v | none => .bad
  | .br b x y => (mergeT x).mg b (mergeT y)
theorem mergeT_run : ∀ (t : Tr (V × St)) (c : Option Bool) (v : V), mergeT t = .ok c v → c.getD true = true → ∃ u s u', t.run = some (u, s) ∧ u.cl (lendP s.ob s.nm) = some u' ∧ ∀ (G : Gh) (cv : Value), VRel G u' cv → VRel G v cv
  | .leaf none, c, v, h, _ => by cases h
  | .leaf (some p), c, v, h, _ => by
    simp only [mergeT] at h
    split at h
    · rename_i q hq; cases h; exact ⟨p.1, p.2, _, rfl, hq, fun _ _ h => h⟩
    · cases h
  | .br b x y, c, v, h, hc => by
    simp only [mergeT] at h
    cases hx : mergeT x with
    | bad => rw [hx] at h; cases h
    | dead =>
      cases hy : mergeT y with
      | bad => rw [hx, hy] at h; cases h
      | dead => rw [hx, hy] at h; cases h
      | ok d u =>
        rw [hx, hy] at h
        cases h
        have hc' : b = false ∧ d.getD true = true := by cases d <;> simpa using hc
        obtain ⟨rfl, hd⟩ := hc'
        exact mergeT_run y d _ hy hd
    | ok d u =>
      cases hy : mergeT y with
      | bad => rw [hx, hy] at h; cases h
      | dead =>
        rw [hx, hy] at h
        cases h
        have hc' : b = true ∧ d.getD true = true := by cases d <;> simpa using hc
        obtain ⟨rfl, hd⟩ := hc'
        exact mergeT_run x d _ hx hd
      | ok d2 u2 =>
        rw [hx, hy] at h
        simp only [MRes.mg] at h
        split at h
        · rename_i z hz
          cases h
          have hm := mergeV_ok b u u2 v hz
          have hcc : (bif b then d.getD true else d2.getD true) = true := by
            cases b <;> cases d <;> cases d2 <;> first | rfl | simpa using hc
          cases b with
          | true =>
            obtain ⟨q, s, q', h1, h2, h3⟩ := mergeT_run x d u hx hcc
            exact ⟨q, s, q', h1, h2, fun G cv hr => hm G cv (h3 G cv hr)⟩
          | false =>
            obtain ⟨q, s, q', h1, h2, h3⟩ := mergeT_run y d2 u2 hy hcc
            exact ⟨q, s, q', h1, h2, fun G cv hr => hm G cv (h3 G cv hr)⟩
        · cases h

/-- Functions that are known by a contract. -/
abbrev Orc := FuncId → List V → Option (Option Bool × V)
def OrcOk (P : Program) (Γ : Nat → Option V) (orc : Orc) : Prop :=
  ∀ f args c v, orc f args = some (c, v) → c.getD true = true → SemF P Γ f args [] [] v [] [] ∧ ∃ fn, P.funcs[f]? = some fn ∧ fn.body.isSome = true ∧ (fn.name == "runtime.NumGoroutine") = false
mutual
def V.refs : V → List Nat
  | .ptr o _ => [o]
  | .sl o _ _ => [o]
  | .pel xs _ _ => V.refsL xs
  | .lst _ xs => V.refsL xs
  | .fn _ a c => V.refsL a ++ V.refsL c
  | .ifc _ x => V.refs x
  | .agg cs => V.refsL cs
  | .tup cs => V.refsL cs
  | .yl tm _ _ _ => V.refsL tm
  | _ => []
def V.refsL : List V → List Nat
  | [] => []
  | v :: vs => V.refs v ++ V.refsL vs
end
mutual
/-- The buffers that a value names. -/
def V.nrefs : V → List Nat
  | .bs _ n _ _ => [n]
  | .bp n _ _ => [n]
  | .pel xs _ _ => V.nrefsL xs
  | .lst _ xs => V.nrefsL xs
  | .fn _ a c => V.nrefsL a ++ V.nrefsL c
  | .ifc _ x => V.nrefs x
  | .agg cs => V.nrefsL cs
  | .tup cs => V.nrefsL cs
  | .yl tm _ _ _ => V.nrefsL tm
  | _ => []
def V.nrefsL : List V → List Nat
  | [] => []
  | v :: vs => V.nrefs v ++ V.nrefsL vs
end
theorem refsL_mem {o : Nat} : ∀ {l : List V} {v : V}, v ∈ l → o ∈ v.refs → o ∈ V.refsL l
  | x :: l, v, hv, ho => by
    simp only [V.refsL, List.mem_append]
    rcases List.mem_cons.1 hv with rfl | hv
    · exact .inl ho
    · exact .inr (refsL_mem hv ho)
theorem nrefsL_mem {o : Nat} : ∀ {l : List V} {v : V}, v ∈ l → o ∈ v.nrefs → o ∈ V.nrefsL l
  | x :: l, v, hv, ho => by
    simp only [V.nrefsL, List.mem_append]
    rcases List.mem_cons.1 hv with rfl | hv
    · exact .inl ho
    · exact .inr (nrefsL_mem hv ho)
mutual
theorem cl_same {p p' : V → Option V} (hsl : ∀ o off len, p (.sl o off len) = p' (.sl o off len) ∧ p (.bp o off len) = p' (.bp o off len)) : ∀ (v : V), (∀ o off, o ∈ v.refs → p (.ptr o off) = p' (.ptr o off)) → (∀ sy n off len, n ∈ v.nrefs → p (.bs sy n off len) = p' (.bs sy n off len)) → v.cl p = v.cl p'
  | .ptr o off, h, _ => by simp only [V.cl, h o off (by simp [V.refs])]
  | .pel xs k off, h, g => by simp only [V.cl, clL_same hsl xs (fun o off ho => h o off (by simpa [V.refs] using ho)) (fun sy o off len ho => g sy o off len (by simpa [V.nrefs] using ho))]
  | .lst t xs, h, g => by simp only [V.cl, clL_same hsl xs (fun o off ho => h o off (by simpa [V.refs] using ho)) (fun sy o off len ho => g sy o off len (by simpa [V.nrefs] using ho))]
  | .fn f a c, h, g => by simp only [V.cl, clL_same hsl a (fun o off ho => h o off (by simp [V.refs, ho])) (fun sy o off len ho => g sy o off len (by simp [V.nrefs, ho])), clL_same hsl c (fun o off ho => h o off (by simp [V.refs, ho])) (fun sy o off len ho => g sy o off len (by simp [V.nrefs, ho]))]
  | .ifc t x, h, g => by simp only [V.cl, cl_same hsl x (fun o off ho => h o off (by simpa [V.refs] using ho)) (fun sy o off len ho => g sy o off len (by simpa [V.nrefs] using ho))]
  | .agg cs, h, g => by simp only [V.cl, clL_same hsl cs (fun o off ho => h o off (by simpa [V.refs] using ho)) (fun sy o off len ho => g sy o off len (by simpa [V.nrefs] using ho))]
  | .tup cs, h, g => by simp only [V.cl, clL_same hsl cs (fun o off ho => h o off (by simpa [V.refs] using ho)) (fun sy o off len ho => g sy o off len (by simpa [V.nrefs] using ho))]
  | .bs sy n off len, _, g => by simp only [V.cl, g sy n off len (by simp [V.nrefs])]
  | .bp o off len, _, _ => by simp only [V.cl, (hsl o off len).2]
  | .slst _ _ _, _, _ => by simp only [V.cl]
  | .sl o off len, _, _ => by simp only [V.cl, (hsl o off len).1]
  | .b _, _, _ => rfl
  | .i _ _, _, _ => rfl
  | .s _, _, _ => rfl
  | .sb _, _, _ => rfl
  | .si _ _, _, _ => rfl
  | .ss _, _, _ => rfl
  | .nil, _, _ => rfl
  | .nilfn, _, _ => rfl
  | .nilifc, _, _ => rfl
  | .yl _ _ _ _, _, _ => rfl
  | .any, _, _ => rfl
theorem clL_same {p p' : V → Option V} (hsl : ∀ o off len, p (.sl o off len) = p' (.sl o off len) ∧ p (.bp o off len) = p' (.bp o off len)) : ∀ (l : List V), (∀ o off, o ∈ V.refsL l → p (.ptr o off) = p' (.ptr o off)) → (∀ sy n off len, n ∈ V.nrefsL l → p (.bs sy n off len) = p' (.bs sy n off len)) → V.clL p l = V.clL p' l
  | [], _, _ => rfl
  | v :: vs, h, g => by simp only [V.clL, cl_same hsl v (fun o off ho => h o off (by simp [V.refsL, ho])) (fun sy o off len ho => g sy o off len (by simp [V.nrefsL, ho])), clL_same hsl vs (fun o off ho => h o off (by simp [V.refsL, ho])) (fun sy o off len ho => g sy o off len (by simp [V.nrefsL, ho]))]
end
theorem clL_each {p p' : V → Option V} : ∀ {l : List V}, (∀ v ∈ l, v.cl p = v.cl p') → V.clL p l = V.clL p' l
  | [], _ => rfl
  | v :: l, h => by simp only [V.clL, h v (by simp), clL_each (l := l) (fun u hu => h u (by simp [hu]))]
/-- What objects and buffers hold. -/
def obCells (ob : Ob) (os : List Nat) : List V := os.flatMap fun (o : Nat) => match ob[o]? with | some (some cs) => cs | _ => []
def nmCells (nm : Nm) (ns : List Nat) : List V := ns.flatMap fun (n : Nat) => match nm[n]? with | some (some (.live (.cs _ xs))) => xs | _ => []
/-- The objects and buffers that values lead to, so deep. -/
def dO (ob : Ob) (nm : Nm) : Nat → List V → List Nat
  | 0, _ => []
  | k + 1, l => V.refsL l ++ dO ob nm k (obCells ob (V.refsL l) ++ nmCells nm (V.nrefsL l))
def dN (ob : Ob) (nm : Nm) : Nat → List V → List Nat
  | 0, _ => []
  | k + 1, l => V.nrefsL l ++ dN ob nm k (obCells ob (V.refsL l) ++ nmCells nm (V.nrefsL l))
theorem obCells_same {ob ob' : Ob} : ∀ {os : List Nat}, (∀ o ∈ os, ob[o]? = ob'[o]?) → obCells ob' os = obCells ob os
  | [], _ => rfl
  | o :: os, h => by
    have := obCells_same (os := os) fun x hx => h x (by simp [hx])
    simp only [obCells, List.flatMap_cons] at this ⊢
    rw [this, h o (by simp)]
theorem nmCells_same {nm nm' : Nm} : ∀ {os : List Nat}, (∀ o ∈ os, nm[o]? = nm'[o]?) → nmCells nm' os = nmCells nm os
  | [], _ => rfl
  | o :: os, h => by
    have := nmCells_same (os := os) fun x hx => h x (by simp [hx])
    simp only [nmCells, List.flatMap_cons] at this ⊢
    rw [this, h o (by simp)]
theorem lend_same {ob ob' : Ob} {nm nm' : Nm} : ∀ (k : Nat) (l : List V), (∀ o ∈ dO ob nm k l, ob[o]? = ob'[o]?) → (∀ n ∈ dN ob nm k l, nm[n]? = nm'[n]?) →
    (∀ v ∈ l, v.cl (lendN ob nm k) = v.cl (lendN ob' nm' k)) ∧ dO ob' nm' k l = dO ob nm k l ∧ dN ob' nm' k l = dN ob nm k l
  | 0, l, _, _ => ⟨fun v _ => rfl, rfl, rfl⟩
  | k + 1, l, h, g => by
    have ho : ∀ o ∈ V.refsL l, ob[o]? = ob'[o]? := fun o h1 => h o (by simp [dO, h1])
    have hn : ∀ o ∈ V.nrefsL l, nm[o]? = nm'[o]? := fun o h1 => g o (by simp [dN, h1])
    have e1 := obCells_same ho
    have e2 := nmCells_same hn
    obtain ⟨i1, i2, i3⟩ := lend_same k (obCells ob (V.refsL l) ++ nmCells nm (V.nrefsL l)) (fun o h1 => h o (by simp only [dO, List.mem_append]; exact .inr h1)) (fun o h1 => g o (by simp only [dN, List.mem_append]; exact .inr h1))
    refine ⟨fun v hv => cl_same (p := lendN ob nm (k + 1)) (p' := lendN ob' nm' (k + 1)) (fun _ _ _ => ⟨rfl, rfl⟩) v (fun o off h1 => ?_) (fun sy n off len h1 => ?_), by simp only [dO, e1, e2, i2], by simp only [dN, e1, e2, i3]⟩
    · have hm := refsL_mem hv h1
      simp only [lendN, ← ho o hm]
      cases hob : ob[o]? with
      | none => rfl
      | some c =>
        cases c with
        | none => rfl
        | some cs =>
          have : V.clL (lendN ob nm k) cs = V.clL (lendN ob' nm' k) cs := clL_each fun u hu => i1 u (List.mem_append.2 (.inl (List.mem_flatMap.2 ⟨o, hm, by rw [hob]; exact hu⟩)))
          simp only [this]
    · have hm := nrefsL_mem hv h1
      simp only [lendN, ← hn n hm]
      cases hnm : nm[n]? with
      | none => rfl
      | some c =>
        cases c with
        | none => rfl
        | some c =>
          cases c with
          | dead => rfl
          | live c =>
            cases c with
            | arr ty l => rfl
            | cs sz xs =>
              have : V.clL (lendN ob nm k) xs = V.clL (lendN ob' nm' k) xs := clL_each fun u hu => i1 u (List.mem_append.2 (.inr (List.mem_flatMap.2 ⟨n, hm, by rw [hnm]; exact hu⟩)))
              simp only [lendB, this]
theorem clL_refs {ob ob' : Ob} {nm nm' : Nm} (l : List V) (h : ∀ o ∈ dO ob nm 3 l, ob[o]? = ob'[o]?) (g : ∀ n ∈ dN ob nm 3 l, nm[n]? = nm'[n]?) : V.clL (lendP ob nm) l = V.clL (lendP ob' nm') l ∧ dO ob' nm' 3 l = dO ob nm 3 l ∧ dN ob' nm' 3 l = dN ob nm 3 l := by
  obtain ⟨h1, h2, h3⟩ := lend_same 3 l h g
  exact ⟨clL_each h1, h2, h3⟩

mutual
/-- Nothing taken for known. -/
def V.sy : V → V
  | .b x => .sb x
  | .i k n => .si k n
  | .s x => .ss x
  | .pel xs k off => .pel (V.syL xs) k off
  | .lst t xs => .lst t (V.syL xs)
  | .fn f a c => .fn f (V.syL a) (V.syL c)
  | .ifc t x => .ifc t (V.sy x)
  | .agg cs => .agg (V.syL cs)
  | .tup cs => .tup (V.syL cs)
  | .sb x => .sb x
  | .si k n => .si k n
  | .ss x => .ss x
  | .nil => .nil
  | .ptr o off => .ptr o off
  | .sl o off n => .sl o off n
  | .slst t ty l => .slst t ty l
  | .bs sy n off len => .bs true n off len
  | .bp n j off => .bp n j off
  | .nilfn => .nilfn
  | .nilifc => .nilifc
  | .yl tm ps as bd => .yl tm ps as bd
  | .any => .any
def V.syL : List V → List V
  | [] => []
  | v :: vs => V.sy v :: V.syL vs
end
theorem syL_map : ∀ (l : List V), V.syL l = l.map V.sy
  | [] => rfl
  | v :: vs => by simp only [V.syL, List.map_cons, syL_map vs]
theorem sy_cells (v : V) : v.sy.cells = v.cells.map V.sy := by cases v <;> simp [V.sy, V.cells, syL_map]
theorem sy_flat (xs : List V) : flat (xs.map V.sy) = (flat xs).map V.sy := by
  induction xs with
  | nil => rfl
  | cons x xs ih => rw [List.map_cons, flat_cons, flat_cons, List.map_append, ih, sy_cells]
theorem map_get {α β : Type} {f : α → β} {l : List α} {j : Nat} {b : β} (h : (l.map f)[j]? = some b) : ∃ a, l[j]? = some a ∧ f a = b := by
  rw [List.getElem?_map, Option.map_eq_some_iff] at h
  exact h
theorem VRel.sy {G : Gh} {v : V} {cv : Value} (h : VRel G v cv) : VRel G v.sy cv := by
  induction h with
  | b x => exact .sb x
  | i k n => exact .si k n
  | s x => exact .ss x
  | sb x => exact .sb x
  | si k n => exact .si k n
  | ss x => exact .ss x
  | nil => exact .nil
  | ptr h => exact .ptr h
  | sl h hc => exact .sl h hc
  | nilfn => exact .nilfn
  | nilifc => exact .nilifc
  | any v => exact .any v
  | slst h ih => simp only [V.sy]; exact .slst h
  | bs0 sy n off => exact .bs0 true n off
  | bs1 sy n off b o => exact .bs1 true n off b o
  | bs h hl => exact .bs h hl
  | bp h => exact .bp h
  | yl h hs hl ht ih => exact .yl h hs hl ht
  | ifc h ih => exact .ifc ih
  | lst0 t => simp only [V.sy, V.syL]; exact .lst0 t
  | lst1 p cap => simp only [V.sy, V.syL]; exact .lst1 p cap
  | @lst t xs b off cap sz cvs hsz hl hm hv hc ht ih =>
    simp only [V.sy, syL_map]
    rw [← List.length_map (f := V.sy)]
    refine .lst (sz := sz) (cvs := cvs) (fun x hx => ?_) (by rw [hl, sy_flat, List.length_map]) hm (fun j v cv h1 h2 => ?_) (by simpa using hc) (by simpa using ht)
    · obtain ⟨z, hz, rfl⟩ := List.mem_map.1 hx
      rw [sy_cells, List.length_map]
      exact hsz z hz
    · rw [sy_flat] at h1
      obtain ⟨z, hz, rfl⟩ := map_get h1
      exact ih j z cv hz h2
  | @pel xs k off b o0 sz cvs hsz hl hm hv ih =>
    simp only [V.sy, syL_map]
    refine .pel (sz := sz) (cvs := cvs) (fun x hx => ?_) (by rw [hl, sy_flat, List.length_map]) hm (fun j v cv h1 h2 => ?_)
    · obtain ⟨z, hz, rfl⟩ := List.mem_map.1 hx
      rw [sy_cells, List.length_map]
      exact hsz z hz
    · rw [sy_flat] at h1
      obtain ⟨z, hz, rfl⟩ := map_get h1
      exact ih j z cv hz h2
  | @fn f xs ys a c ha hc h1 h2 i1 i2 =>
    simp only [V.sy, syL_map]
    refine .fn (by rw [ha, List.length_map]) (by rw [hc, List.length_map]) (fun j v cv g1 g2 => ?_) (fun j v cv g1 g2 => ?_)
    · obtain ⟨z, hz, rfl⟩ := map_get g1
      exact i1 j z cv hz g2
    · obtain ⟨z, hz, rfl⟩ := map_get g1
      exact i2 j z cv hz g2
  | @agg cs c hl h1 ih =>
    simp only [V.sy, syL_map]
    refine .agg (by rw [hl, List.length_map]) (fun j v cv g1 g2 => ?_)
    obtain ⟨z, hz, rfl⟩ := map_get g1
    exact ih j z cv hz g2
  | @tup cs c hl h1 ih =>
    simp only [V.sy, syL_map]
    refine .tup (by rw [hl, List.length_map]) (fun j v cv g1 g2 => ?_)
    obtain ⟨z, hz, rfl⟩ := map_get g1
    exact ih j z cv hz g2
theorem Rels.sy {G : Gh} {vs : List V} {cvs : List Value} (h : Rels G vs cvs) : Rels G (V.syL vs) cvs := by
  rw [syL_map]
  refine ⟨by rw [h.1, List.length_map], fun j v cv h1 h2 => ?_⟩
  obtain ⟨z, hz, rfl⟩ := map_get h1
  exact (h.2 j z cv hz h2).sy
theorem SemF.of_sy {f : FuncId} {args : List V} {ob ob' : Ob} {nm nm' : Nm} {v : V} (h : SemF P Γ f (V.syL args) ob nm v ob' nm') : SemF P Γ f args ob nm v ob' nm' := fun G w cargs hw hr => h G w cargs hw hr.sy

def outC (c : Option Bool) (v : V) (e : Eff) : Out :=
  match c with
  | none => ⟨true, false, v, e⟩
  | some b => ⟨b, true, v, e⟩
theorem outC_eff (c : Option Bool) (v : V) (e : Eff) : (outC c v e).eff = e := by cases c <;> rfl
theorem outC_v (c : Option Bool) (v : V) (e : Eff) : (outC c v e).v = v := by cases c <;> rfl
theorem outC_chk (c : Option Bool) (v : V) (e : Eff) : (outC c v e).chk = c.getD true := by cases c <;> rfl
theorem OrcOk.none : OrcOk P Γ (fun _ _ => Option.none) := fun f args c v h => by cases h
/-- A contract more. -/
theorem OrcOk.cons {orc : Orc} (h : OrcOk P Γ orc) (f0 : FuncId) (g : List V → Option (Option Bool × V)) (fn : Func) (hf : P.funcs[f0]? = some fn) (hb : fn.body.isSome = true) (hn : (fn.name == "runtime.NumGoroutine") = false)
    (hg : ∀ args c v, g args = some (c, v) → c.getD true = true → SemF P Γ f0 args [] [] v [] []) : OrcOk P Γ (fun f args => if f = f0 then g args else orc f args) := by
  intro f args c v hv hc
  simp only at hv
  split at hv
  · rename_i he; subst he; exact ⟨hg args c v hv hc, fn, hf, hb, hn⟩
  · exact h f args c v hv hc
end
end Go.Proofs.Ytnjjkobijjdnbaa

/- One way through a decision tree; contracts by ways. -/
set_option linter.unusedVariables false
set_option linter.unusedSimpArgs false
namespace Go.Proofs.Ytnjjkobijjdnbaa
open Go

/-- The end of the way that the decisions take. -/
def Tr.path {α : Type} : Tr α → List Bool → Option α
  | .leaf x, [] => x
  | .leaf _, _ :: _ => none
  | .br _ _ _, [] => none
  | .br _ x y, d :: ds => match d with | true => x.path ds | false => y.path ds
/-- What is decided along the way. -/
def Tr.conds {α : Type} : Tr α → List Bool → List Bool
  | .br b x y, d :: ds => b :: (match d with | true => x.conds ds | false => y.conds ds)
  | _, _ => []
theorem Tr.run_path {α : Type} : ∀ (t : Tr α) (ds : List Bool) (a : α), t.path ds = some a → t.conds ds = ds → t.run = some a
  | .leaf x, [], a, h, _ => h
  | .leaf x, d :: ds, a, h, _ => by cases h
  | .br b x y, [], a, h, _ => by cases h
  | .br b x y, d :: ds, a, h, hc => by
    simp only [Tr.conds, List.cons.injEq] at hc
    obtain ⟨rfl, hc⟩ := hc
    cases b with
    | true => exact Tr.run_path x ds a h hc
    | false => exact Tr.run_path y ds a h hc
def valO (x : Option (V × St)) : Option V := x.bind fun p => p.1.cl (lendP p.2.ob p.2.nm)
section
variable {P : Program} {Γ : Nat → Option V}
/-- Arguments that stand for the same. -/
theorem SemF.args {f : FuncId} {a b : List V} {ob ob' : Ob} {nm nm' : Nm} {v : V} (h : SemF P Γ f a ob nm v ob' nm') (hab : ∀ (G : Gh) (c : List Value), Rels G b c → Rels G a c) : SemF P Γ f b ob nm v ob' nm' := fun G w cargs hw hr => h G w cargs hw (hab G _ hr)
theorem SemF.sy_args {f : FuncId} {a : List V} {ob ob' : Ob} {nm nm' : Nm} {v : V} (h : SemF P Γ f a ob nm v ob' nm') (ha : ∀ (G : Gh) (c : List Value), Rels G (V.syL a) c → Rels G a c) : SemF P Γ f (V.syL a) ob nm v ob' nm' := h.args ha
theorem Rels.head {G : Gh} {v v' : V} {l l' : List V} (h : ∀ c, VRel G v c → VRel G v' c) (k : ∀ c, Rels G l c → Rels G l' c) : ∀ c, Rels G (v :: l) c → Rels G (v' :: l') c := fun c hc => by
  match c, hc.1 with
  | x :: xs, _ => exact Rels.cons (h x (hc.2 0 v x rfl rfl)) (k xs (by simpa using hc.drop 1))
theorem VRel.known_i {G : Gh} {k : IntKind} {n : Int} : ∀ c, VRel G (.si k n) c → VRel G (.i k n) c := fun c h => by cases h; exact .i _ _
theorem VRel.known_b {G : Gh} {x : Bool} : ∀ c, VRel G (.sb x) c → VRel G (.b x) c := fun c h => by cases h; exact .b _
theorem VRel.known_agg {G : Gh} {l l' : List V} (h : ∀ c, Rels G l c → Rels G l' c) : ∀ c, VRel G (.agg l) c → VRel G (.agg l') c := fun c hc => by
  obtain ⟨x, rfl, hx⟩ := hc.agg_form
  exact VRel.mk_agg (h _ hx)
end
end Go.Proofs.Ytnjjkobijjdnbaa

/- The evaluator, the ways through a region joined where it ends: what the rest does not ask for is forgotten. -/
set_option linter.unusedVariables false
set_option linter.unusedSimpArgs false
namespace Go.Proofs.Ytnjjkobijjdnbaa
open Go

section
variable {P : Program} {Γ : Nat → Option V} {cf : CallF} {ops : Array Oper} {base : Nat}
/-- An effect that leaves the memory alone. -/
def Eff.quiet : Option Eff → Bool
  | none => true
  | some e => e.wo.isEmpty && e.wn.isEmpty && e.xo.isEmpty && e.xn.isEmpty && e.blk.isNone
theorem Eff.quiet_ob {e : Eff} (h : Eff.quiet (some e) = true) (ob : Ob) (nm : Nm) : e.ob ob = ob ∧ e.nm nm = nm := by
  simp [Eff.quiet] at h
  obtain ⟨⟨⟨⟨h1, h2⟩, h3⟩, h4⟩, h5⟩ := h
  simp [Eff.ob, Eff.nm, h1, h2, h3, h4, h5, setsO, setsN]
def dsts (ops : Array Oper) : List Nat := ops.toList.filterMap (·.dst)
theorem mem_dsts {i : Nat} {o : Oper} {d : Nat} (h : ops[i]? = some o) (hd : o.dst = some d) : d ∈ dsts ops :=
  List.mem_filterMap.2 ⟨o, List.mem_of_getElem? (i := i) (by simpa using h), hd⟩
theorem put_frame {x : St} {dd : Option Nat} {v : V} : (x.put dd v).tm.length = x.tm.length ∧ (∀ d, dd ≠ some d → (x.put dd v).tm[d]? = x.tm[d]?) ∧ (x.put dd v).ob = x.ob ∧ (x.put dd v).nm = x.nm := by
  cases dd with
  | none => exact ⟨rfl, fun _ _ => rfl, rfl, rfl⟩
  | some t => exact ⟨by simp [St.put], fun d hd => by simp only [St.put]; exact List.getElem?_set_ne (fun e => hd (by rw [e])), rfl, rfl⟩
theorem stp_frame {i : Nat} {x x' : St} {ef : Option Eff} (h : stp P Γ cf ops base i x = some (x', ef)) :
    x'.tm.length = x.tm.length ∧ (∀ d, d ∉ dsts ops → x'.tm[d]? = x.tm[d]?) ∧ (Eff.quiet ef = true → x'.ob = x.ob ∧ x'.nm = x.nm) := by
  unfold stp at h
  split at h
  · cases h; exact ⟨rfl, fun _ _ => rfl, fun _ => ⟨rfl, rfl⟩⟩
  · rename_i o ho
    have hd : ∀ d, d ∉ dsts ops → o.dst ≠ some d := fun d hd e => hd (mem_dsts ho e)
    split at h
    · cases h
    · cases h
      have f := put_frame (x := x) (dd := o.dst) (v := .tup [])
      exact ⟨f.1, fun d k => f.2.1 d (hd d k), fun _ => f.2.2⟩
    · split at h
      · cases h
      · rename_i out he
        split at h
        · cases h
          have f := put_frame (x := { x with ob := out.eff.ob x.ob, nm := out.eff.nm x.nm }) (dd := o.dst) (v := litG (isGd ops i) out.v)
          refine ⟨f.1, fun d k => f.2.1 d (hd d k), fun hq => ?_⟩
          have e1 : (x.after out o.dst (litG (isGd ops i) out.v)).ob = out.eff.ob x.ob := f.2.2.1
          have e2 : (x.after out o.dst (litG (isGd ops i) out.v)).nm = out.eff.nm x.nm := f.2.2.2
          rw [e1, e2]
          exact Eff.quiet_ob hq _ _
        · cases h
theorem put_k (x : St) (d : Option Nat) (v : V) : (x.put d v).kh = x.kh ∧ (x.put d v).kt = x.kt := by cases d <;> exact ⟨rfl, rfl⟩
theorem stp_k {i : Nat} {x x' : St} {ef : Option Eff} (h : stp P Γ cf ops base i x = some (x', ef)) : x'.kh = x.kh ∧ x'.kt = x.kt := by
  unfold stp at h
  split at h
  · cases h; exact ⟨rfl, rfl⟩
  · split at h
    · cases h
    · cases h; exact put_k _ _ _
    · split at h
      · cases h
      · split at h
        · cases h; exact put_k _ _ _
        · cases h
theorem chain_k : ∀ (n i : Nat) {x x' : St} {es : List (Option Eff)}, chain P Γ cf ops base n i x = some (x', es) → x'.kh = x.kh ∧ x'.kt = x.kt
  | 0, i, x, x', es, h => by cases h; exact ⟨rfl, rfl⟩
  | n + 1, i, x, x', es, h => by
    simp only [chain] at h
    split at h
    · cases h
    · rename_i x1 ef h1
      split at h
      · cases h
      · rename_i x2 es' h2
        cases h
        have a := stp_k h1
        have b := chain_k n (i + 1) h2
        exact ⟨b.1.trans a.1, b.2.trans a.2⟩
theorem chain_frame : ∀ (n i : Nat) {x x' : St} {es : List (Option Eff)}, chain P Γ cf ops base n i x = some (x', es) →
    x'.tm.length = x.tm.length ∧ (∀ d, d ∉ dsts ops → x'.tm[d]? = x.tm[d]?) ∧ (es.all Eff.quiet = true → x'.ob = x.ob ∧ x'.nm = x.nm)
  | 0, i, x, x', es, h => by cases h; exact ⟨rfl, fun _ _ => rfl, fun _ => ⟨rfl, rfl⟩⟩
  | n + 1, i, x, x', es, h => by
    simp only [chain] at h
    split at h
    · cases h
    · rename_i x1 ef h1
      split at h
      · cases h
      · rename_i x2 es' h2
        cases h
        have f := stp_frame h1
        have g := chain_frame n (i + 1) h2
        refine ⟨g.1.trans f.1, fun d hd => (g.2.1 d hd).trans (f.2.1 d hd), fun hq => ?_⟩
        simp only [List.all_cons, Bool.and_eq_true] at hq
        exact ⟨(g.2.2 hq.2).1.trans (f.2.2 hq.1).1, (g.2.2 hq.2).2.trans (f.2.2 hq.1).2⟩

/-- The kept slots' values at a way's end. -/
def keptV (lv : List Nat) (s : St) : V := .tup (lv.map fun d => (s.tm[d]?).getD .any)
def endOk (draw : Bool) (ops : Array Oper) (es : List (Option Eff)) : Bool := es.all Eff.quiet && (match draw with | true => commAll ops es | false => true)
/-- The ways in one. -/
def jm (draw : Bool) (ops : Array Oper) (lv : List Nat) : Tr (St × List (Option Eff)) → MRes
  | .leaf none => .dead
  | .leaf (some p) => match endOk draw ops p.2 with | true => .ok none (keptV lv p.1) | false => .bad
  | .br b x y => (jm draw ops lv x).mg b (jm draw ops lv y)
theorem jm_run {draw : Bool} {lv : List Nat} : ∀ (t : Tr (St × List (Option Eff))) (c : Option Bool) (v : V), jm draw ops lv t = .ok c v → c.getD true = true → ∃ s es, t.run = some (s, es) ∧ endOk draw ops es = true ∧ ∀ (G : Gh) (cv : Value), VRel G (keptV lv s) cv → VRel G v cv
  | .leaf none, c, v, h, _ => by cases h
  | .leaf (some p), c, v, h, _ => by
    simp only [jm] at h
    split at h
    · rename_i hq; cases h; exact ⟨p.1, p.2, rfl, hq, fun _ _ h => h⟩
    · cases h
  | .br b x y, c, v, h, hc => by
    simp only [jm] at h
    cases hx : jm draw ops lv x with
    | bad => rw [hx] at h; cases h
    | dead =>
      cases hy : jm draw ops lv y with
      | bad => rw [hx, hy] at h; cases h
      | dead => rw [hx, hy] at h; cases h
      | ok d u =>
        rw [hx, hy] at h
        cases h
        have hc' : b = false ∧ d.getD true = true := by cases d <;> simpa using hc
        obtain ⟨rfl, hd⟩ := hc'
        exact jm_run y d _ hy hd
    | ok d u =>
      cases hy : jm draw ops lv y with
      | bad => rw [hx, hy] at h; cases h
      | dead =>
        rw [hx, hy] at h
        cases h
        have hc' : b = true ∧ d.getD true = true := by cases d <;> simpa using hc
        obtain ⟨rfl, hd⟩ := hc'
        exact jm_run x d _ hx hd
      | ok d2 u2 =>
        rw [hx, hy] at h
        simp only [MRes.mg] at h
        split at h
        · rename_i z hz
          cases h
          have hm := mergeV_ok b u u2 v hz
          have hcc : (bif b then d.getD true else d2.getD true) = true := by
            cases b <;> cases d <;> cases d2 <;> first | rfl | simpa using hc
          cases b with
          | true =>
            obtain ⟨s, es, h1, h2, h3⟩ := jm_run x d u hx hcc
            exact ⟨s, es, h1, h2, fun G cv hr => hm G cv (h3 G cv hr)⟩
          | false =>
            obtain ⟨s, es, h1, h2, h3⟩ := jm_run y d2 u2 hy hcc
            exact ⟨s, es, h1, h2, fun G cv hr => hm G cv (h3 G cv hr)⟩
        · cases h

/-- The slots behind a joined region. -/
def setAny (ds : List Nat) (l : List V) : List V := ds.foldl (fun l d => l.set d .any) l
def setVs : List Nat → List V → List V → List V
  | d :: ds, v :: vs, l => setVs ds vs (l.set d v)
  | _, _, l => l
def RelX (G : Gh) (l : List V) (cv : List Value) (D : List Nat) : Prop := cv.length = l.length ∧ ∀ (j : Nat) (v : V) (c : Value), j ∉ D → l[j]? = some v → cv[j]? = some c → VRel G v c
theorem RelX.any {G : Gh} : ∀ (ds : List Nat) {l : List V} {cv : List Value} {D : List Nat}, RelX G l cv (ds ++ D) → RelX G (setAny ds l) cv D
  | [], l, cv, D, h => h
  | d :: ds, l, cv, D, h => by
    refine RelX.any ds (l := l.set d .any) ⟨by simpa using h.1, fun j v c hj hv hc => ?_⟩
    by_cases e : d = j
    · subst e
      rw [List.getElem?_set_self'] at hv
      cases hl : l[d]? with
      | none => rw [hl] at hv; cases hv
      | some u => rw [hl] at hv; cases hv; exact .any _
    · rw [List.getElem?_set_ne e] at hv
      exact h.2 j v c (by simpa [Ne.symm e] using hj) hv hc
theorem RelX.vs {G : Gh} : ∀ (ds : List Nat) (vs : List V) {l : List V} {cv : List Value}, RelX G l cv [] → (∀ (k : Nat) (d : Nat) (v : V) (c : Value), ds[k]? = some d → vs[k]? = some v → cv[d]? = some c → VRel G v c) → RelX G (setVs ds vs l) cv []
  | [], vs, l, cv, h, _ => by cases vs <;> exact h
  | d :: ds, [], l, cv, h, _ => h
  | d :: ds, v :: vs, l, cv, h, hv => by
    refine RelX.vs ds vs (l := l.set d v) ⟨by simpa using h.1, fun j u c hj hu hc => ?_⟩ (fun k d' v' c h1 h2 h3 => hv (k + 1) d' v' c (by simpa using h1) (by simpa using h2) h3)
    by_cases e : d = j
    · subst e
      rw [List.getElem?_set_self'] at hu
      cases hl : l[d]? with
      | none => rw [hl] at hu; cases hu
      | some w => rw [hl] at hu; cases hu; exact hv 0 d v c rfl rfl hc
    · rw [List.getElem?_set_ne e] at hu
      exact h.2 j u c hj hu hc
theorem RelX.of_rels {G : Gh} {l l' : List V} {cv : List Value} {D : List Nat} (h : Rels G l' cv) (hl : l'.length = l.length) (hf : ∀ d, d ∉ D → l'[d]? = l[d]?) : RelX G l cv D :=
  ⟨h.1.trans hl, fun j v c hj hv hc => h.2 j v c (by rw [hf j hj]; exact hv) hc⟩
theorem RelX.rels {G : Gh} {l : List V} {cv : List Value} (h : RelX G l cv []) : Rels G l cv := ⟨h.1, fun j v c hv hc => h.2 j v c (by simp) hv hc⟩
def St.jset (x : St) (ops : Array Oper) (lv : List Nat) (vs : List V) : St := { x with tm := setVs lv vs (setAny (dsts ops) x.tm) }
theorem Rel.jset {G : Gh} {x s : St} {lv : List Nat} {vs : List V} {a : Act} {w : World} (h : Rel Γ G s a w) (hl : s.tm.length = x.tm.length) (hf : ∀ d, d ∉ dsts ops → s.tm[d]? = x.tm[d]?) (hob : s.ob = x.ob) (hnm : s.nm = x.nm) (hkh : s.kh = x.kh ∧ s.kt = x.kt)
    (hv : ∀ (G : Gh) (cv : Value), VRel G (keptV lv s) cv → VRel G (.tup vs) cv) : Rel Γ G (x.jset ops lv vs) a w := by
  refine ⟨?_, by have := h.wr; rw [hob, hnm] at this; exact this, h.df, h.kh.trans hkh.1, h.kt.trans hkh.2⟩
  have h0 : RelX G x.tm a.tmps.toList (dsts ops ++ []) := by
    rw [List.append_nil]
    exact RelX.of_rels h.tm hl hf
  refine RelX.rels (RelX.vs lv vs (RelX.any (dsts ops) h0) ?_)
  intro k d v c h1 h2 h3
  have ht : VRel G (keptV lv s) (.tuple (lv.map fun d => (a.tmps.toList[d]?).getD Go.undef).toArray) := by
    refine .tup (by simp) (fun j v cv hj hc => ?_)
    rw [List.getElem?_map] at hj
    rw [List.getElem?_toArray, List.getElem?_map] at hc
    cases hd : lv[j]? with
    | none => rw [hd] at hj; cases hj
    | some d =>
      rw [hd] at hj hc
      simp only [Option.map_some, Option.some.injEq] at hj hc
      subst hj hc
      cases hs : s.tm[d]? with
      | none => exact .any _
      | some u =>
        obtain ⟨c', hc', hr'⟩ := h.tm.of_get hs
        rw [hc']
        exact hr'
  have ht2 := hv G _ ht
  cases ht2 with
  | tup hl2 hh =>
    refine hh k v c h2 ?_
    rw [List.getElem?_toArray, List.getElem?_map, h1, Option.map_some, h3]
    rfl

/-- A region, its ways joined; lv: the slots that the rest asks for (none told: not joined). -/
def evRegionJ (P : Program) (Γ : Nat → Option V) (cf : CallF) (lv : List Nat) (ops : Array Oper) (draw : Bool) (x : St) : Tr (Ex × St) :=
  match !lv.isEmpty && ops.any fun o => o.guard.isSome with
  | false => evRegion P Γ cf ops draw x
  | true =>
    match (match draw with | true => Region.lexB .any ops | false => true) with
    | false => .leaf none
    | true =>
      match jm draw ops lv (evReg P Γ cf ops x.basis ops.size 0 (x.pad (padK ops))) with
      | .ok c (.tup vs) => Tr.chk (c.getD true) c.isSome (.leaf (some (.normal, (x.pad (padK ops)).jset ops lv vs)))
      | _ => evRegion P Γ cf ops draw x
theorem evRegionJ_sound (hcf : CallsOk P Γ cf) (hfit : CallsFit cf) (hm : P.follows .mixedOrders = true) {lv : List Nat} {id : Nat} {draw : Bool} {x : St} {e : Ex} {x' : St} (h : (evRegionJ P Γ cf lv ops draw x).run = some (e, x')) : SemC P Γ (.region id ops draw) x e.to x' := by
  unfold evRegionJ at h
  split at h
  · exact evRegion_sound hcf hfit hm h
  · split at h
    · cases h
    · rename_i hB
      split at h
      · rename_i c vs hj
        rw [Tr.run_chk] at h
        split at h
        · rename_i hc
          cases h
          obtain ⟨s, es, h1, h2, h3⟩ := jm_run _ c _ hj hc
          rw [evReg_run] at h1
          have fr := chain_frame _ _ h1
          simp only [endOk, Bool.and_eq_true] at h2
          have q := fr.2.2 h2.1
          have sem : SemC P Γ (.region id ops draw) x .normal s := by
            cases draw with
            | false => exact SemC.of_pad (SemC.region_chain hcf hfit (pad_free x) h1)
            | true => exact SemC.of_pad (SemC.region_draw hcf hfit hm hB (pad_free x) h1 h2.2)
          intro ro G a w hr ho
          refine wpIn_mono (sem ro G a w hr ho) ?_
          rintro e a' w' ⟨rfl, G', hle, hr'⟩
          exact ⟨rfl, G', hle, hr'.jset fr.1 fr.2.1 q.1 q.2 (chain_k _ _ h1) h3⟩
        · cases h
      · exact evRegion_sound hcf hfit hm h

def evCJ (P : Program) (Γ : Nat → Option V) (cf : CallF) (lv : List Nat) : Nat → Code → St → Tr (Ex × St)
  | 0, _, _ => .leaf none
  | n + 1, c, x =>
    match c with
    | .skip => .leaf (some (.normal, x))
    | .ret => .leaf (some (.ret, x))
    | .exit id => .leaf (some (.exit id, x))
    | .region _ ops draw => evRegionJ P Γ cf lv ops draw x
    | .seq a b => (evCJ P Γ cf lv n a x).bind fun p => match p.1 with | .normal => evCJ P Γ cf lv n b p.2 | e => .leaf (some (e, p.2))
    | .cond c t f =>
      match (x.eval Γ c).bool? with
      | some (b, true) => .br b (evCJ P Γ cf lv n t x) (evCJ P Γ cf lv n f x)
      | some (true, false) => evCJ P Γ cf lv n t x
      | some (false, false) => evCJ P Γ cf lv n f x
      | none => .leaf none
    | .block id b => (evCJ P Γ cf lv n b x).bind fun p => match p.1 with | .exit i => if i = id then .leaf (some (.normal, p.2)) else .leaf (some (.exit i, p.2)) | e => .leaf (some (e, p.2))
    | .loop b => (evCJ P Γ cf lv n b x).bind fun p => match p.1 with | .normal => evCJ P Γ cf lv n (.loop b) p.2 | e => .leaf (some (e, p.2))
    | _ => .leaf none
theorem evCJ_sound' (hcf : CallsOk P Γ cf) (hfit : CallsFit cf) (hm : P.follows .mixedOrders = true) {lv : List Nat} : ∀ (n : Nat) (c : Code) (x : St) (e : Ex) (x' : St), (evCJ P Γ cf lv n c x).run = some (e, x') → SemC P Γ c x e.to x' ∧ ∀ b, c = .loop b → SemL P Γ b x e.to x'
  | 0, c, x, e, x', h => by cases h
  | n + 1, c, x, e, x', h => by
    have ihl := evCJ_sound' hcf hfit hm (lv := lv) n
    have ih := fun c x e x' h => (ihl c x e x' h).1
    have hbind : ∀ {c : Code} {y : St} {f : Ex × St → Tr (Ex × St)} {r : Ex × St}, ((evCJ P Γ cf lv n c y).bind f).run = some r → ∃ p, (evCJ P Γ cf lv n c y).run = some p ∧ (f p).run = some r := fun {c y f r} hh => by
      rw [Tr.run_bind] at hh
      cases hp : (evCJ P Γ cf lv n c y).run with
      | none => rw [hp] at hh; cases hh
      | some p => rw [hp] at hh; exact ⟨p, rfl, hh⟩
    cases c with
    | skip => cases h; exact ⟨SemC.skip, fun b hb => by cases hb⟩
    | ret => cases h; exact ⟨SemC.ret, fun b hb => by cases hb⟩
    | exit id => cases h; exact ⟨SemC.exit, fun b hb => by cases hb⟩
    | region id ops draw => exact ⟨evRegionJ_sound hcf hfit hm h, fun b hb => by cases hb⟩
    | seq a b =>
      refine ⟨?_, fun b hb => by cases hb⟩
      obtain ⟨⟨e1, x1⟩, h1, h2⟩ := hbind h
      cases e1 with
      | normal => exact SemC.seq (ih a x .normal x1 h1) (ih b x1 e x' h2)
      | exit i => cases h2; exact SemC.seq_out (by simp [Ex.to]) (ih a x _ _ h1)
      | ret => cases h2; exact SemC.seq_out (by simp [Ex.to]) (ih a x _ _ h1)
    | cond q t f =>
      refine ⟨?_, fun b hb => by cases hb⟩
      simp only [evCJ] at h
      cases hq : (x.eval Γ q).bool? with
      | none => rw [hq] at h; cases h
      | some p =>
        obtain ⟨b, s⟩ := p
        rw [hq] at h
        intro ro G a w hr ho
        have hb := bool?_eq hq (hr.eval q)
        cases b
        · have h' : (evCJ P Γ cf lv n f x).run = some (e, x') := by cases s <;> exact h
          exact wpIn_cond_false hb (ih f x e x' h' ro G a w hr ho)
        · have h' : (evCJ P Γ cf lv n t x).run = some (e, x') := by cases s <;> exact h
          exact wpIn_cond_true hb (ih t x e x' h' ro G a w hr ho)
    | block id b =>
      refine ⟨?_, fun b hb => by cases hb⟩
      obtain ⟨⟨e1, x1⟩, h1, h2⟩ := hbind h
      cases e1 with
      | normal => cases h2; exact SemC.block (by simp [Ex.to]) (ih b x _ _ h1)
      | ret => cases h2; exact SemC.block (by simp [Ex.to]) (ih b x _ _ h1)
      | exit i =>
        simp only [] at h2
        split at h2
        · rename_i hi; subst hi; cases h2; exact SemC.block_exit (ih b x _ _ h1)
        · rename_i hi; cases h2; exact SemC.block (by simpa [Ex.to] using hi) (ih b x _ _ h1)
    | loop b =>
      have key : SemL P Γ b x e.to x' := by
        obtain ⟨⟨e1, x1⟩, h1, h2⟩ := hbind h
        cases e1 with
        | normal => exact SemL.next (ih b x .normal x1 h1) ((ihl (.loop b) x1 e x' h2).2 b rfl)
        | exit i => cases h2; exact SemL.out (by simp [Ex.to]) (ih b x _ _ h1)
        | ret => cases h2; exact SemL.out (by simp [Ex.to]) (ih b x _ _ h1)
      exact ⟨SemC.loop key, fun b' hb => by cases hb; exact key⟩
    | _ => cases h
def evFJ (P : Program) (Γ : Nat → Option V) (cf : CallF) (lv : List Nat) (n : Nat) (f : FuncId) (args : List V) (ob : Ob) (nm : Nm) : Tr (V × St) :=
  match P.funcs[f]? with
  | none => .leaf none
  | some fn =>
    match fn.body with
    | none => .leaf none
    | some c =>
      if fn.name == "runtime.NumGoroutine" then .leaf none else
      (evCJ P Γ cf lv n c (St.start fn.ntmps args ob nm)).bind fun p =>
        match p.1 with
        | .exit _ => .leaf none
        | _ => match resV P p.2 fn.results.toList with | some v => .leaf (some (v, p.2)) | none => .leaf none
theorem evFJ_sound (hcf : CallsOk P Γ cf) (hfit : CallsFit cf) (hm : P.follows .mixedOrders = true) {lv : List Nat} {n : Nat} {f : FuncId} {args : List V} {ob : Ob} {nm : Nm} {v : V} {x : St} (h : (evFJ P Γ cf lv n f args ob nm).run = some (v, x)) :
    SemF P Γ f args ob nm v x.ob x.nm := by
  unfold evFJ at h
  cases hf : P.funcs[f]? with
  | none => rw [hf] at h; cases h
  | some fn =>
    rw [hf] at h
    simp only [] at h
    cases hb : fn.body with
    | none => rw [hb] at h; cases h
    | some c =>
      rw [hb] at h
      simp only [] at h
      split at h
      · cases h
      · rw [Tr.run_bind] at h
        cases hc : (evCJ P Γ cf lv n c (St.start fn.ntmps args ob nm)).run with
        | none => rw [hc] at h; cases h
        | some p =>
          obtain ⟨e, y⟩ := p
          rw [hc] at h
          simp only [Option.bind_some] at h
          have hs := (evCJ_sound' hcf hfit hm n c _ e y hc).1
          have key : ∀ v', resV P y fn.results.toList = some v' → (e = .ret ∨ e = .normal) → SemF P Γ f args ob nm v' y.ob y.nm := fun v' hv he =>
            SemF.of_body hf hb (by rcases he with rfl | rfl <;> simp [Ex.to]) hs hv
          cases e with
          | exit i => cases h
          | ret =>
            simp only [] at h
            cases hv : resV P y fn.results.toList with
            | none => rw [hv] at h; cases h
            | some v' => rw [hv] at h; cases h; exact key _ hv (.inl rfl)
          | normal =>
            simp only [] at h
            cases hv : resV P y fn.results.toList with
            | none => rw [hv] at h; cases h
            | some v' => rw [hv] at h; cases h; exact key _ hv (.inr rfl)
end
end Go.Proofs.Ytnjjkobijjdnbaa

/- The evaluator with a table of loops: a loop that is listed is taken as its entry says. -/
set_option linter.unusedVariables false
set_option linter.unusedSimpArgs false
namespace Go.Proofs.Ytnjjkobijjdnbaa
open Go

/-- The bodies of the loops, in the text's order. -/
def loops : Code → List Code
  | .seq a b => loops a ++ loops b
  | .cond _ t f => loops t ++ loops f
  | .block _ b => loops b
  | .loop b => b :: loops b
  | _ => []
/-- A state of which some slots are known. -/
def St.of (n : Nat) (lv : List Nat) (vs : List V) (ob : Ob) (nm : Nm) (kh kt : Nat := 0) : St := ⟨setVs lv vs (List.replicate n .any), ob, nm, kh, kt⟩
def St.kept (x : St) (lv : List Nat) : List V := lv.map fun d => (x.tm[d]?).getD .any
/-- What is said of a loop: how many slots there are, which are kept at its head, and what it comes to. -/
structure LEnt where
  n : Nat
  lv : List Nat
  go : Nat → Nat → List V → Ob → Nm → Option (Tr (Ex × St))
abbrev LOrc := FuncId → Nat → Option LEnt

section
variable {P : Program} {Γ : Nat → Option V} {cf : CallF}
theorem setVs_rels {G : Gh} {l0 : List V} {cv : List Value} : ∀ (lv : List Nat) (l : List V), Rels G l0 cv → Rels G l cv → Rels G (setVs lv (lv.map fun d => (l0[d]?).getD .any) l) cv
  | [], l, _, h => h
  | d :: ds, l, h0, h => by
    simp only [List.map_cons, setVs]
    refine setVs_rels ds _ h0 ?_
    refine ⟨by simpa using h.1, fun j v c hv hc => ?_⟩
    rw [List.getElem?_set] at hv
    split at hv
    · rename_i hj
      subst hj
      split at hv
      · cases hv
        cases hd : l0[d]? with
        | none => exact .any _
        | some u => exact h0.2 d u c hd hc
      · cases hv
    · exact h.2 j v c hv hc
theorem rels_any {G : Gh} {l0 : List V} {cv : List Value} (h : Rels G l0 cv) : Rels G (List.replicate l0.length .any) cv :=
  ⟨by simpa using h.1, fun j v c hv hc => by
    rw [List.getElem?_replicate] at hv
    split at hv
    · cases hv; exact .any _
    · cases hv⟩
theorem Rel.only {G : Gh} {x : St} {a : Act} {w : World} (h : Rel Γ G x a w) {n : Nat} (hn : x.tm.length = n) (lv : List Nat) : Rel Γ G (St.of n lv (x.kept lv) x.ob x.nm x.kh x.kt) a w := by
  subst hn
  exact ⟨setVs_rels lv _ h.tm (rels_any h.tm), h.wr, h.df, h.kh, h.kt⟩
/-- One state says no more than the other. -/
def St.imp (Γ : Nat → Option V) (x y : St) : Prop := ∀ G a w, Rel Γ G x a w → Rel Γ G y a w
theorem SemC.pre {c : Code} {x x' y : St} {e : Exit} (h : SemC P Γ c x' e y) (i : St.imp Γ x x') : SemC P Γ c x e y := fun ro G a w hr ho => h ro G a w (i G a w hr) ho
theorem SemC.post {c : Code} {x y y' : St} {e : Exit} (h : SemC P Γ c x e y) (i : St.imp Γ y y') : SemC P Γ c x e y' := fun ro G a w hr ho => by
  refine wpIn_mono (h ro G a w hr ho) ?_
  rintro e a' w' ⟨rfl, G1, h1, r1⟩
  exact ⟨rfl, G1, h1, i _ _ _ r1⟩
theorem SemL.pre {c : Code} {x x' y : St} {e : Exit} (h : SemL P Γ c x' e y) (i : St.imp Γ x x') : SemL P Γ c x e y := by
  obtain ⟨n, h⟩ := h
  exact ⟨n, fun ro G a w hr ho => h ro G a w (i G a w hr) ho⟩
theorem imp_only {x : St} {n : Nat} (hn : x.tm.length = n) (lv : List Nat) : St.imp Γ x (St.of n lv (x.kept lv) x.ob x.nm x.kh x.kt) := fun G a w hr => hr.only hn lv

def LOrcOk (P : Program) (Γ : Nat → Option V) (lo : LOrc) : Prop :=
  ∀ f i e, lo f i = some e → ∃ fn c b, P.funcs[f]? = some fn ∧ fn.body = some c ∧ (loops c)[i]? = some b ∧ ∀ kh kt vs ob nm t ex s, e.go kh kt vs ob nm = some t → t.run = some (ex, s) → SemL P Γ b (St.of e.n e.lv vs ob nm kh kt) ex.to s

/-- One round, reckoned: what is kept at its end. -/
def outs (lv : Ex → List Nat) (t : Tr (Ex × St)) : Tr (Ex × List V × Ob × Nm × Nat × Nat × Nat) := t.bind fun p => .leaf (some (p.1, p.2.kept (lv p.1), p.2.ob, p.2.nm, p.2.tm.length, p.2.kh, p.2.kt))
theorem outs_run {t : Tr (Ex × St)} {lv : Ex → List Nat} {e : Ex} {vs : List V} {ob : Ob} {nm : Nm} {n kh kt : Nat} (h : (outs lv t).run = some (e, vs, ob, nm, n, kh, kt)) : ∃ s, t.run = some (e, s) ∧ St.imp Γ s (St.of n (lv e) vs ob nm kh kt) := by
  unfold outs at h
  rw [Tr.run_bind] at h
  cases ht : t.run with
  | none => rw [ht] at h; cases h
  | some p =>
    rw [ht] at h
    obtain ⟨e', s⟩ := p
    simp only [Option.bind_some, Tr.run, Option.some.injEq, Prod.mk.injEq] at h
    obtain ⟨rfl, rfl, rfl, rfl, rfl, rfl, rfl⟩ := h
    exact ⟨s, rfl, imp_only rfl (lv e')⟩
end
end Go.Proofs.Ytnjjkobijjdnbaa

/- Objects and buffers that nothing asks for any more are forgotten; the others get new names. -/
set_option linter.unusedVariables false
set_option linter.unusedSimpArgs false
namespace Go.Proofs.Ytnjjkobijjdnbaa
open Go

def ixOf : List Nat → Nat → Option Nat
  | [], _ => none
  | x :: xs, o => if x = o then some 0 else match ixOf xs o with | some i => some (i + 1) | none => none
theorem ixOf_get : ∀ {l : List Nat} {o i : Nat}, ixOf l o = some i → l[i]? = some o
  | [], o, i, h => by cases h
  | x :: xs, o, i, h => by
    simp only [ixOf] at h
    split at h
    · rename_i e; cases h; simp [e]
    · split at h
      · rename_i k hk; cases h; simpa using ixOf_get hk
      · cases h
/-- New names: po, pn: the old ones, in the new order. -/
def renP (po pn : List Nat) : V → Option V
  | .ptr o off => match ixOf po o with | some i => some (.ptr i off) | none => none
  | .sl o off n => match ixOf po o with | some i => some (.sl i off n) | none => none
  | .bs sy n off len => match ixOf pn n with | some i => some (.bs sy i off len) | none => none
  | .bp n j off => match ixOf pn n with | some i => some (.bp i j off) | none => none
  | _ => none
theorem renP_cell (po pn : List Nat) : ∀ u q, renP po pn u = some q → q.cells = [q] := by
  intro u q h
  unfold renP at h
  split at h <;> (try split at h) <;> cases h <;> rfl
def Gh.ren (G : Gh) (po pn : List Nat) : Gh := { G with H := fun i => (po[i]?).bind G.H, T := fun i => (pn[i]?).bind G.T }
theorem renP_rel {G : Gh} (po pn : List Nat) (u q : V) (cu : Value) (hu : VRel G u cu) (h : renP po pn u = some q) : VRel (G.ren po pn) q cu := by
  unfold renP at h
  split at h
  · split at h
    · rename_i i hi
      cases h
      cases hu with
      | ptr hh => exact .ptr (by simp [Gh.ren, ixOf_get hi, hh])
    · cases h
  · split at h
    · rename_i i hi
      cases h
      cases hu with
      | sl hh hc => exact .sl (by simp [Gh.ren, ixOf_get hi, hh]) hc
    · cases h
  · split at h
    · rename_i i hi
      cases h
      cases hu with
      | bs0 => exact .bs0 _ _ _
      | bs1 => exact .bs1 _ _ _ _ _
      | bs hh hc => exact .bs (by simp [Gh.ren, ixOf_get hi, hh]) hc
    · cases h
  · split at h
    · rename_i i hi
      cases h
      cases hu with
      | bp hh => exact .bp (by simp [Gh.ren, ixOf_get hi, hh])
    · cases h
  · cases h
def renB (po pn : List Nat) : Bf → Option Bf
  | .dead => some .dead
  | .live (.arr ty l) => some (.live (.arr ty l))
  | .live (.cs sz l) => match V.clL (renP po pn) l with | some l' => some (.live (.cs sz l')) | none => none
def renOb (po pn : List Nat) (ob : Ob) : List Nat → Option Ob
  | [] => some []
  | o :: r =>
    match renOb po pn ob r with
    | none => none
    | some r' =>
      match ob[o]? with
      | some (some cs) => match V.clL (renP po pn) cs with | some cs' => some (some cs' :: r') | none => none
      | _ => some (none :: r')
def renNm (po pn : List Nat) (nm : Nm) : List Nat → Option Nm
  | [] => some []
  | n :: r =>
    match renNm po pn nm r with
    | none => none
    | some r' =>
      match nm[n]? with
      | some (some b) => match renB po pn b with | some b' => some (some b' :: r') | none => none
      | _ => some (none :: r')
theorem renOb_get {po pn : List Nat} {ob : Ob} : ∀ {l : List Nat} {ob' : Ob}, renOb po pn ob l = some ob' → ob'.length = l.length ∧ ∀ (i : Nat) (c : Option (List V)), ob'[i]? = some c → ∃ o, l[i]? = some o ∧ ((∃ cs cs', ob[o]? = some (some cs) ∧ V.clL (renP po pn) cs = some cs' ∧ c = some cs') ∨ ((∀ cs, ob[o]? ≠ some (some cs)) ∧ c = none))
  | [], ob', h => by cases h; exact ⟨rfl, fun i c hi => by simp at hi⟩
  | o :: r, ob', h => by
    simp only [renOb] at h
    cases hr : renOb po pn ob r with
    | none => rw [hr] at h; cases h
    | some r' =>
      rw [hr] at h
      simp only [] at h
      obtain ⟨h1, h2⟩ := renOb_get hr
      split at h
      · rename_i cs hcs
        split at h
        · rename_i cs' hcl
          cases h
          refine ⟨by simp [h1], fun i c hi => ?_⟩
          cases i with
          | zero => simp at hi; exact ⟨o, rfl, .inl ⟨cs, cs', hcs, hcl, hi.symm⟩⟩
          | succ i => simp at hi; simpa using h2 i c hi
        · cases h
      · rename_i hno
        cases h
        refine ⟨by simp [h1], fun i c hi => ?_⟩
        cases i with
        | zero => simp at hi; exact ⟨o, rfl, .inr ⟨fun cs hc => hno cs hc, hi.symm⟩⟩
        | succ i => simp at hi; simpa using h2 i c hi
theorem renNm_get {po pn : List Nat} {nm : Nm} : ∀ {l : List Nat} {nm' : Nm}, renNm po pn nm l = some nm' → nm'.length = l.length ∧ ∀ (i : Nat) (c : Option Bf), nm'[i]? = some c → ∃ n, l[i]? = some n ∧ ((∃ b b', nm[n]? = some (some b) ∧ renB po pn b = some b' ∧ c = some b') ∨ ((∀ b, nm[n]? ≠ some (some b)) ∧ c = none))
  | [], nm', h => by cases h; exact ⟨rfl, fun i c hi => by simp at hi⟩
  | n :: r, nm', h => by
    simp only [renNm] at h
    cases hr : renNm po pn nm r with
    | none => rw [hr] at h; cases h
    | some r' =>
      rw [hr] at h
      simp only [] at h
      obtain ⟨h1, h2⟩ := renNm_get hr
      split at h
      · rename_i b hb
        split at h
        · rename_i b' hcl
          cases h
          refine ⟨by simp [h1], fun i c hi => ?_⟩
          cases i with
          | zero => simp at hi; exact ⟨n, rfl, .inl ⟨b, b', hb, hcl, hi.symm⟩⟩
          | succ i => simp at hi; simpa using h2 i c hi
        · cases h
      · rename_i hno
        cases h
        refine ⟨by simp [h1], fun i c hi => ?_⟩
        cases i with
        | zero => simp at hi; exact ⟨n, rfl, .inr ⟨fun cs hc => hno cs hc, hi.symm⟩⟩
        | succ i => simp at hi; simpa using h2 i c hi
def nodupB : List Nat → Bool
  | [] => true
  | x :: xs => !xs.contains x && nodupB xs
theorem nodupB_get : ∀ {l : List Nat}, nodupB l = true → ∀ {i j x : Nat}, l[i]? = some x → l[j]? = some x → i = j
  | [], _, i, j, x, h, _ => by simp at h
  | y :: l, h, i, j, x, hi, hj => by
    simp only [nodupB, Bool.and_eq_true, Bool.not_eq_true', List.contains_eq_mem, decide_eq_false_iff_not] at h
    cases i with
    | zero =>
      cases j with
      | zero => rfl
      | succ j => simp at hi hj; subst hi; exact absurd (List.mem_of_getElem? hj) h.1
    | succ i =>
      cases j with
      | zero => simp at hi hj; subst hj; exact absurd (List.mem_of_getElem? hi) h.1
      | succ j => simp at hi hj; rw [nodupB_get h.2 hi hj]
section
variable {P : Program} {Γ : Nat → Option V} {cf : CallF}
theorem bind_get {α β : Type} {l : List α} {i : Nat} {f : α → Option β} {b : β} (h : (l[i]?).bind f = some b) : ∃ a, l[i]? = some a ∧ f a = some b := by
  cases hl : l[i]? with
  | none => rw [hl] at h; cases h
  | some a => rw [hl] at h; exact ⟨a, rfl, h⟩
theorem renB_ok {G : Gh} {w : World} {po pn : List Nat} {x : Tail} {b : Bf} {c' : BC} (h : ∀ c, b = .live c → BufOk G w x c) (hr : renB po pn b = some (.live c')) (hobj : ∀ o, (G.ren po pn).H o ≠ some x.b) : BufOk (G.ren po pn) w x c' := by
  cases b with
  | dead => cases hr
  | live c =>
    have B := h c rfl
    obtain ⟨cvs, E, fr, e1, e2, e3, e4⟩ := B.row
    have hM : ∀ b off cv, G.M b off = some cv → (G.ren po pn).M b off = some cv := fun _ _ _ h => h
    cases c with
    | arr ty l =>
      simp only [renB] at hr
      cases hr
      refine ⟨B.old, ⟨cvs, E, fr, e1, e2, e3, ?_⟩, B.sz, B.el, B.len, B.cap, B.free, hobj⟩
      exact Rels.cl (renP_cell po pn) hM (renP_rel po pn) e4 (clnL_flat (renP_cell po pn) (Ty.map_cl _ ty l))
    | cs sz l =>
      simp only [renB] at hr
      split at hr
      · rename_i l' hl
        cases hr
        have hf := clnL_flat (renP_cell po pn) hl
        have hlen := clnL_len hf
        refine ⟨B.old, ⟨cvs, E, fr, e1, e2, e3, ?_⟩, B.sz, fun v hv => ?_, (clnL_len hl).trans B.len, B.cap, B.free, hobj⟩
        · show Rels _ (flat l') ((cvs.toList.drop x.lo).take (flat l').length)
          rw [hlen]
          exact Rels.cl (renP_cell po pn) hM (renP_rel po pn) e4 hf
        · obtain ⟨j, hj⟩ := List.getElem?_of_mem hv
          obtain ⟨z, hz, hcz⟩ := clnL_get hl j v hj
          rw [clnL_len (cln_cells (renP_cell po pn) hcz)]
          exact B.el z (List.mem_of_getElem? hz)
      · cases hr
theorem renB_len {po pn : List Nat} {b : Bf} {c' : BC} (hr : renB po pn b = some (.live c')) : ∃ c, b = .live c ∧ c'.len = c.len := by
  cases b with
  | dead => cases hr
  | live c =>
    cases c with
    | arr ty l => simp only [renB] at hr; cases hr; exact ⟨_, rfl, rfl⟩
    | cs sz l =>
      simp only [renB] at hr
      split at hr
      · rename_i l' hl; cases hr; exact ⟨_, rfl, clnL_len hl⟩
      · cases hr
theorem WRel.ren {G : Gh} {ob : Ob} {nm : Nm} {w : World} (h : WRel Γ G ob nm w) {po pn : List Nat} {ob' : Ob} {nm' : Nm} (h1 : renOb po pn ob po = some ob') (h2 : renNm po pn nm pn = some nm') (d1 : nodupB po = true) (d2 : nodupB pn = true) : WRel Γ (G.ren po pn) ob' nm' w := by
  obtain ⟨l1, g1⟩ := renOb_get h1
  obtain ⟨l2, g2⟩ := renNm_get h2
  have hM : ∀ b off cv, G.M b off = some cv → (G.ren po pn).M b off = some cv := fun _ _ _ h => h
  have hH : ∀ {i b}, (G.ren po pn).H i = some b → ∃ o, po[i]? = some o ∧ G.H o = some b := fun hh => bind_get hh
  have hT : ∀ {i x}, (G.ren po pn).T i = some x → ∃ n, pn[i]? = some n ∧ G.T n = some x := fun hh => bind_get hh
  exact {
    m := h.m
    hob := fun i cs' b q1 q2 => by
      obtain ⟨o, ho, hb⟩ := hH q2
      obtain ⟨o', ho', q⟩ := g1 i _ q1
      obtain rfl := Option.some.inj (ho.symm.trans ho')
      rcases q with ⟨cs, cs2, e1, e2, e3⟩ | ⟨_, e⟩
      · cases e3
        obtain ⟨a1, ⟨c, E, fr, r1, r2, r3, r4⟩, a3⟩ := h.hob o cs b e1 hb
        have hlen := clnL_len e2
        exact ⟨a1, ⟨c, E, fr, r1, r2, by omega, by rw [hlen]; exact Rels.cl (renP_cell po pn) hM (renP_rel po pn) r4 e2⟩, a3⟩
      · cases e
    hlt := fun i b q => by
      obtain ⟨o, ho, hb⟩ := hH q
      exact ⟨by rw [l1]; exact get_lt ho, (h.hlt o b hb).2⟩
    habs := fun i q => by
      obtain ⟨o, ho, r⟩ := g1 i _ q
      rcases r with ⟨_, _, _, _, e⟩ | ⟨e, _⟩
      · cases e
      · show (po[i]?).bind G.H = none
        rw [ho]
        show G.H o = none
        cases hh : G.H o with
        | none => rfl
        | some b =>
          have hl := (h.hlt o b hh).1
          have hs : ob[o]? = some (ob[o]'hl) := List.getElem?_eq_getElem hl
          cases hc : ob[o]'hl with
          | none => rw [hc] at hs; rw [h.habs o hs] at hh; cases hh
          | some cs => rw [hc] at hs; exact absurd hs (e cs)
    inj := fun i j b q1 q2 => by
      obtain ⟨o, ho, hb⟩ := hH q1
      obtain ⟨o', ho', hb'⟩ := hH q2
      obtain rfl := h.inj o o' b hb hb'
      exact nodupB_get d1 ho ho'
    hnm := fun i c' x q1 q2 => by
      obtain ⟨n, hn, hx⟩ := hT q2
      obtain ⟨n', hn', q⟩ := g2 i _ q1
      obtain rfl := Option.some.inj (hn.symm.trans hn')
      rcases q with ⟨b, b', e1, e2, e3⟩ | ⟨_, e⟩
      · cases e3
        obtain ⟨c0, rfl, _⟩ := renB_len e2
        refine renB_ok (fun c hc => by cases hc; exact h.hnm n _ x e1 hx) e2 (fun o ho => ?_)
        obtain ⟨o', _, hb⟩ := hH ho
        exact (h.hnm n _ x e1 hx).obj o' hb
      · cases e
    hno := fun i c' q1 q2 => by
      obtain ⟨n, hn, q⟩ := g2 i _ q1
      rcases q with ⟨b, b', e1, e2, e3⟩ | ⟨_, e⟩
      · cases e3
        obtain ⟨c0, rfl, el⟩ := renB_len e2
        have hTn : (pn[i]?).bind G.T = none := q2
        rw [hn] at hTn
        rw [el]
        exact h.hno n c0 e1 hTn
      · cases e
    nmd := fun i j c c' x x' hij q1 q2 q3 q4 => by
      obtain ⟨n, hn, hx⟩ := hT q3
      obtain ⟨n', hn', hx'⟩ := hT q4
      obtain ⟨m, hm, r⟩ := g2 i _ q1
      obtain ⟨m', hm', r'⟩ := g2 j _ q2
      obtain rfl := Option.some.inj (hn.symm.trans hm)
      obtain rfl := Option.some.inj (hn'.symm.trans hm')
      rcases r with ⟨b, b', e1, e2, e3⟩ | ⟨_, e⟩
      · rcases r' with ⟨b2, b2', f1, f2, f3⟩ | ⟨_, e⟩
        · cases e3
          cases f3
          obtain ⟨c0, rfl, _⟩ := renB_len e2
          obtain ⟨c1, rfl, _⟩ := renB_len f2
          exact h.nmd n n' c0 c1 x x' (fun e => hij (nodupB_get d2 hn (e ▸ hn'))) e1 f1 hx hx'
        · cases e
      · cases e
    tabs := fun i q => by
      obtain ⟨n, hn, r⟩ := g2 i _ q
      rcases r with ⟨_, _, _, _, e⟩ | ⟨e, _⟩
      · cases e
      · show (pn[i]?).bind G.T = none
        rw [hn]
        show G.T n = none
        cases hh : G.T n with
        | none => rfl
        | some x =>
          have hl := h.tlt n x hh
          have hs : nm[n]? = some (nm[n]'hl) := List.getElem?_eq_getElem hl
          cases hc : nm[n]'hl with
          | none => rw [hc] at hs; rw [h.tabs n hs] at hh; cases hh
          | some b => rw [hc] at hs; exact absurd hs (e b)
    tlt := fun i x q => by
      obtain ⟨n, hn, hx⟩ := hT q
      rw [l2]; exact get_lt hn
    dd := h.dd
    kdle := h.kdle
    gl := fun g v hg => (h.gl g v hg).mono' ⟨fun _ _ _ h => h, (fun _ _ h => by cases h), (fun _ _ h => by cases h), (fun _ _ h => by cases h)⟩
    mold := h.mold
    os := h.os
    tape := h.tape
    output := h.output
    size := h.size
    block := h.block }
/-- The first ones stay. -/
def idB (k : Nat) (l : List Nat) : Bool := (List.range k).all fun o => l[o]? == some o
theorem idB_get {k : Nat} {l : List Nat} (h : idB k l = true) {o : Nat} (ho : o < k) : l[o]? = some o := by
  have := List.all_eq_true.1 h o (List.mem_range.2 ho)
  simpa using this
/-- A state under new names. -/
def St.ren (y : St) (po pn lv : List Nat) : Option (List V × Ob × Nm) :=
  if idB y.kh po = true ∧ idB y.kt pn = true ∧ nodupB po = true ∧ nodupB pn = true then
    match V.clL (renP po pn) (y.kept lv), renOb po pn y.ob po, renNm po pn y.nm pn with
    | some vs, some ob, some nm => some (vs, ob, nm)
    | _, _, _ => none
  else none
theorem Rel.ren {G G1 : Gh} {y : St} {a' : Act} {w' : World} {n : Nat} {po pn lv : List Nat} {vs : List V} {ob : Ob} {nm : Nm} (h1 : G.leW G1) (r1 : Rel Γ G1 y a' w') (hn : y.tm.length = n) (hs : y.ren po pn lv = some (vs, ob, nm)) :
    ∃ G', G.leW G' ∧ Rel Γ G' (St.of n lv vs ob nm y.kh y.kt) a' w' := by
  unfold St.ren at hs
  split at hs
  · rename_i hk
    obtain ⟨k1, k2, d1, d2⟩ := hk
    split at hs
    · rename_i vs' ob' nm' e1 e2 e3
      cases hs
      have hkh : G.kh = y.kh := by rw [← h1.kh, r1.kh]
      have hkt : G.kt = y.kt := by rw [← h1.kt, r1.kt]
      refine ⟨G1.ren po pn, ⟨h1.m, (fun o b ho hh => by
        show (po[o]?).bind G1.H = some b
        rw [idB_get k1 (by omega)]
        exact h1.h o b ho hh), (fun n x hn hh => by
        show (pn[n]?).bind G1.T = some x
        rw [idB_get k2 (by omega)]
        exact h1.t n x hn hh), h1.d, h1.kh, h1.kt, h1.w0, h1.m0, h1.kd⟩, ⟨?_, r1.wr.ren e2 e3 d1 d2, Marks.mono (G := G1) (G' := G1.ren po pn) (fun _ _ h => h) rfl r1.df, r1.kh, r1.kt⟩⟩
      subst hn
      have hM : ∀ b off cv, G1.M b off = some cv → (G1.ren po pn).M b off = some cv := fun _ _ _ h => h
      have key : ∀ (lv : List Nat) (l0 l vs : List V) (cv : List Value), Rels G1 l0 cv → V.clL (renP po pn) (lv.map fun d => (l0[d]?).getD .any) = some vs → Rels (G1.ren po pn) l cv → Rels (G1.ren po pn) (setVs lv vs l) cv := by
        intro lv
        induction lv with
        | nil => intro l0 l vs cv _ hv h; simp [V.clL] at hv; subst hv; exact h
        | cons d ds ih =>
          intro l0 l vs cv hr0 hv hrl
          simp only [List.map_cons, V.clL] at hv
          split at hv
          · rename_i v vs' hv1 hv2
            cases hv
            simp only [setVs]
            refine ih l0 _ vs' cv hr0 hv2 ⟨by simpa using hrl.1, fun j u c hu hc => ?_⟩
            rw [List.getElem?_set] at hu
            split at hu
            · rename_i hj
              subst hj
              split at hu
              · cases hu
                cases hd : l0[d]? with
                | none =>
                  rw [hd] at hv1
                  simp [V.cl] at hv1
                  subst hv1
                  exact .any _
                | some z =>
                  rw [hd] at hv1
                  exact VRel.cl (renP_cell po pn) hM (renP_rel po pn) (hr0.2 d z c hd hc) hv1
              · cases hu
            · exact hrl.2 j u c hu hc
          · cases hv
      have hany : Rels (G1.ren po pn) (List.replicate y.tm.length V.any) a'.tmps.toList := ⟨by simpa using r1.tm.1, fun j v c hv hc => by
        rw [List.getElem?_replicate] at hv
        split at hv
        · cases hv; exact .any _
        · cases hv⟩
      exact key lv y.tm _ _ _ r1.tm e1 hany
    · cases hs
  · cases hs
theorem SemC.ren {c : Code} {x : St} {e : Exit} {n : Nat} {po pn lv : List Nat} {vs : List V} {ob : Ob} {nm : Nm} {y : St} (h : SemC P Γ c x e y) (hn : y.tm.length = n) (hs : y.ren po pn lv = some (vs, ob, nm)) : SemC P Γ c x e (St.of n lv vs ob nm y.kh y.kt) := by
  intro ro G a w hr ho
  refine wpIn_mono (h ro G a w hr ho) ?_
  rintro e a' w' ⟨rfl, G1, h1, r1⟩
  exact ⟨rfl, r1.ren h1 hn hs⟩
theorem SemL.ren {c : Code} {x : St} {e : Exit} {n : Nat} {po pn lv : List Nat} {vs : List V} {ob : Ob} {nm : Nm} {y : St} (h : SemL P Γ c x e y) (hn : y.tm.length = n) (hs : y.ren po pn lv = some (vs, ob, nm)) : SemL P Γ c x e (St.of n lv vs ob nm y.kh y.kt) := by
  obtain ⟨m, h⟩ := h
  refine ⟨m, fun ro G a w hr ho => rounds_mono ?_ m a w (h ro G a w hr ho)⟩
  rintro e a' w' ⟨rfl, G1, h1, r1⟩
  exact ⟨rfl, r1.ren h1 hn hs⟩
/-- A loop from a state under new names. -/
theorem SemL.preRen {c : Code} {x z : St} {e : Exit} {n : Nat} {po pn lv : List Nat} {vs : List V} {ob : Ob} {nm : Nm} (hn : x.tm.length = n) (hs : x.ren po pn lv = some (vs, ob, nm)) (h : SemL P Γ c (St.of n lv vs ob nm x.kh x.kt) e z) : SemL P Γ c x e z := by
  obtain ⟨k, h⟩ := h
  refine ⟨k, fun ro G a w hr ho => ?_⟩
  obtain ⟨G', hle, hr'⟩ := Rel.ren (Gh.leW.refl G) hr hn hs
  refine rounds_mono ?_ k a w (h ro G' a w hr' (ho.leW hle))
  rintro e a' w' ⟨rfl, G1, h1, r1⟩
  exact ⟨rfl, G1, hle.trans h1, r1⟩
end
end Go.Proofs.Ytnjjkobijjdnbaa

/- A call that is handed only some of the objects and buffers: the others stay as they are. -/
set_option linter.unusedVariables false
set_option linter.unusedSimpArgs false
namespace Go.Proofs.Ytnjjkobijjdnbaa
open Go

theorem refs_flat {o : Nat} {v : V} : ∀ {xs : List V}, v ∈ flat xs → o ∈ v.refs → o ∈ V.refsL xs
  | x :: xs, hv, ho => by
    rw [flat_cons, List.mem_append] at hv
    simp only [V.refsL, List.mem_append]
    rcases hv with hv | hv
    · refine .inl ?_
      cases x with
      | agg cs => simp only [V.refs]; exact refsL_mem (by simpa [V.cells] using hv) ho
      | _ => simp only [V.cells, List.mem_singleton] at hv; subst hv; exact ho
    · exact .inr (refs_flat hv ho)
theorem nrefs_flat {o : Nat} {v : V} : ∀ {xs : List V}, v ∈ flat xs → o ∈ v.nrefs → o ∈ V.nrefsL xs
  | x :: xs, hv, ho => by
    rw [flat_cons, List.mem_append] at hv
    simp only [V.nrefsL, List.mem_append]
    rcases hv with hv | hv
    · refine .inl ?_
      cases x with
      | agg cs => simp only [V.nrefs]; exact nrefsL_mem (by simpa [V.cells] using hv) ho
      | _ => simp only [V.cells, List.mem_singleton] at hv; subst hv; exact ho
    · exact .inr (nrefs_flat hv ho)
theorem mem_refsL {o : Nat} : ∀ {l : List V}, o ∈ V.refsL l → ∃ v ∈ l, o ∈ v.refs
  | x :: l, h => by
    simp only [V.refsL, List.mem_append] at h
    rcases h with h | h
    · exact ⟨x, List.mem_cons_self .., h⟩
    · obtain ⟨v, hv, ho⟩ := mem_refsL h
      exact ⟨v, List.mem_cons_of_mem _ hv, ho⟩
theorem mem_nrefsL {o : Nat} : ∀ {l : List V}, o ∈ V.nrefsL l → ∃ v ∈ l, o ∈ v.nrefs
  | x :: l, h => by
    simp only [V.nrefsL, List.mem_append] at h
    rcases h with h | h
    · exact ⟨x, List.mem_cons_self .., h⟩
    · obtain ⟨v, hv, ho⟩ := mem_nrefsL h
      exact ⟨v, List.mem_cons_of_mem _ hv, ho⟩
theorem refsL_append : ∀ (a b : List V), V.refsL (a ++ b) = V.refsL a ++ V.refsL b
  | [], b => rfl
  | x :: a, b => by simp only [List.cons_append, V.refsL, refsL_append a b, List.append_assoc]
theorem nrefsL_append : ∀ (a b : List V), V.nrefsL (a ++ b) = V.nrefsL a ++ V.nrefsL b
  | [], b => rfl
  | x :: a, b => by simp only [List.cons_append, V.nrefsL, nrefsL_append a b, List.append_assoc]
mutual
theorem Ty.val_refs : ∀ (t : Ty) (x : t.den), V.refs (t.val x) = [] ∧ V.nrefs (t.val x) = []
  | .bool, x => ⟨rfl, rfl⟩
  | .int k, n => ⟨rfl, rfl⟩
  | .str, s => ⟨rfl, rfl⟩
  | .agg fs, x => by simp only [Ty.val, V.refs, V.nrefs]; exact Ty.cellss_refs fs x
  | .slice e, l => ⟨rfl, rfl⟩
theorem Ty.cells_refs : ∀ (t : Ty) (x : t.den), V.refsL (t.cells x) = [] ∧ V.nrefsL (t.cells x) = []
  | .bool, x => ⟨rfl, rfl⟩
  | .int k, n => ⟨rfl, rfl⟩
  | .str, s => ⟨rfl, rfl⟩
  | .agg fs, x => Ty.cellss_refs fs x
  | .slice e, l => ⟨rfl, rfl⟩
theorem Ty.cellss_refs : ∀ (ts : List Ty) (x : Ty.dens ts), V.refsL (Ty.cellss ts x) = [] ∧ V.nrefsL (Ty.cellss ts x) = []
  | [], _ => ⟨rfl, rfl⟩
  | t :: ts, x => by
    simp only [Ty.cellss, refsL_append, nrefsL_append, (Ty.cells_refs t x.1).1, (Ty.cells_refs t x.1).2, (Ty.cellss_refs ts x.2).1, (Ty.cellss_refs ts x.2).2]
    exact ⟨rfl, rfl⟩
end
theorem map_refs (ty : Ty) : ∀ (l : List ty.den), V.refsL (l.map ty.val) = [] ∧ V.nrefsL (l.map ty.val) = []
  | [] => ⟨rfl, rfl⟩
  | x :: l => by
    simp only [List.map_cons, V.refsL, V.nrefsL, (Ty.val_refs ty x).1, (Ty.val_refs ty x).2, (map_refs ty l).1, (map_refs ty l).2]
    exact ⟨rfl, rfl⟩
/-- What a value says under another ghost: its own names alone matter. -/
theorem VRel.byRefs {G G' : Gh} (gm : ∀ b off cv, G.M b off = some cv → G'.M b off = some cv) (gd : ∀ l o, G.D l = some o → G'.D l = some o) {v : V} {cv : Value} (h : VRel G v cv) :
    (∀ o ∈ v.refs, ∀ b, G.H o = some b → G'.H o = some b) → (∀ n ∈ v.nrefs, ∀ x, G.T n = some x → G'.T n = some x) → VRel G' v cv := by
  induction h with
  | b x => intro _ _; exact .b x
  | i k n => intro _ _; exact .i k n
  | s x => intro _ _; exact .s x
  | sb x => intro _ _; exact .sb x
  | si k n => intro _ _; exact .si k n
  | ss x => intro _ _; exact .ss x
  | nil => intro _ _; exact .nil
  | ptr h => intro r _; exact .ptr (r _ (by simp [V.refs]) _ h)
  | pel hsz hl hm hv ih => intro r t; exact .pel hsz hl (fun j cv h => gm _ _ _ (hm j cv h)) (fun j v cv h1 h2 => ih j v cv h1 h2 (fun o ho => r o (by simp only [V.refs]; exact refs_flat (List.mem_of_getElem? h1) ho)) (fun o ho => t o (by simp only [V.nrefs]; exact nrefs_flat (List.mem_of_getElem? h1) ho)))
  | lst0 t => intro _ _; exact .lst0 t
  | lst1 p cap => intro _ _; exact .lst1 p cap
  | lst hsz hl hm hv hc ht ih => intro r t; exact .lst hsz hl (fun j cv h => gm _ _ _ (hm j cv h)) (fun j v cv h1 h2 => ih j v cv h1 h2 (fun o ho => r o (by simp only [V.refs]; exact refs_flat (List.mem_of_getElem? h1) ho)) (fun o ho => t o (by simp only [V.nrefs]; exact nrefs_flat (List.mem_of_getElem? h1) ho))) hc (ht.mono G')
  | sl h hc => intro r _; exact .sl (r _ (by simp [V.refs]) _ h) hc
  | fn ha hc h1 h2 i1 i2 =>
    intro r t
    exact .fn ha hc (fun j v cv g1 g2 => i1 j v cv g1 g2 (fun o ho => r o (by simp only [V.refs, List.mem_append]; exact .inl (refsL_mem (List.mem_of_getElem? g1) ho))) (fun o ho => t o (by simp only [V.nrefs, List.mem_append]; exact .inl (nrefsL_mem (List.mem_of_getElem? g1) ho))))
      (fun j v cv g1 g2 => i2 j v cv g1 g2 (fun o ho => r o (by simp only [V.refs, List.mem_append]; exact .inr (refsL_mem (List.mem_of_getElem? g1) ho))) (fun o ho => t o (by simp only [V.nrefs, List.mem_append]; exact .inr (nrefsL_mem (List.mem_of_getElem? g1) ho))))
  | nilfn => intro _ _; exact .nilfn
  | ifc h ih => intro r t; exact .ifc (ih (fun o ho => r o (by simpa [V.refs] using ho)) (fun o ho => t o (by simpa [V.nrefs] using ho)))
  | nilifc => intro _ _; exact .nilifc
  | agg hl h ih => intro r t; exact .agg hl (fun j v cv g1 g2 => ih j v cv g1 g2 (fun o ho => r o (by simp only [V.refs]; exact refsL_mem (List.mem_of_getElem? g1) ho)) (fun o ho => t o (by simp only [V.nrefs]; exact nrefsL_mem (List.mem_of_getElem? g1) ho)))
  | tup hl h ih => intro r t; exact .tup hl (fun j v cv g1 g2 => ih j v cv g1 g2 (fun o ho => r o (by simp only [V.refs]; exact refsL_mem (List.mem_of_getElem? g1) ho)) (fun o ho => t o (by simp only [V.nrefs]; exact nrefsL_mem (List.mem_of_getElem? g1) ho)))
  | any v => intro _ _; exact .any v
  | @slst t ty l cv h ih => intro _ _; exact .slst (ih (fun o ho => by simp only [V.refs, (map_refs ty l).1] at ho; cases ho) (fun o ho => by simp only [V.nrefs, (map_refs ty l).2] at ho; cases ho))
  | bs0 sy n off => intro _ _; exact .bs0 sy n off
  | bs1 sy n off b o => intro _ _; exact .bs1 sy n off b o
  | bs h hl => intro _ t; exact .bs (t _ (by simp [V.nrefs]) _ h) hl
  | bp h => intro _ t; exact .bp (t _ (by simp [V.nrefs]) _ h)
  | yl h hs hl ht ih => intro r t; exact .yl (gd _ _ h) hs hl (fun j v cv g1 g2 => ih j v cv g1 g2 (fun o ho => r o (by simp only [V.refs]; exact refsL_mem (List.mem_of_getElem? g1) ho)) (fun o ho => t o (by simp only [V.nrefs]; exact nrefsL_mem (List.mem_of_getElem? g1) ho)))
theorem Rels.byRefs {G G' : Gh} (gm : ∀ b off cv, G.M b off = some cv → G'.M b off = some cv) (gd : ∀ l o, G.D l = some o → G'.D l = some o) {vs : List V} {cvs : List Value} (h : Rels G vs cvs)
    (r : ∀ o ∈ V.refsL vs, ∀ b, G.H o = some b → G'.H o = some b) (t : ∀ n ∈ V.nrefsL vs, ∀ x, G.T n = some x → G'.T n = some x) : Rels G' vs cvs :=
  ⟨h.1, fun j v cv g1 g2 => (h.2 j v cv g1 g2).byRefs gm gd (fun o ho => r o (refsL_mem (List.mem_of_getElem? g1) ho)) (fun o ho => t o (nrefsL_mem (List.mem_of_getElem? g1) ho))⟩

/-! ### Masks -/
/-- Of the objects, those that are handed over; of the others nothing is said. -/
def maskO (to : List Nat) : Nat → Ob → Ob
  | _, [] => []
  | i, none :: r => none :: maskO to (i + 1) r
  | i, some cs :: r => (match to.contains i with | true => some cs | false => some []) :: maskO to (i + 1) r
def maskN (tn : List Nat) : Nat → Nm → Nm
  | _, [] => []
  | i, none :: r => none :: maskN tn (i + 1) r
  | i, some b :: r => (match tn.contains i with | true => some b | false => some .dead) :: maskN tn (i + 1) r
/-- The others put back. -/
def restO (to : List Nat) : Nat → Ob → Ob → Ob
  | _, [], ob1 => ob1
  | _, _ :: _, [] => []
  | i, c :: r, d :: r1 => (match to.contains i with | true => d | false => c) :: restO to (i + 1) r r1
def restN (tn : List Nat) : Nat → Nm → Nm → Nm
  | _, [], nm1 => nm1
  | _, _ :: _, [] => []
  | i, c :: r, d :: r1 => (match tn.contains i with | true => d | false => c) :: restN tn (i + 1) r r1
theorem maskO_get (to : List Nat) : ∀ (i : Nat) (ob : Ob) (j : Nat), (maskO to i ob)[j]? = (ob[j]?).map fun c => c.map fun cs => if to.contains (i + j) then cs else []
  | i, [], j => by simp [maskO]
  | i, none :: r, 0 => by simp [maskO]
  | i, none :: r, j + 1 => by
    simp only [maskO, List.getElem?_cons_succ, maskO_get to (i + 1) r j, show i + 1 + j = i + (j + 1) by omega]
  | i, some cs :: r, 0 => by
    simp only [maskO, List.getElem?_cons_zero, Option.map_some, Nat.add_zero]
    cases to.contains i <;> rfl
  | i, some cs :: r, j + 1 => by
    simp only [maskO, List.getElem?_cons_succ, maskO_get to (i + 1) r j, show i + 1 + j = i + (j + 1) by omega]
theorem maskN_get (tn : List Nat) : ∀ (i : Nat) (nm : Nm) (j : Nat), (maskN tn i nm)[j]? = (nm[j]?).map fun c => c.map fun b => if tn.contains (i + j) then b else .dead
  | i, [], j => by simp [maskN]
  | i, none :: r, 0 => by simp [maskN]
  | i, none :: r, j + 1 => by
    simp only [maskN, List.getElem?_cons_succ, maskN_get tn (i + 1) r j, show i + 1 + j = i + (j + 1) by omega]
  | i, some cs :: r, 0 => by
    simp only [maskN, List.getElem?_cons_zero, Option.map_some, Nat.add_zero]
    cases tn.contains i <;> rfl
  | i, some cs :: r, j + 1 => by
    simp only [maskN, List.getElem?_cons_succ, maskN_get tn (i + 1) r j, show i + 1 + j = i + (j + 1) by omega]
theorem maskO_len (to : List Nat) : ∀ (i : Nat) (ob : Ob), (maskO to i ob).length = ob.length
  | _, [] => rfl
  | i, none :: r => by simp [maskO, maskO_len to (i + 1) r]
  | i, some cs :: r => by simp [maskO, maskO_len to (i + 1) r]
theorem maskN_len (tn : List Nat) : ∀ (i : Nat) (nm : Nm), (maskN tn i nm).length = nm.length
  | _, [] => rfl
  | i, none :: r => by simp [maskN, maskN_len tn (i + 1) r]
  | i, some cs :: r => by simp [maskN, maskN_len tn (i + 1) r]
theorem restO_get (to : List Nat) : ∀ (i : Nat) (ob ob1 : Ob), ob.length ≤ ob1.length → ∀ j : Nat, (restO to i ob ob1)[j]? = if j < ob.length ∧ to.contains (i + j) = false then ob[j]? else ob1[j]?
  | i, [], ob1, _, j => by simp [restO]
  | i, c :: r, [], h, j => by simp at h
  | i, c :: r, d :: r1, h, 0 => by
    simp only [restO, List.getElem?_cons_zero, List.length_cons, Nat.add_zero]
    cases to.contains i <;> simp
  | i, c :: r, d :: r1, h, j + 1 => by
    simp only [restO, List.getElem?_cons_succ, List.length_cons]
    rw [restO_get to (i + 1) r r1 (by simpa using h) j, show i + 1 + j = i + (j + 1) by omega]
    simp
theorem restN_get (tn : List Nat) : ∀ (i : Nat) (nm nm1 : Nm), nm.length ≤ nm1.length → ∀ j : Nat, (restN tn i nm nm1)[j]? = if j < nm.length ∧ tn.contains (i + j) = false then nm[j]? else nm1[j]?
  | i, [], nm1, _, j => by simp [restN]
  | i, c :: r, [], h, j => by simp at h
  | i, c :: r, d :: r1, h, 0 => by
    simp only [restN, List.getElem?_cons_zero, List.length_cons, Nat.add_zero]
    cases tn.contains i <;> simp
  | i, c :: r, d :: r1, h, j + 1 => by
    simp only [restN, List.getElem?_cons_succ, List.length_cons]
    rw [restN_get tn (i + 1) r r1 (by simpa using h) j, show i + 1 + j = i + (j + 1) by omega]
    simp
theorem restO_len (to : List Nat) : ∀ (i : Nat) (ob ob1 : Ob), ob.length ≤ ob1.length → (restO to i ob ob1).length = ob1.length
  | _, [], ob1, _ => rfl
  | i, c :: r, [], h => by simp at h
  | i, c :: r, d :: r1, h => by simp [restO, restO_len to (i + 1) r r1 (by simpa using h)]
theorem restN_len (tn : List Nat) : ∀ (i : Nat) (nm nm1 : Nm), nm.length ≤ nm1.length → (restN tn i nm nm1).length = nm1.length
  | _, [], nm1, _ => rfl
  | i, c :: r, [], h => by simp at h
  | i, c :: r, d :: r1, h => by simp [restN, restN_len tn (i + 1) r r1 (by simpa using h)]
/-- All names that values have are of these. -/
def NamesIn (po pn : Nat → Prop) (l : List V) : Prop := (∀ o ∈ V.refsL l, po o) ∧ ∀ n ∈ V.nrefsL l, pn n
section
variable {P : Program} {Γ : Nat → Option V}
open Classical in
/-- A call that is handed only some of the objects and buffers: the others stay as they are. -/
theorem SemF.maskR {f : FuncId} {args : List V} {ob ob1 : Ob} {nm nm1 : Nm} {v : V} {to tn : List Nat}
    (h : ∀ (G : Gh) (w : World) (cargs : List Value), (∀ o, o ∉ to → G.H o = none) → (∀ n, n ∉ tn → G.T n = none) → WRel Γ G (maskO to 0 ob) (maskN tn 0 nm) w → Rels G args cargs →
      CallsX P f cargs.toArray w fun e w' => ∃ cv G', e = .returned cv ∧ G.le G' ∧ VRel G' v cv ∧ WRel Γ G' ob1 nm1 w')
    (ha : NamesIn (· ∈ to) (· ∈ tn) args) (hin : ∀ o ∈ to, ∀ cs, ob[o]? = some (some cs) → NamesIn (· ∈ to) (· ∈ tn) cs) (hinn : ∀ n ∈ tn, ∀ c, nm[n]? = some (some (.live c)) → NamesIn (· ∈ to) (· ∈ tn) c.els)
    (hk : ob.length ≤ ob1.length) (hkn : nm.length ≤ nm1.length)
    (hv : NamesIn (fun o => o ∈ to ∨ ob.length ≤ o) (fun n => n ∈ tn ∨ nm.length ≤ n) [v])
    (hout : ∀ o, (o ∈ to ∨ ob.length ≤ o) → ∀ cs, ob1[o]? = some (some cs) → NamesIn (fun o => o ∈ to ∨ ob.length ≤ o) (fun n => n ∈ tn ∨ nm.length ≤ n) cs)
    (houtn : ∀ n, (n ∈ tn ∨ nm.length ≤ n) → ∀ c, nm1[n]? = some (some (.live c)) → NamesIn (fun o => o ∈ to ∨ ob.length ≤ o) (fun n => n ∈ tn ∨ nm.length ≤ n) c.els) :
    SemF P Γ f args ob nm v (restO to 0 ob ob1) (restN tn 0 nm nm1) := by
  intro G w cargs hw hr
  let S : Nat → Bool := fun b => decide ((∃ o, o ∈ to ∧ G.H o = some b) ∨ (∃ n x c, n ∈ tn ∧ nm[n]? = some (some (.live c)) ∧ G.T n = some x ∧ x.b = b) ∨ ∃ o, G.D b = some o)
  let Gs : Gh := { M := G.M, H := fun o => if o ∈ to then G.H o else none, T := fun n => if n ∈ tn then G.T n else none, D := G.D, kh := G.kh, kt := G.kt, w0 := { w with S := S }, M0 := G.M, kd := G.kd }
  have sH : ∀ {o b}, Gs.H o = some b → o ∈ to ∧ G.H o = some b := fun {o b} hh => by
    have hh : (if o ∈ to then G.H o else none) = some b := hh
    split at hh
    · rename_i ht; exact ⟨ht, hh⟩
    · cases hh
  have sT : ∀ {n x}, Gs.T n = some x → n ∈ tn ∧ G.T n = some x := fun {n x} hh => by
    have hh : (if n ∈ tn then G.T n else none) = some x := hh
    split at hh
    · rename_i ht; exact ⟨ht, hh⟩
    · cases hh
  have tH : ∀ {o}, o ∈ to → Gs.H o = G.H o := fun {o} ht => if_pos ht
  have tT : ∀ {n}, n ∈ tn → Gs.T n = G.T n := fun {n} ht => if_pos ht
  have mO : ∀ {o cs}, (maskO to 0 ob)[o]? = some (some cs) → o ∈ to → ob[o]? = some (some cs) := fun {o cs} hh ht => by
    rw [maskO_get] at hh
    cases hob : ob[o]? with
    | none => rw [hob] at hh; cases hh
    | some c =>
      cases c with
      | none => rw [hob] at hh; cases hh
      | some d =>
        rw [hob] at hh
        simp only [Option.map_some, Nat.zero_add, Option.some.injEq] at hh
        rw [if_pos (by simpa using ht)] at hh
        rw [hh]
  have mN : ∀ {n c}, (maskN tn 0 nm)[n]? = some (some (Bf.live c)) → n ∈ tn ∧ nm[n]? = some (some (.live c)) := fun {n c} hh => by
    rw [maskN_get] at hh
    cases hob : nm[n]? with
    | none => rw [hob] at hh; cases hh
    | some c' =>
      cases c' with
      | none => rw [hob] at hh; cases hh
      | some d =>
        rw [hob] at hh
        simp only [Option.map_some, Nat.zero_add, Option.some.injEq] at hh
        split at hh
        · rename_i ht; exact ⟨by simpa using ht, by rw [hh]⟩
        · cases hh
  have owned : ∀ b, Gs.w0.own b → G.w0.own b := fun b hb => by
    rcases hb with hb | hb
    · exact .inl (Nat.le_trans hw.size hb)
    · have hb : decide _ = true := hb
      rcases of_decide_eq_true hb with ⟨o, _, ho⟩ | ⟨n, x, c, _, hc, hx, rfl⟩ | ⟨o, ho⟩
      · have hl := (hw.hlt o b ho).1
        cases hc : ob[o]'hl with
        | none =>
          have := hw.habs o (by rw [List.getElem?_eq_getElem hl, hc])
          rw [this] at ho; cases ho
        | some cs => exact (hw.hob o cs b (by rw [List.getElem?_eq_getElem hl, hc]) ho).1
      · exact (hw.hnm n c x hc hx).old
      · exact (hw.dd b o ho).2.2
  have ownO : ∀ {o b}, o ∈ to → G.H o = some b → Gs.w0.own b := fun {o b} ht hb => .inr (decide_eq_true (.inl ⟨o, ht, hb⟩))
  have ownN : ∀ {n x c}, n ∈ tn → nm[n]? = some (some (.live c)) → G.T n = some x → Gs.w0.own x.b := fun {n x c} ht hc hx => .inr (decide_eq_true (.inr (.inl ⟨n, x, c, ht, hc, hx, rfl⟩)))
  have ownD : ∀ {l o}, G.D l = some o → Gs.w0.own l := fun {l o} ho => .inr (decide_eq_true (.inr (.inr ⟨o, ho⟩)))
  have gm : ∀ b off cv, G.M b off = some cv → Gs.M b off = some cv := fun _ _ _ h => h
  have gd : ∀ l o, G.D l = some o → Gs.D l = some o := fun _ _ h => h
  have toS : ∀ {vs : List V} {cvs : List Value}, NamesIn (· ∈ to) (· ∈ tn) vs → Rels G vs cvs → Rels Gs vs cvs := fun {vs cvs} hn hr => hr.byRefs gm gd (fun o ho b hb => (tH (hn.1 o ho)).trans hb) (fun n hn' x hx => (tT (hn.2 n hn')).trans hx)
  have elsIn : ∀ {c : BC}, NamesIn (· ∈ to) (· ∈ tn) c.els → NamesIn (· ∈ to) (· ∈ tn) (flat c.els) := fun {c} hc => ⟨fun o ho => by
      obtain ⟨v, hv, ho⟩ := mem_refsL ho
      exact hc.1 o (refs_flat hv ho), fun n hn => by
      obtain ⟨v, hv, hn⟩ := mem_nrefsL hn
      exact hc.2 n (nrefs_flat hv hn)⟩
  have hws : WRel Γ Gs (maskO to 0 ob) (maskN tn 0 nm) w := {
    m := hw.m
    hob := fun o cs b h1 h2 => by
      obtain ⟨ht, hb⟩ := sH h2
      have ho := mO h1 ht
      obtain ⟨q1, ⟨cvs, E, fr, q2, q3, q4, q5⟩, q6⟩ := hw.hob o cs b ho hb
      exact ⟨ownO ht hb, ⟨cvs, E, fr, q2, q3, q4, toS (hin o ht cs ho) q5⟩, q6⟩
    hlt := fun o b h1 => by rw [maskO_len]; exact hw.hlt o b (sH h1).2
    habs := fun o h1 => by
      have h0 : G.H o = none := hw.habs o (by
        rw [maskO_get] at h1
        cases hob : ob[o]? with
        | none => rw [hob] at h1; cases h1
        | some c => cases c with | none => rfl | some d => rw [hob] at h1; simp at h1)
      show (if o ∈ to then G.H o else none) = none
      split
      · exact h0
      · rfl
    inj := fun o o' b h1 h2 => hw.inj o o' b (sH h1).2 (sH h2).2
    hnm := fun n c x h1 h2 => by
      obtain ⟨ht, hc⟩ := mN h1
      obtain ⟨_, hx⟩ := sT h2
      have B := hw.hnm n c x hc hx
      obtain ⟨cvs, E, fr, e1, e2, e3, e4⟩ := B.row
      exact ⟨ownN ht hc hx, ⟨cvs, E, fr, e1, e2, e3, toS (elsIn (hinn n ht c hc)) e4⟩, B.sz, B.el, B.len, B.cap, B.free, fun o ho => B.obj o (sH ho).2⟩
    hno := fun n c h1 h2 => by
      obtain ⟨ht, hc⟩ := mN h1
      exact hw.hno n c hc ((tT ht).symm.trans h2)
    nmd := fun n n' c c' x x' hne h1 h2 h3 h4 => hw.nmd n n' c c' x x' hne (mN h1).2 (mN h2).2 (sT h3).2 (sT h4).2
    tabs := fun n h1 => by
      have h0 : G.T n = none := hw.tabs n (by
        rw [maskN_get] at h1
        cases hob : nm[n]? with
        | none => rw [hob] at h1; cases h1
        | some c => cases c with | none => rfl | some d => rw [hob] at h1; simp at h1)
      show (if n ∈ tn then G.T n else none) = none
      split
      · exact h0
      · rfl
    tlt := fun n x h1 => by rw [maskN_len]; exact hw.tlt n x (sT h1).2
    dd := fun l o hl => ⟨(hw.dd l o hl).1, (hw.dd l o hl).2.1, ownD hl⟩
    kdle := hw.kdle
    gl := fun g v hg => VRel.mono' (G := G.bare) (G' := Gs.bare) ⟨fun _ _ _ h => h, (fun _ _ h => by cases h), (fun _ _ h => by cases h), (fun _ _ h => by cases h)⟩ (hw.gl g v hg)
    mold := fun b off _ => rfl
    os := rfl
    tape := rfl
    output := rfl
    size := Nat.le_refl _
    block := fun k _ => rfl }
  refine (h Gs w cargs (fun o ho => if_neg ho) (fun n hn => if_neg hn) hws (toS ha hr)).mono ?_
  rintro e w' ⟨cv, G1, rfl, hle, hvv, hw1⟩
  have hw0 : G1.w0 = Gs.w0 := hle.w0
  have hm0 : G1.M0 = G.M := hle.m0
  have hfz : ∀ k, ¬ Gs.w0.own k → w'.heap[k]? = w.heap[k]? := fun k hk => by
    have := hw1.block k (by rw [hw0]; exact hk)
    rwa [hw0] at this
  have hmo : ∀ b off, ¬ Gs.w0.own b → G1.M b off = G.M b off := fun b off hb => by
    have := hw1.mold b off (by rw [hw0]; exact hb)
    rwa [hm0] at this
  have hsz : w.heap.size ≤ w'.heap.size := by have := hw1.size; rwa [hw0] at this
  let uO : Nat → Prop := fun o => o < ob.length ∧ o ∉ to
  let uN : Nat → Prop := fun n => n < nm.length ∧ n ∉ tn
  let G' : Gh := { M := G1.M, H := fun o => if uO o then G.H o else G1.H o, T := fun n => if uN n then G.T n else G1.T n, D := G1.D, kh := G.kh, kt := G.kt, w0 := G.w0, M0 := G.M0, kd := G.kd }
  have hle2 : G.le G' := ⟨⟨hle.m, fun o b hh => by
      show (if uO o then G.H o else G1.H o) = some b
      split
      · exact hh
      · rename_i hu
        have ht : o ∈ to := Classical.byContradiction fun ht => hu ⟨(hw.hlt o b hh).1, ht⟩
        exact hle.h o b ((tH ht).trans hh), fun n x hh => by
      show (if uN n then G.T n else G1.T n) = some x
      split
      · exact hh
      · rename_i hu
        have ht : n ∈ tn := Classical.byContradiction fun ht => hu ⟨hw.tlt n x hh, ht⟩
        exact hle.t n x ((tT ht).trans hh), hle.d⟩, rfl, rfl, rfl, rfl, rfl⟩
  have nO : ∀ {o}, (o ∈ to ∨ ob.length ≤ o) → G'.H o = G1.H o := fun {o} ho => if_neg (fun hu => by
    rcases ho with ho | ho
    · exact hu.2 ho
    · exact absurd hu.1 (by omega))
  have nN : ∀ {n}, (n ∈ tn ∨ nm.length ≤ n) → G'.T n = G1.T n := fun {n} ho => if_neg (fun hu => by
    rcases ho with ho | ho
    · exact hu.2 ho
    · exact absurd hu.1 (by omega))
  have notU : ∀ {o}, ¬ uO o → (o ∈ to ∨ ob.length ≤ o) := fun {o} hu => by
    by_cases ht : o ∈ to
    · exact .inl ht
    · exact .inr (Nat.le_of_not_lt fun hl => hu ⟨hl, ht⟩)
  have notUN : ∀ {n}, ¬ uN n → (n ∈ tn ∨ nm.length ≤ n) := fun {o} hu => by
    by_cases ht : o ∈ tn
    · exact .inl ht
    · exact .inr (Nat.le_of_not_lt fun hl => hu ⟨hl, ht⟩)
  have to' : ∀ {vs : List V} {cvs : List Value}, NamesIn (fun o => o ∈ to ∨ ob.length ≤ o) (fun n => n ∈ tn ∨ nm.length ≤ n) vs → Rels G1 vs cvs → Rels G' vs cvs := fun {vs cvs} hn hr => hr.byRefs (G := G1) (G' := G') (fun _ _ _ h => h) (fun _ _ h => h) (fun o ho b hb => (nO (hn.1 o ho)).trans hb) (fun n hn' x hx => (nN (hn.2 n hn')).trans hx)
  have gO : ∀ (o : Nat), (restO to 0 ob ob1)[o]? = if uO o then ob[o]? else ob1[o]? := fun o => by
    rw [restO_get to 0 ob ob1 hk o]
    simp only [Nat.zero_add]
    by_cases hu : uO o
    · rw [if_pos hu, if_pos ⟨hu.1, by simpa using hu.2⟩]
    · rw [if_neg hu, if_neg (fun hc => hu ⟨hc.1, by simpa using hc.2⟩)]
  have gN : ∀ (n : Nat), (restN tn 0 nm nm1)[n]? = if uN n then nm[n]? else nm1[n]? := fun n => by
    rw [restN_get tn 0 nm nm1 hkn n]
    simp only [Nat.zero_add]
    by_cases hu : uN n
    · rw [if_pos hu, if_pos ⟨hu.1, by simpa using hu.2⟩]
    · rw [if_neg hu, if_neg (fun hc => hu ⟨hc.1, by simpa using hc.2⟩)]
  -- the others' blocks are none of those that may turn
  have apO : ∀ {o b}, uO o → G.H o = some b → ¬ Gs.w0.own b := fun {o b} hu hb ho => by
    have hl := hw.hlt o b hb
    rcases ho with ho | ho
    · have : w.heap.size ≤ b := ho; omega
    · have ho : decide _ = true := ho
      rcases of_decide_eq_true ho with ⟨o', ht, ho'⟩ | ⟨n, x, c, _, hc, hx, rfl⟩ | ⟨q, hq⟩
      · exact hu.2 (hw.inj o o' b hb ho' ▸ ht)
      · exact (hw.hnm n c x hc hx).obj o hb
      · cases hcs : ob[o]'hl.1 with
        | none =>
          have := hw.habs o (by rw [List.getElem?_eq_getElem hl.1, hcs])
          rw [this] at hb; cases hb
        | some cs =>
          obtain ⟨_, ⟨cvs, E, fr, q2, _⟩, _⟩ := hw.hob o cs b (by rw [List.getElem?_eq_getElem hl.1, hcs]) hb
          exact hw.dne hq q2 rfl
  have apN : ∀ {n x c}, uN n → nm[n]? = some (some (.live c)) → G.T n = some x → ¬ Gs.w0.own x.b := fun {n x c} hu hc hx ho => by
    have B := hw.hnm n c x hc hx
    rcases ho with ho | ho
    · have : w.heap.size ≤ x.b := ho; have := B.lt; omega
    · have ho : decide _ = true := ho
      rcases of_decide_eq_true ho with ⟨o', ht, ho'⟩ | ⟨n', x', c', ht, hc', hx', e⟩ | ⟨q, hq⟩
      · exact B.obj o' ho'
      · by_cases en : n = n'
        · subst en; exact hu.2 ht
        · exact hw.nmd n n' c c' x x' en hc hc' hx hx' e.symm
      · obtain ⟨cvs, E, fr, e1, _⟩ := B.row
        exact hw.dne hq e1 rfl
  have liveO : ∀ {o b}, G1.H o = some b → Gs.w0.own b := fun {o b} hb => by
    have hl := (hw1.hlt o b hb).1
    cases hcs : ob1[o]'hl with
    | none =>
      have := hw1.habs o (by rw [List.getElem?_eq_getElem hl, hcs])
      rw [this] at hb; cases hb
    | some cs =>
      have := (hw1.hob o cs b (by rw [List.getElem?_eq_getElem hl, hcs]) hb).1
      rwa [hw0] at this
  have liveN : ∀ {n x c}, nm1[n]? = some (some (.live c)) → G1.T n = some x → Gs.w0.own x.b := fun {n x c} hc hx => by
    have := (hw1.hnm n c x hc hx).old
    rwa [hw0] at this
  have hH' : ∀ {o b}, G'.H o = some b → (uO o ∧ G.H o = some b) ∨ (¬ uO o ∧ G1.H o = some b) := fun {o b} hb => by
    have hb : (if uO o then G.H o else G1.H o) = some b := hb
    split at hb
    · rename_i hu; exact .inl ⟨hu, hb⟩
    · rename_i hu; exact .inr ⟨hu, hb⟩
  have hT' : ∀ {n x}, G'.T n = some x → (uN n ∧ G.T n = some x) ∨ (¬ uN n ∧ G1.T n = some x) := fun {n x} hb => by
    have hb : (if uN n then G.T n else G1.T n) = some x := hb
    split at hb
    · rename_i hu; exact .inl ⟨hu, hb⟩
    · rename_i hu; exact .inr ⟨hu, hb⟩
  refine ⟨cv, G', rfl, hle2, ?_, ?_⟩
  · have h1 : Rels G1 [v] [cv] := Rels.cons hvv (Rels.nil _)
    exact (to' hv h1).2 0 v cv rfl rfl
  · exact {
      m := hw1.m
      hob := fun o cs b h1 h2 => by
        rw [gO] at h1
        rcases hH' h2 with ⟨hu, hb⟩ | ⟨hu, hb⟩
        · rw [if_pos hu] at h1
          obtain ⟨q1, ⟨cvs, E, fr, q2, q3, q4, q5⟩, q6⟩ := hw.hob o cs b h1 hb
          have hn := apO hu hb
          exact ⟨q1, ⟨cvs, E, fr, (hfz b hn).trans q2, q3, q4, q5.mono hle2⟩, fun off => (hmo b off hn).trans (q6 off)⟩
        · rw [if_neg hu] at h1
          obtain ⟨q1, ⟨cvs, E, fr, q2, q3, q4, q5⟩, q6⟩ := hw1.hob o cs b h1 hb
          exact ⟨owned b (by rw [← hw0]; exact q1), ⟨cvs, E, fr, q2, q3, q4, to' (hout o (notU hu) cs h1) q5⟩, q6⟩
      hlt := fun o b h1 => by
        rw [restO_len to 0 ob ob1 hk]
        rcases hH' h1 with ⟨hu, hb⟩ | ⟨hu, hb⟩
        · exact ⟨Nat.lt_of_lt_of_le hu.1 hk, Nat.lt_of_lt_of_le (hw.hlt o b hb).2 hsz⟩
        · exact hw1.hlt o b hb
      habs := fun o h1 => by
        rw [gO] at h1
        show (if uO o then G.H o else G1.H o) = none
        split
        · rename_i hu; rw [if_pos hu] at h1; exact hw.habs o h1
        · rename_i hu; rw [if_neg hu] at h1; exact hw1.habs o h1
      inj := fun o o' b h1 h2 => by
        rcases hH' h1 with ⟨hu, hb⟩ | ⟨hu, hb⟩ <;> rcases hH' h2 with ⟨hu', hb'⟩ | ⟨hu', hb'⟩
        · exact hw.inj o o' b hb hb'
        · exact absurd (liveO hb') (apO hu hb)
        · exact absurd (liveO hb) (apO hu' hb')
        · exact hw1.inj o o' b hb hb'
      hnm := fun n c x h1 h2 => by
        rw [gN] at h1
        rcases hT' h2 with ⟨hu, hx⟩ | ⟨hu, hx⟩
        · rw [if_pos hu] at h1
          have B := hw.hnm n c x h1 hx
          have hn := apN hu h1 hx
          refine B.to (hfz _ hn) (fun _ _ h => h.mono hle2) (fun _ h => h) (fun off ho => (hmo _ off hn).trans ho) (fun o ho => ?_)
          rcases hH' ho with ⟨hu', hb⟩ | ⟨hu', hb⟩
          · exact B.obj o hb
          · exact hn (liveO hb)
        · rw [if_neg hu] at h1
          have B := hw1.hnm n c x h1 hx
          obtain ⟨cvs, E, fr, e1, e2, e3, e4⟩ := B.row
          have hel : NamesIn (fun o => o ∈ to ∨ ob.length ≤ o) (fun n => n ∈ tn ∨ nm.length ≤ n) (flat c.els) := by
            have hc := houtn n (notUN hu) c h1
            exact ⟨fun o ho => by
              obtain ⟨v, hv, ho⟩ := mem_refsL ho
              exact hc.1 o (refs_flat hv ho), fun n hn => by
              obtain ⟨v, hv, hn⟩ := mem_nrefsL hn
              exact hc.2 n (nrefs_flat hv hn)⟩
          refine ⟨owned _ (by rw [← hw0]; exact B.old), ⟨cvs, E, fr, e1, e2, e3, to' hel e4⟩, B.sz, B.el, B.len, B.cap, B.free, fun o ho => ?_⟩
          rcases hH' ho with ⟨hu', hb⟩ | ⟨hu', hb⟩
          · exact apO hu' hb (liveN h1 hx)
          · exact B.obj o hb
      hno := fun n c h1 h2 => by
        rw [gN] at h1
        have h2 : (if uN n then G.T n else G1.T n) = none := h2
        split at h2
        · rename_i hu; rw [if_pos hu] at h1; exact hw.hno n c h1 h2
        · rename_i hu; rw [if_neg hu] at h1; exact hw1.hno n c h1 h2
      nmd := fun n n' c c' x x' hne h1 h2 h3 h4 => by
        rw [gN] at h1 h2
        rcases hT' h3 with ⟨hu, hx⟩ | ⟨hu, hx⟩ <;> rcases hT' h4 with ⟨hu', hx'⟩ | ⟨hu', hx'⟩
        · rw [if_pos hu] at h1; rw [if_pos hu'] at h2; exact hw.nmd n n' c c' x x' hne h1 h2 hx hx'
        · rw [if_pos hu] at h1; rw [if_neg hu'] at h2
          exact fun e => apN hu h1 hx (e ▸ liveN h2 hx')
        · rw [if_neg hu] at h1; rw [if_pos hu'] at h2
          exact fun e => apN hu' h2 hx' (e ▸ liveN h1 hx)
        · rw [if_neg hu] at h1; rw [if_neg hu'] at h2; exact hw1.nmd n n' c c' x x' hne h1 h2 hx hx'
      tabs := fun n h1 => by
        rw [gN] at h1
        show (if uN n then G.T n else G1.T n) = none
        split
        · rename_i hu; rw [if_pos hu] at h1; exact hw.tabs n h1
        · rename_i hu; rw [if_neg hu] at h1; exact hw1.tabs n h1
      tlt := fun n x h1 => by
        rw [restN_len tn 0 nm nm1 hkn]
        rcases hT' h1 with ⟨hu, hx⟩ | ⟨hu, hx⟩
        · exact Nat.lt_of_lt_of_le hu.1 hkn
        · exact hw1.tlt n x hx
      dd := fun l o hl => ⟨(hw1.dd l o hl).1, (hw1.dd l o hl).2.1, owned l (by rw [← hw0]; exact (hw1.dd l o hl).2.2)⟩
      kdle := Nat.le_trans hw.kdle hsz
      gl := fun g v hg => VRel.mono' (G := G1.bare) (G' := G'.bare) ⟨fun _ _ _ h => h, (fun _ _ h => by cases h), (fun _ _ h => by cases h), (fun _ _ h => by cases h)⟩ (hw1.gl g v hg)
      mold := fun b off hb => (hmo b off (fun ho => hb (owned b ho))).trans (hw.mold b off hb)
      os := by have := hw1.os; rw [hw0] at this; exact this.trans hw.os
      tape := by have := hw1.tape; rw [hw0] at this; exact this.trans hw.tape
      output := by have := hw1.output; rw [hw0] at this; exact this.trans hw.output
      size := Nat.le_trans hw.size hsz
      block := fun k hk => (hfz k (fun ho => hk (owned k ho))).trans (hw.block k hk) }
theorem SemF.mask {f : FuncId} {args : List V} {ob ob1 : Ob} {nm nm1 : Nm} {v : V} {to tn : List Nat} (h : SemF P Γ f args (maskO to 0 ob) (maskN tn 0 nm) v ob1 nm1)
    (ha : NamesIn (· ∈ to) (· ∈ tn) args) (hin : ∀ o ∈ to, ∀ cs, ob[o]? = some (some cs) → NamesIn (· ∈ to) (· ∈ tn) cs) (hinn : ∀ n ∈ tn, ∀ c, nm[n]? = some (some (.live c)) → NamesIn (· ∈ to) (· ∈ tn) c.els)
    (hk : ob.length ≤ ob1.length) (hkn : nm.length ≤ nm1.length)
    (hv : NamesIn (fun o => o ∈ to ∨ ob.length ≤ o) (fun n => n ∈ tn ∨ nm.length ≤ n) [v])
    (hout : ∀ o, (o ∈ to ∨ ob.length ≤ o) → ∀ cs, ob1[o]? = some (some cs) → NamesIn (fun o => o ∈ to ∨ ob.length ≤ o) (fun n => n ∈ tn ∨ nm.length ≤ n) cs)
    (houtn : ∀ n, (n ∈ tn ∨ nm.length ≤ n) → ∀ c, nm1[n]? = some (some (.live c)) → NamesIn (fun o => o ∈ to ∨ ob.length ≤ o) (fun n => n ∈ tn ∨ nm.length ≤ n) c.els) :
    SemF P Γ f args ob nm v (restO to 0 ob ob1) (restN tn 0 nm nm1) := SemF.maskR (fun G w cargs _ _ hw hr => h G w cargs hw hr) ha hin hinn hk hkn hv hout houtn
end
end Go.Proofs.Ytnjjkobijjdnbaa

/- A round's end under names that follow from what is kept; loops by induction; buffers born at a loop's head. -/
set_option linter.unusedVariables false
set_option linter.unusedSimpArgs false
namespace Go.Proofs.Ytnjjkobijjdnbaa
open Go

def addNew : List Nat → List Nat → List Nat
  | l, [] => l
  | l, x :: xs => match l.contains x with | true => addNew l xs | false => addNew (l ++ [x]) xs
def obRefs (ob : Ob) : List Nat → List Nat
  | [] => []
  | o :: r => (match ob[o]? with | some (some cs) => V.refsL cs | _ => []) ++ obRefs ob r
def obNrefs (ob : Ob) : List Nat → List Nat
  | [] => []
  | o :: r => (match ob[o]? with | some (some cs) => V.nrefsL cs | _ => []) ++ obNrefs ob r
def nmNrefs (nm : Nm) : List Nat → List Nat
  | [] => []
  | n :: r => (match nm[n]? with | some (some (.live (.cs _ l))) => V.nrefsL l | _ => []) ++ nmNrefs nm r
def nmRefs (nm : Nm) : List Nat → List Nat
  | [] => []
  | n :: r => (match nm[n]? with | some (some (.live (.cs _ l))) => V.refsL l | _ => []) ++ nmRefs nm r
/-- The objects and buffers that what is kept asks for, in the order in which they are come upon. -/
def St.names (y : St) : Nat → List Nat → List Nat → List Nat × List Nat
  | 0, po, pn => (po, pn)
  | k + 1, po, pn => St.names y k (addNew (addNew po (obRefs y.ob po)) (nmRefs y.nm pn)) (addNew (addNew pn (obNrefs y.ob po)) (nmNrefs y.nm pn))
def St.autoN (y : St) (lv : List Nat) : List Nat × List Nat := y.names 3 (addNew (List.range y.kh) (V.refsL (y.kept lv))) (addNew (List.range y.kt) (V.nrefsL (y.kept lv)))
def outa (lv : Ex → List Nat) (t : Tr (Ex × St)) : Tr (Ex × List V × Ob × Nm × Nat × Nat × Nat) :=
  t.bind fun p => match p.2.ren (p.2.autoN (lv p.1)).1 (p.2.autoN (lv p.1)).2 (lv p.1) with | some r => .leaf (some (p.1, r.1, r.2.1, r.2.2, p.2.tm.length, p.2.kh, p.2.kt)) | none => .leaf none
section
variable {P : Program} {Γ : Nat → Option V} {cf : CallF}
theorem outa_run {t : Tr (Ex × St)} {lv : Ex → List Nat} {e : Ex} {vs : List V} {ob : Ob} {nm : Nm} {n kh kt : Nat} (h : (outa lv t).run = some (e, vs, ob, nm, n, kh, kt)) : ∃ s po pn, t.run = some (e, s) ∧ s.ren po pn (lv e) = some (vs, ob, nm) ∧ s.tm.length = n ∧ s.kh = kh ∧ s.kt = kt := by
  unfold outa at h
  rw [Tr.run_bind] at h
  cases ht : t.run with
  | none => rw [ht] at h; cases h
  | some p =>
    rw [ht] at h
    obtain ⟨e', s⟩ := p
    simp only [Option.bind_some] at h
    split at h
    · rename_i r hl
      simp only [Tr.run, Option.some.injEq, Prod.mk.injEq] at h
      obtain ⟨rfl, rfl, rfl, rfl, rfl, rfl, rfl⟩ := h
      exact ⟨s, _, _, rfl, hl, rfl, rfl, rfl⟩
    · cases h
/-- A loop by induction: each round goes on to a state of the same kind that is nearer to the end, or leaves. -/
theorem SemL.ind {A : Type} {b : Code} (emb : A → St) (m : A → Nat) (out : A → Ex × St) (Inv : A → Prop)
    (h : ∀ a, Inv a → (∃ a', SemC P Γ b (emb a) .normal (emb a') ∧ Inv a' ∧ m a' < m a ∧ out a' = out a) ∨ ((out a).1.to ≠ .normal ∧ SemC P Γ b (emb a) (out a).1.to (out a).2)) :
    ∀ a, Inv a → SemL P Γ b (emb a) (out a).1.to (out a).2 := by
  have key : ∀ (k : Nat) a, m a ≤ k → Inv a → SemL P Γ b (emb a) (out a).1.to (out a).2 := by
    intro k
    induction k with
    | zero =>
      intro a hm hi
      rcases h a hi with ⟨a', h1, h2, h3, h4⟩ | ⟨h1, h2⟩
      · omega
      · exact SemL.out h1 h2
    | succ k ih =>
      intro a hm hi
      rcases h a hi with ⟨a', h1, h2, h3, h4⟩ | ⟨h1, h2⟩
      · have := ih a' (by omega) h2
        rw [h4] at this
        exact SemL.next h1 this
      · exact SemL.out h1 h2
  exact fun a hi => key _ a (Nat.le_refl _) hi
/-- A slice that is nil, as an empty buffer. -/
theorem St.birth {kh kt n : Nat} {lv : List Nat} {vs : List V} {ob : Ob} {nm : Nm} (k : Nat) {vs' : List V} (hv : vs' = vs.set k (.bs true nm.length 0 0)) (hk : vs[k]? = some (.lst .full [])) {c : BC} (hc : c.len = 0) (hlv : nodupB lv = true) (hlen : vs.length = lv.length) :
    St.imp Γ (St.of n lv vs ob nm kh kt) (St.of n lv vs' ob (nm ++ [some (.live c)]) kh kt) := by
  intro G a w hr
  subst hv
  refine ⟨?_, ?_, hr.df, hr.kh, hr.kt⟩
  · have hset : ∀ (lv : List Nat) (vs : List V) (l : List V) (k : Nat) (v v' : V) (cvs : List Value), nodupB lv = true → vs.length = lv.length → vs[k]? = some v → (∀ cv, VRel G v cv → VRel G v' cv) → Rels G (setVs lv vs l) cvs → Rels G (setVs lv (vs.set k v') l) cvs := by
      intro lv
      induction lv with
      | nil => intro vs l k v v' cvs _ hl hk; have : vs = [] := List.length_eq_zero_iff.1 hl; subst this; simp at hk
      | cons d ds ih =>
        intro vs l k v v' cvs hn hl hk hv hr
        simp only [nodupB, Bool.and_eq_true, Bool.not_eq_true', List.contains_eq_mem, decide_eq_false_iff_not] at hn
        cases vs with
        | nil => simp at hl
        | cons u us =>
          cases k with
          | zero =>
            simp at hk
            subst hk
            simp only [List.set_cons_zero, setVs] at hr ⊢
            -- the slot d is not written again
            have frame : ∀ (ds : List Nat) (us : List V) (l : List V), d ∉ ds → (setVs ds us l)[d]? = l[d]? ∧ (setVs ds us l).length = l.length := by
              intro ds
              induction ds with
              | nil => intro us l _; exact ⟨rfl, rfl⟩
              | cons e es ihe =>
                intro us l hd
                simp only [List.mem_cons, not_or] at hd
                cases us with
                | nil => exact ⟨rfl, rfl⟩
                | cons z zs =>
                  simp only [setVs]
                  obtain ⟨g1, g2⟩ := ihe zs (l.set e z) hd.2
                  exact ⟨g1.trans (List.getElem?_set_ne (Ne.symm hd.1)), g2.trans (by simp)⟩
            have other : ∀ (ds : List Nat) (us : List V) (l l' : List V), l.length = l'.length → (∀ j, j ≠ d → l[j]? = l'[j]?) → ∀ j, j ≠ d → (setVs ds us l)[j]? = (setVs ds us l')[j]? := by
              intro ds
              induction ds with
              | nil => intro us l l' _ h; simpa [setVs] using h
              | cons e es ihe =>
                intro us l l' hll h
                cases us with
                | nil => simpa [setVs] using h
                | cons z zs =>
                  simp only [setVs]
                  refine ihe zs _ _ (by simpa using hll) (fun j hj => ?_)
                  rw [List.getElem?_set, List.getElem?_set, hll, h j hj]
            have f1 := frame ds us (l.set d u) hn.1
            have f2 := frame ds us (l.set d v') hn.1
            refine ⟨by rw [f2.2, hr.1, f1.2]; simp, fun j x cv hx hcv => ?_⟩
            by_cases hj : j = d
            · subst hj
              rw [f2.1, List.getElem?_set] at hx
              split at hx
              · split at hx
                · rename_i hlt
                  cases hx
                  refine hv cv (hr.2 j u cv ?_ hcv)
                  rw [f1.1, List.getElem?_set_self hlt]
                · cases hx
              · rename_i hne; exact absurd rfl hne
            · rw [← other ds us (l.set d u) (l.set d v') (by simp) (fun i hi => by rw [List.getElem?_set_ne (Ne.symm hi), List.getElem?_set_ne (Ne.symm hi)]) j hj] at hx
              exact hr.2 j x cv hx hcv
          | succ k =>
            simp only [List.set_cons_succ, setVs] at hr ⊢
            exact ih us (l.set d u) k v v' cvs hn.2 (by simpa using hl) (by simpa using hk) hv hr
    exact hset lv vs _ k _ _ _ hlv hlen hk (fun cv h => by
      cases h with
      | lst0 => exact .bs0 _ _ _
      | @lst _ _ b off cap sz cvs h1 h2 h3 h4 h5 h6 =>
        have h6 : cap = 0 := h6
        subst h6
        exact .bs1 _ _ _ _ _) hr.tm
  · have h1 := hr.wr.padded 0 1
    simp only [List.replicate_zero, List.append_nil] at h1
    have h2 := h1.unborn (s := nm.length) (by simp [St.of]) hc
    have e : (nm ++ List.replicate 1 none).set nm.length (some (Bf.live c)) = nm ++ [some (.live c)] := by simp
    show WRel Γ G ob (nm ++ [some (.live c)]) w
    rw [← e]
    exact h2
end
end Go.Proofs.Ytnjjkobijjdnbaa

/- The evaluator with a table of loops: a loop that is listed is taken as its entry says, under names that follow from what is kept at its head. -/
set_option linter.unusedVariables false
set_option linter.unusedSimpArgs false
namespace Go.Proofs.Ytnjjkobijjdnbaa
open Go

section
variable {P : Program} {Γ : Nat → Option V} {cf : CallF}
def evCK (P : Program) (Γ : Nat → Option V) (cf : CallF) (lo : Nat → Option LEnt) (lv : List Nat) : Nat → Nat → Code → St → Tr (Ex × St)
  | 0, _, _, _ => .leaf none
  | n + 1, i, c, x =>
    match c with
    | .skip => .leaf (some (.normal, x))
    | .ret => .leaf (some (.ret, x))
    | .exit id => .leaf (some (.exit id, x))
    | .region _ ops draw => evRegionJ P Γ cf lv ops draw x
    | .seq a b => (evCK P Γ cf lo lv n i a x).bind fun p => match p.1 with | .normal => evCK P Γ cf lo lv n (i + (loops a).length) b p.2 | e => .leaf (some (e, p.2))
    | .cond c t f =>
      match (x.eval Γ c).bool? with
      | some (b, true) => .br b (evCK P Γ cf lo lv n i t x) (evCK P Γ cf lo lv n (i + (loops t).length) f x)
      | some (true, false) => evCK P Γ cf lo lv n i t x
      | some (false, false) => evCK P Γ cf lo lv n (i + (loops t).length) f x
      | none => .leaf none
    | .block id b => (evCK P Γ cf lo lv n i b x).bind fun p => match p.1 with | .exit j => if j = id then .leaf (some (.normal, p.2)) else .leaf (some (.exit j, p.2)) | e => .leaf (some (e, p.2))
    | .loop b =>
      match lo i with
      | none => (evCK P Γ cf lo lv n (i + 1) b x).bind fun p => match p.1 with | .normal => evCK P Γ cf lo lv n i (.loop b) p.2 | e => .leaf (some (e, p.2))
      | some e =>
        match Nat.beq x.tm.length e.n with
        | true =>
          match x.ren (x.autoN e.lv).1 (x.autoN e.lv).2 e.lv with
          | some r => match e.go x.kh x.kt r.1 r.2.1 r.2.2 with | some t => t | none => .leaf none
          | none => .leaf none
        | false => .leaf none
    | .rangeFunc g ps as bd => evRange P Γ cf g ps as bd x
    | _ => .leaf none
/-- Where a piece of code lies. -/
def Lies (root : Code) (i : Nat) (c : Code) : Prop := ∀ j b, (loops c)[j]? = some b → (loops root)[i + j]? = some b
theorem evCK_sound' (hcf : CallsOk P Γ cf) (hfit : CallsFit cf) (hm : P.follows .mixedOrders = true) {lo : Nat → Option LEnt} {lv : List Nat} {root : Code}
    (hlo : ∀ i e, lo i = some e → ∀ b, (loops root)[i]? = some b → ∀ kh kt vs ob nm t ex s, e.go kh kt vs ob nm = some t → t.run = some (ex, s) → SemL P Γ b (St.of e.n e.lv vs ob nm kh kt) ex.to s) :
    ∀ (n i : Nat) (c : Code) (x : St) (e : Ex) (x' : St), Lies root i c → (evCK P Γ cf lo lv n i c x).run = some (e, x') → SemC P Γ c x e.to x' ∧ ∀ b, c = .loop b → SemL P Γ b x e.to x'
  | 0, i, c, x, e, x', _, h => by cases h
  | n + 1, i, c, x, e, x', hl, h => by
    have ihl := evCK_sound' hcf hfit hm hlo (lv := lv) n
    have ih := fun i c x e x' hl h => (ihl i c x e x' hl h).1
    have hbind : ∀ {i : Nat} {c : Code} {y : St} {f : Ex × St → Tr (Ex × St)} {r : Ex × St}, ((evCK P Γ cf lo lv n i c y).bind f).run = some r → ∃ p, (evCK P Γ cf lo lv n i c y).run = some p ∧ (f p).run = some r := fun {i c y f r} hh => by
      rw [Tr.run_bind] at hh
      cases hp : (evCK P Γ cf lo lv n i c y).run with
      | none => rw [hp] at hh; cases hh
      | some p => rw [hp] at hh; exact ⟨p, rfl, hh⟩
    cases c with
    | skip => cases h; exact ⟨SemC.skip, fun b hb => by cases hb⟩
    | ret => cases h; exact ⟨SemC.ret, fun b hb => by cases hb⟩
    | exit id => cases h; exact ⟨SemC.exit, fun b hb => by cases hb⟩
    | region id ops draw => exact ⟨evRegionJ_sound hcf hfit hm h, fun b hb => by cases hb⟩
    | seq a b =>
      refine ⟨?_, fun b hb => by cases hb⟩
      have hla : Lies root i a := fun j c hj => hl j c (by
        simp only [loops]
        rw [List.getElem?_append_left (by
          rcases Nat.lt_or_ge j (loops a).length with hh | hh
          · exact hh
          · rw [List.getElem?_eq_none hh] at hj; cases hj)]
        exact hj)
      have hlb : Lies root (i + (loops a).length) b := fun j c hj => by
        have := hl ((loops a).length + j) c (by simp only [loops]; rw [List.getElem?_append_right (by omega)]; simpa using hj)
        rw [Nat.add_assoc]; exact this
      obtain ⟨⟨e1, x1⟩, h1, h2⟩ := hbind h
      cases e1 with
      | normal => exact SemC.seq (ih _ a x .normal x1 hla h1) (ih _ b x1 e x' hlb h2)
      | exit i => cases h2; exact SemC.seq_out (by simp [Ex.to]) (ih _ a x _ _ hla h1)
      | ret => cases h2; exact SemC.seq_out (by simp [Ex.to]) (ih _ a x _ _ hla h1)
    | cond q t f =>
      refine ⟨?_, fun b hb => by cases hb⟩
      have hla : Lies root i t := fun j c hj => hl j c (by
        simp only [loops]
        rw [List.getElem?_append_left (by
          rcases Nat.lt_or_ge j (loops t).length with hh | hh
          · exact hh
          · rw [List.getElem?_eq_none hh] at hj; cases hj)]
        exact hj)
      have hlb : Lies root (i + (loops t).length) f := fun j c hj => by
        have := hl ((loops t).length + j) c (by simp only [loops]; rw [List.getElem?_append_right (by omega)]; simpa using hj)
        rw [Nat.add_assoc]; exact this
      simp only [evCK] at h
      cases hq : (x.eval Γ q).bool? with
      | none => rw [hq] at h; cases h
      | some p =>
        obtain ⟨b, s⟩ := p
        rw [hq] at h
        intro ro G a w hr ho
        have hb := bool?_eq hq (hr.eval q)
        cases b
        · have h' : (evCK P Γ cf lo lv n (i + (loops t).length) f x).run = some (e, x') := by cases s <;> exact h
          exact wpIn_cond_false hb (ih _ f x e x' hlb h' ro G a w hr ho)
        · have h' : (evCK P Γ cf lo lv n i t x).run = some (e, x') := by cases s <;> exact h
          exact wpIn_cond_true hb (ih _ t x e x' hla h' ro G a w hr ho)
    | block id b =>
      refine ⟨?_, fun b hb => by cases hb⟩
      have hl' : Lies root i b := fun j c hj => hl j c hj
      obtain ⟨⟨e1, x1⟩, h1, h2⟩ := hbind h
      cases e1 with
      | normal => cases h2; exact SemC.block (by simp [Ex.to]) (ih _ b x _ _ hl' h1)
      | ret => cases h2; exact SemC.block (by simp [Ex.to]) (ih _ b x _ _ hl' h1)
      | exit j =>
        simp only [] at h2
        split at h2
        · rename_i hi; subst hi; cases h2; exact SemC.block_exit (ih _ b x _ _ hl' h1)
        · rename_i hi; cases h2; exact SemC.block (by simpa [Ex.to] using hi) (ih _ b x _ _ hl' h1)
    | loop b =>
      have hl' : Lies root (i + 1) b := fun j c hj => by
        have := hl (j + 1) c (by simp only [loops]; simpa using hj)
        rw [show i + 1 + j = i + (j + 1) by omega]; exact this
      have key : SemL P Γ b x e.to x' := by
        simp only [evCK] at h
        cases hk : lo i with
        | none =>
          rw [hk] at h
          obtain ⟨⟨e1, x1⟩, h1, h2⟩ := hbind h
          cases e1 with
          | normal => exact SemL.next (ih _ b x .normal x1 hl' h1) ((ihl i (.loop b) x1 e x' hl h2).2 b rfl)
          | exit i => cases h2; exact SemL.out (by simp [Ex.to]) (ih _ b x _ _ hl' h1)
          | ret => cases h2; exact SemL.out (by simp [Ex.to]) (ih _ b x _ _ hl' h1)
        | some le =>
          rw [hk] at h
          simp only [] at h
          split at h
          · rename_i hn
            split at h
            · rename_i r hren
              split at h
              · rename_i t ht
                exact (hlo i le hk b (hl 0 b (by simp [loops])) _ _ _ _ _ t e x' ht h).preRen (Nat.eq_of_beq_eq_true hn) hren
              · cases h
            · cases h
          · cases h
      exact ⟨SemC.loop key, fun b' hb => by cases hb; exact key⟩
    | rangeFunc g ps as bd => exact ⟨evRange_sound hcf h, fun b hb => by cases hb⟩
    | _ => cases h
def evFK (P : Program) (Γ : Nat → Option V) (cf : CallF) (lo : LOrc) (lv : List Nat) (n : Nat) (f : FuncId) (args : List V) (ob : Ob) (nm : Nm) : Tr (V × St) :=
  match P.funcs[f]? with
  | none => .leaf none
  | some fn =>
    match fn.body with
    | none => .leaf none
    | some c =>
      if fn.name == "runtime.NumGoroutine" then .leaf none else
      (evCK P Γ cf (lo f) lv n 0 c (St.start fn.ntmps args ob nm)).bind fun p =>
        match p.1 with
        | .exit _ => .leaf none
        | _ => match resV P p.2 fn.results.toList with | some v => .leaf (some (v, p.2)) | none => .leaf none
theorem evFK_sound (hcf : CallsOk P Γ cf) (hfit : CallsFit cf) (hm : P.follows .mixedOrders = true) {lo : LOrc} (hlo : LOrcOk P Γ lo) {lv : List Nat} {n : Nat} {f : FuncId} {args : List V} {ob : Ob} {nm : Nm} {v : V} {x : St} (h : (evFK P Γ cf lo lv n f args ob nm).run = some (v, x)) :
    SemF P Γ f args ob nm v x.ob x.nm := by
  unfold evFK at h
  cases hf : P.funcs[f]? with
  | none => rw [hf] at h; cases h
  | some fn =>
    rw [hf] at h
    simp only [] at h
    cases hb : fn.body with
    | none => rw [hb] at h; cases h
    | some c =>
      rw [hb] at h
      simp only [] at h
      split at h
      · cases h
      · rw [Tr.run_bind] at h
        cases hc : (evCK P Γ cf (lo f) lv n 0 c (St.start fn.ntmps args ob nm)).run with
        | none => rw [hc] at h; cases h
        | some p =>
          obtain ⟨e, y⟩ := p
          rw [hc] at h
          simp only [Option.bind_some] at h
          have hlo' : ∀ i e, lo f i = some e → ∀ b, (loops c)[i]? = some b → ∀ kh kt vs ob nm t ex s, e.go kh kt vs ob nm = some t → t.run = some (ex, s) → SemL P Γ b (St.of e.n e.lv vs ob nm kh kt) ex.to s := fun i e he b hb' => by
            obtain ⟨fn', c', b', h1, h2, h3, h4⟩ := hlo f i e he
            rw [hf] at h1
            obtain rfl := Option.some.inj h1
            rw [hb] at h2
            obtain rfl := Option.some.inj h2
            rw [hb'] at h3
            obtain rfl := Option.some.inj h3
            exact h4
          have hs := (evCK_sound' hcf hfit hm hlo' n 0 c _ e y (fun j b hj => by simpa using hj) hc).1
          have key : ∀ v', resV P y fn.results.toList = some v' → (e = .ret ∨ e = .normal) → SemF P Γ f args ob nm v' y.ob y.nm := fun v' hv he =>
            SemF.of_body hf hb (by rcases he with rfl | rfl <;> simp [Ex.to]) hs hv
          cases e with
          | exit i => cases h
          | ret =>
            simp only [] at h
            cases hv : resV P y fn.results.toList with
            | none => rw [hv] at h; cases h
            | some v' => rw [hv] at h; cases h; exact key _ hv (.inl rfl)
          | normal =>
            simp only [] at h
            cases hv : resV P y fn.results.toList with
            | none => rw [hv] at h; cases h
            | some v' => rw [hv] at h; cases h; exact key _ hv (.inr rfl)
theorem LOrcOk.none : LOrcOk P Γ (fun _ _ => Option.none) := fun f i e h => by cases h
theorem Lies.of_take {root c : Code} {i n : Nat} (h : loops c = ((loops root).drop i).take n) : Lies root i c := fun j b hj => by
  rw [h, List.getElem?_take, List.getElem?_drop] at hj
  split at hj
  · exact hj
  · cases hj
end
end Go.Proofs.Ytnjjkobijjdnbaa

