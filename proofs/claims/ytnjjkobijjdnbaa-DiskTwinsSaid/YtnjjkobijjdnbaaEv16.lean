/- The evaluator of code and functions, and its soundness. -/
import Derived.Test.YtnjjkobijjdnbaaEv15b
set_option linter.unusedVariables false
set_option linter.unusedSimpArgs false
namespace Go.Proofs.Ytnjjkobijjdnbaa
open Go

section
variable {P : Program} {Γ : Nat → Option V} {cf : CallF} {ops : Array Oper} {base : Nat}

/-- A region's steps as a tree. -/
def evReg (P : Program) (Γ : Nat → Option V) (cf : CallF) (ops : Array Oper) (base : Nat) : Nat → Nat → St → Tr (St × List (Option Eff))
  | 0, _, x => .leaf (some (x, []))
  | n + 1, i, x =>
    match ops[i]? with
    | none => (evReg P Γ cf ops base n (i + 1) x).bind fun p => .leaf (some (p.1, none :: p.2))
    | some o =>
      match wantedL ops x.tm o with
      | none => .leaf none
      | some false => (evReg P Γ cf ops base n (i + 1) (x.put o.dst (.tup []))).bind fun p => .leaf (some (p.1, none :: p.2))
      | some true =>
        match evE P cf (slotOf ops base i) o (x.eval Γ) x.ob x.nm with
        | none => .leaf none
        | some out =>
          Tr.chk out.chk out.sy (match isGd ops i, out.v with
            | true, .sb b => .br b ((evReg P Γ cf ops base n (i + 1) (x.after out o.dst (.b true))).bind fun p => .leaf (some (p.1, some out.eff :: p.2)))
                ((evReg P Γ cf ops base n (i + 1) (x.after out o.dst (.b false))).bind fun p => .leaf (some (p.1, some out.eff :: p.2)))
            | _, v => (evReg P Γ cf ops base n (i + 1) (x.after out o.dst v)).bind fun p => .leaf (some (p.1, some out.eff :: p.2)))
theorem evReg_run : ∀ (n i : Nat) (x : St), (evReg P Γ cf ops base n i x).run = chain P Γ cf ops base n i x
  | 0, i, x => rfl
  | n + 1, i, x => by
    have hb : ∀ (y : St) (ef : Option Eff), ((evReg P Γ cf ops base n (i + 1) y).bind fun p => Tr.leaf (some (p.1, ef :: p.2))).run = (match chain P Γ cf ops base n (i + 1) y with | none => none | some (x2, es) => some (x2, ef :: es)) := fun y ef => by
      rw [Tr.run_bind, evReg_run n (i + 1) y]
      cases chain P Γ cf ops base n (i + 1) y with
      | none => rfl
      | some p => rfl
    simp only [evReg, chain, stp]
    cases ho : ops[i]? with
    | none => exact hb x none
    | some o =>
      simp only []
      cases hw : wantedL ops x.tm o with
      | none => rfl
      | some t =>
        cases t with
        | false => exact hb _ none
        | true =>
          simp only []
          cases he : evE P cf (slotOf ops base i) o (x.eval Γ) x.ob x.nm with
          | none => rfl
          | some out =>
            simp only [Tr.run_chk]
            by_cases hc : out.chk = true
            · simp only [hc, if_true]
              cases hg : isGd ops i with
              | false => simp only [litG]; exact hb _ _
              | true =>
                cases hv : out.v with
                | sb b => cases b <;> exact hb _ _
                | _ => simp only [litG]; exact hb _ _
            · simp [hc]

inductive Ex where
  | normal | exit (id : Nat) | ret
def Ex.to : Ex → Exit
  | .normal => .normal
  | .exit id => .exit id
  | .ret => .ret
def padK (ops : Array Oper) : Nat := (ops.toList.filter allocs).length
def St.basis (x : St) : Nat := max x.ob.length x.nm.length
def St.pad (x : St) (k : Nat) : St :=
  match k with
  | 0 => x
  | k + 1 => { x with ob := x.ob ++ List.replicate (x.basis + (k + 1) - x.ob.length) none, nm := x.nm ++ List.replicate (x.basis + (k + 1) - x.nm.length) none }
def evRegion (P : Program) (Γ : Nat → Option V) (cf : CallF) (ops : Array Oper) (draw : Bool) (x : St) : Tr (Ex × St) :=
  match draw with
  | false => (evReg P Γ cf ops x.basis ops.size 0 (x.pad (padK ops))).bind fun p => .leaf (some (.normal, p.1))
  | true =>
    match Region.lexB .any ops with
    | true => (evReg P Γ cf ops x.basis ops.size 0 (x.pad (padK ops))).bind fun p => match commAll ops p.2 with | true => .leaf (some (.normal, p.1)) | false => .leaf none
    | false => .leaf none
/-- A range over a function: the function is called with yield. -/
def evRange (P : Program) (Γ : Nat → Option V) (cf : CallF) (g : Operand) (ps : Array Tmp) (as bd : Code) (x : St) : Tr (Ex × St) :=
  match x.eval Γ g with
  | .fn (.func f) first cap =>
    match Nat.beq f yid with
    | true => .leaf none
    | false =>
      match cf f (first ++ .yl x.tm ps as bd :: cap) x.ob x.nm with
      | some out =>
        match noYm (out.eff.ob x.ob) (out.eff.nm x.nm) with
        | true =>
          match out.sy with
          | true => .br out.chk (.leaf (some (.normal, { x with ob := out.eff.ob x.ob, nm := out.eff.nm x.nm }))) (.leaf none)
          | false => match out.chk with | true => .leaf (some (.normal, { x with ob := out.eff.ob x.ob, nm := out.eff.nm x.nm })) | false => .leaf none
        | false => .leaf none
      | none => .leaf none
  | _ => .leaf none
def evC (P : Program) (Γ : Nat → Option V) (cf : CallF) : Nat → Code → St → Tr (Ex × St)
  | 0, _, _ => .leaf none
  | n + 1, c, x =>
    match c with
    | .skip => .leaf (some (.normal, x))
    | .ret => .leaf (some (.ret, x))
    | .exit id => .leaf (some (.exit id, x))
    | .region _ ops draw => evRegion P Γ cf ops draw x
    | .seq a b => (evC P Γ cf n a x).bind fun p => match p.1 with | .normal => evC P Γ cf n b p.2 | e => .leaf (some (e, p.2))
    | .cond c t f =>
      match (x.eval Γ c).bool? with
      | some (b, true) => .br b (evC P Γ cf n t x) (evC P Γ cf n f x)
      | some (true, false) => evC P Γ cf n t x
      | some (false, false) => evC P Γ cf n f x
      | none => .leaf none
    | .block id b => (evC P Γ cf n b x).bind fun p => match p.1 with | .exit i => if i = id then .leaf (some (.normal, p.2)) else .leaf (some (.exit i, p.2)) | e => .leaf (some (e, p.2))
    | .loop b => (evC P Γ cf n b x).bind fun p => match p.1 with | .normal => evC P Γ cf n (.loop b) p.2 | e => .leaf (some (e, p.2))
    | .rangeFunc g ps as bd => evRange P Γ cf g ps as bd x
    | _ => .leaf none

theorem rep_get {α : Type} {l : List (Option α)} {k o : Nat} {c : Option α} (hc : (l ++ List.replicate k none)[o]? = some c) : l[o]? = some c ∨ (l.length ≤ o ∧ c = none) := by
  rcases Nat.lt_or_ge o l.length with hl | hl
  · rw [List.getElem?_append_left hl] at hc; exact .inl hc
  · rw [List.getElem?_append_right hl, List.getElem?_replicate] at hc
    split at hc
    · simp at hc; exact .inr ⟨hl, hc.symm⟩
    · cases hc
theorem WRel.padded {G : Gh} {ob : Ob} {nm : Nm} {w : World} (h : WRel Γ G ob nm w) (k m : Nat) : WRel Γ G (ob ++ List.replicate k none) (nm ++ List.replicate m none) w :=
  { h with
    hob := fun o cs b h1 h2 => by
      rcases rep_get h1 with h1 | ⟨_, h1⟩
      · exact h.hob o cs b h1 h2
      · cases h1
    hlt := fun o b h1 => ⟨by have := (h.hlt o b h1).1; simp; omega, (h.hlt o b h1).2⟩
    habs := fun o h1 => by
      rcases rep_get h1 with h1 | ⟨h1, _⟩
      · exact h.habs o h1
      · cases hh : G.H o with
        | none => rfl
        | some b => have := (h.hlt o b hh).1; omega
    hnm := fun n c x h1 h2 => by
      rcases rep_get h1 with h1 | ⟨_, h1⟩
      · exact h.hnm n c x h1 h2
      · cases h1
    hno := fun n c h1 h2 => by
      rcases rep_get h1 with h1 | ⟨_, h1⟩
      · exact h.hno n c h1 h2
      · cases h1
    nmd := fun n n' c c' x x' hn h1 h2 h3 h4 => by
      rcases rep_get h1 with h1 | ⟨_, h1⟩
      · rcases rep_get h2 with h2 | ⟨_, h2⟩
        · exact h.nmd n n' c c' x x' hn h1 h2 h3 h4
        · cases h2
      · cases h1
    tabs := fun n h1 => by
      rcases rep_get h1 with h1 | ⟨h1, _⟩
      · exact h.tabs n h1
      · cases hh : G.T n with
        | none => rfl
        | some b => have := h.tlt n b hh; omega
    tlt := fun n x h1 => by have := h.tlt n x h1; simp; omega
    dd := h.dd
    kdle := h.kdle }
theorem Rel.pad {G : Gh} {x : St} {a : Act} {w : World} (h : Rel Γ G x a w) (k : Nat) : Rel Γ G (x.pad k) a w := by
  cases k with
  | zero => exact h
  | succ k => exact ⟨h.tm, h.wr.padded _ _, h.df, h.kh, h.kt⟩
theorem pad_free (x : St) : Free ops x.basis 0 (x.pad (padK ops)) := by
  intro j o _ ho hal
  have hj : j < ops.toList.length := by
    rcases Nat.lt_or_ge j ops.toList.length with h | h
    · exact h
    · have : ops.toList[j]? = some o := by simpa using ho
      rw [List.getElem?_eq_none h] at this
      cases this
  have h1 : ops.toList.take (j + 1) = ops.toList.take j ++ [o] := by
    rw [List.take_succ_eq_append_getElem hj]
    congr 2
    have : ops.toList[j]? = some o := by simpa using ho
    rw [List.getElem?_eq_getElem hj] at this
    exact Option.some.inj this
  have h2 : ((ops.toList.take j).filter allocs).length + 1 = ((ops.toList.take (j + 1)).filter allocs).length := by rw [h1]; simp [hal]
  have h3 : ((ops.toList.take (j + 1)).filter allocs).length ≤ padK ops := ((List.take_sublist _ _).filter _).length_le
  have b1 : x.ob.length ≤ x.basis := Nat.le_max_left _ _
  have b2 : x.nm.length ≤ x.basis := Nat.le_max_right _ _
  cases hp : padK ops with
  | zero => omega
  | succ k =>
    simp only [St.pad, slotOf]
    rw [hp] at h3
    rw [List.getElem?_append_right (by omega), List.getElem?_append_right (by omega), List.getElem?_replicate, List.getElem?_replicate, if_pos (by omega), if_pos (by omega)]
    exact ⟨rfl, rfl⟩
theorem SemC.of_pad {c : Code} {x x' : St} {e : Exit} {k : Nat} (h : SemC P Γ c (x.pad k) e x') : SemC P Γ c x e x' := fun ro G a w hr ho => h ro G a w (hr.pad k) ho

theorem evRegion_sound (hcf : CallsOk P Γ cf) (hfit : CallsFit cf) (hm : P.follows .mixedOrders = true) {id : Nat} {draw : Bool} {x : St} {e : Ex} {x' : St} (h : (evRegion P Γ cf ops draw x).run = some (e, x')) : SemC P Γ (.region id ops draw) x e.to x' := by
  unfold evRegion at h
  cases draw with
  | false =>
    simp only [Tr.run_bind, evReg_run] at h
    cases hc : chain P Γ cf ops x.basis ops.size 0 (x.pad (padK ops)) with
    | none => rw [hc] at h; cases h
    | some p =>
      rw [hc] at h
      cases h
      exact SemC.of_pad (SemC.region_chain hcf hfit (pad_free x) hc)
  | true =>
    simp only [] at h
    cases hB : Region.lexB .any ops with
    | false => rw [hB] at h; cases h
    | true =>
      rw [hB] at h
      simp only [Tr.run_bind, evReg_run] at h
      cases hc : chain P Γ cf ops x.basis ops.size 0 (x.pad (padK ops)) with
      | none => rw [hc] at h; cases h
      | some p =>
        rw [hc] at h
        simp only [Option.bind_some] at h
        cases hco : commAll ops p.2 with
        | false => rw [hco] at h; cases h
        | true =>
          rw [hco] at h
          cases h
          exact SemC.of_pad (SemC.region_draw hcf hfit hm hB (pad_free x) hc hco)

theorem evRange_sound (hcf : CallsOk P Γ cf) {g : Operand} {ps : Array Tmp} {as bd : Code} {x : St} {e : Ex} {x' : St} (h : (evRange P Γ cf g ps as bd x).run = some (e, x')) : SemC P Γ (.rangeFunc g ps as bd) x e.to x' := by
  unfold evRange at h
  split at h
  · rename_i f first cap hx
    split at h
    · cases h
    · rename_i hne
      split at h
      · rename_i out ho
        split at h
        · rename_i hY
          have key : out.chk = true ∧ e = .normal ∧ x' = { x with ob := out.eff.ob x.ob, nm := out.eff.nm x.nm } := by
            split at h
            · simp only [Tr.run] at h
              cases hc : out.chk <;> rw [hc] at h <;> simp [Tr.run] at h
              exact ⟨rfl, h.1.symm, h.2.symm⟩
            · split at h
              · rename_i hc
                simp [Tr.run] at h
                exact ⟨hc, h.1.symm, h.2.symm⟩
              · simp [Tr.run] at h
          obtain ⟨hchk, rfl, rfl⟩ := key
          obtain ⟨h1, hn⟩ := hcf _ _ _ _ _ ho hchk
          rcases hn with ⟨e, _⟩ | ⟨_, fn, h2, h3, h4⟩
          · exact absurd e (beq_ne hne)
          · exact SemC.rangeFunc hx h2 h3 h4 h1 hY
        · cases h
      · cases h
  · cases h
theorem evC_sound' (hcf : CallsOk P Γ cf) (hfit : CallsFit cf) (hm : P.follows .mixedOrders = true) : ∀ (n : Nat) (c : Code) (x : St) (e : Ex) (x' : St), (evC P Γ cf n c x).run = some (e, x') → SemC P Γ c x e.to x' ∧ ∀ b, c = .loop b → SemL P Γ b x e.to x'
  | 0, c, x, e, x', h => by cases h
  | n + 1, c, x, e, x', h => by
    have ihl := evC_sound' hcf hfit hm n
    have ih := fun c x e x' h => (ihl c x e x' h).1
    have hbind : ∀ {c : Code} {y : St} {f : Ex × St → Tr (Ex × St)} {r : Ex × St}, ((evC P Γ cf n c y).bind f).run = some r → ∃ p, (evC P Γ cf n c y).run = some p ∧ (f p).run = some r := fun {c y f r} hh => by
      rw [Tr.run_bind] at hh
      cases hp : (evC P Γ cf n c y).run with
      | none => rw [hp] at hh; cases hh
      | some p => rw [hp] at hh; exact ⟨p, rfl, hh⟩
    cases c with
    | skip => cases h; exact ⟨SemC.skip, fun b hb => by cases hb⟩
    | ret => cases h; exact ⟨SemC.ret, fun b hb => by cases hb⟩
    | exit id => cases h; exact ⟨SemC.exit, fun b hb => by cases hb⟩
    | region id ops draw => exact ⟨evRegion_sound hcf hfit hm h, fun b hb => by cases hb⟩
    | seq a b =>
      refine ⟨?_, fun b hb => by cases hb⟩
      obtain ⟨⟨e1, x1⟩, h1, h2⟩ := hbind h
      cases e1 with
      | normal => exact SemC.seq (ih a x .normal x1 h1) (ih b x1 e x' h2)
      | exit i => cases h2; exact SemC.seq_out (by simp [Ex.to]) (ih a x _ _ h1)
      | ret => cases h2; exact SemC.seq_out (by simp [Ex.to]) (ih a x _ _ h1)
    | cond q t f =>
      refine ⟨?_, fun b hb => by cases hb⟩
      simp only [evC] at h
      cases hq : (x.eval Γ q).bool? with
      | none => rw [hq] at h; cases h
      | some p =>
        obtain ⟨b, s⟩ := p
        rw [hq] at h
        intro ro G a w hr ho
        have hb := bool?_eq hq (hr.eval q)
        cases b
        · have h' : (evC P Γ cf n f x).run = some (e, x') := by cases s <;> exact h
          exact wpIn_cond_false hb (ih f x e x' h' ro G a w hr ho)
        · have h' : (evC P Γ cf n t x).run = some (e, x') := by cases s <;> exact h
          exact wpIn_cond_true hb (ih t x e x' h' ro G a w hr ho)
    | block id b =>
      refine ⟨?_, fun b hb => by cases hb⟩
      obtain ⟨⟨e1, x1⟩, h1, h2⟩ := hbind h
      cases e1 with
      | normal => cases h2; exact SemC.block (by simp [Ex.to]) (ih b x _ _ h1)
      | ret => cases h2; exact SemC.block (by simp [Ex.to]) (ih b x _ _ h1)
      | exit i =>
        simp only [] at h2
        split at h2
        · rename_i hi; subst hi; cases h2; exact SemC.block_exit (ih b x _ _ h1)
        · rename_i hi; cases h2; exact SemC.block (by simpa [Ex.to] using hi) (ih b x _ _ h1)
    | loop b =>
      have key : SemL P Γ b x e.to x' := by
        obtain ⟨⟨e1, x1⟩, h1, h2⟩ := hbind h
        cases e1 with
        | normal => exact SemL.next (ih b x .normal x1 h1) ((ihl (.loop b) x1 e x' h2).2 b rfl)
        | exit i => cases h2; exact SemL.out (by simp [Ex.to]) (ih b x _ _ h1)
        | ret => cases h2; exact SemL.out (by simp [Ex.to]) (ih b x _ _ h1)
      exact ⟨SemC.loop key, fun b' hb => by cases hb; exact key⟩
    | rangeFunc g ps as bd => exact ⟨evRange_sound hcf h, fun b hb => by cases hb⟩
    | _ => cases h
theorem evC_sound (hcf : CallsOk P Γ cf) (hfit : CallsFit cf) (hm : P.follows .mixedOrders = true) {n : Nat} {c : Code} {x : St} {e : Ex} {x' : St} (h : (evC P Γ cf n c x).run = some (e, x')) : SemC P Γ c x e.to x' := (evC_sound' hcf hfit hm n c x e x' h).1

/-! ### Functions -/
/-- What a function comes to. -/
def evF (P : Program) (Γ : Nat → Option V) (cf : CallF) (n : Nat) (f : FuncId) (args : List V) (ob : Ob) (nm : Nm) : Tr (V × St) :=
  match P.funcs[f]? with
  | none => .leaf none
  | some fn =>
    match fn.body with
    | none => .leaf none
    | some c =>
      if fn.name == "runtime.NumGoroutine" then .leaf none else
      (evC P Γ cf n c (St.start fn.ntmps args ob nm)).bind fun p =>
        match p.1 with
        | .exit _ => .leaf none
        | _ => match resV P p.2 fn.results.toList with | some v => .leaf (some (v, p.2)) | none => .leaf none
theorem evF_sound (hcf : CallsOk P Γ cf) (hfit : CallsFit cf) (hm : P.follows .mixedOrders = true) {n : Nat} {f : FuncId} {args : List V} {ob : Ob} {nm : Nm} {v : V} {x : St} (h : (evF P Γ cf n f args ob nm).run = some (v, x)) :
    SemF P Γ f args ob nm v x.ob x.nm ∧ ∃ fn, P.funcs[f]? = some fn ∧ fn.body.isSome = true ∧ (fn.name == "runtime.NumGoroutine") = false := by
  unfold evF at h
  cases hf : P.funcs[f]? with
  | none => rw [hf] at h; cases h
  | some fn =>
    rw [hf] at h
    simp only [] at h
    cases hb : fn.body with
    | none => rw [hb] at h; cases h
    | some c =>
      rw [hb] at h
      simp only [] at h
      split at h
      · cases h
      · rename_i hn
        refine ⟨?_, fn, rfl, by rw [hb]; rfl, by simpa using hn⟩
        rw [Tr.run_bind] at h
        cases hc : (evC P Γ cf n c (St.start fn.ntmps args ob nm)).run with
        | none => rw [hc] at h; cases h
        | some p =>
          obtain ⟨e, y⟩ := p
          rw [hc] at h
          simp only [Option.bind_some] at h
          have hs := evC_sound hcf hfit hm hc
          have key : ∀ v', resV P y fn.results.toList = some v' → (e = .ret ∨ e = .normal) → SemF P Γ f args ob nm v' y.ob y.nm := fun v' hv he =>
            SemF.of_body hf hb (by rcases he with rfl | rfl <;> simp [Ex.to]) hs hv
          cases e with
          | exit i => cases h
          | ret =>
            simp only [] at h
            cases hv : resV P y fn.results.toList with
            | none => rw [hv] at h; cases h
            | some v' => rw [hv] at h; cases h; exact key _ hv (.inl rfl)
          | normal =>
            simp only [] at h
            cases hv : resV P y fn.results.toList with
            | none => rw [hv] at h; cases h
            | some v' => rw [hv] at h; cases h; exact key _ hv (.inr rfl)
open Classical in
/-- What the function made for itself goes; what the value shows of it never changes from here on. -/
theorem SemF.drop {f : FuncId} {args : List V} {v v' : V} {ob1 : Ob} {nm1 : Nm} (h : SemF P Γ f args [] [] v ob1 nm1) (hc : v.cl (lendP ob1 nm1) = some v') : SemF P Γ f args [] [] v' [] [] := by
  intro G w cargs hw hr
  refine (h G w cargs hw hr).mono ?_
  rintro e w' ⟨cv, G1, rfl, hle, hv, hw1⟩
  have hH : ∀ o b, G.H o ≠ some b := fun o b hh => by have := (hw.hlt o b hh).1; simp at this
  have hT : ∀ n t, G.T n ≠ some t := fun n t hh => by have := hw.tlt n t hh; simp at this
  let M1 : Nat → Nat → Option Value := fun b off => if Lent G1 ob1 nm1 b then w'.cell? ⟨b, off, none⟩ else G1.M b off
  have hM : ∀ b off cv, G1.M b off = some cv → M1 b off = some cv := fun b off cv hm => by
    show (if _ then _ else _) = _
    split
    · exact hw1.m b off cv hm
    · exact hm
  let G2 : Gh := { M := M1, H := fun _ => none, T := fun _ => none, D := G1.D, kh := G1.kh, kt := G1.kt, w0 := G1.w0, M0 := G1.M0, kd := G1.kd }
  have hb0 : G1.bare.sub G2 := ⟨hM, (fun _ _ h => by cases h), (fun _ _ h => by cases h), (fun _ _ h => by cases h)⟩
  have hold : ∀ b, Lent G1 ob1 nm1 b → G1.w0.own b := fun b hb => by
    rcases hb with ⟨o, cs, h1, h2⟩ | ⟨n, c, x, h1, h2, rfl⟩
    · exact (hw1.hob o cs b h1 h2).1
    · exact (hw1.hnm n c x h1 h2).old
  refine ⟨cv, G2, rfl, ⟨⟨fun b off cv hm => hM b off cv (hle.m b off cv hm), fun o b hh => absurd hh (hH o b), fun n t hh => absurd hh (hT n t), hle.d⟩, hle.kh, hle.kt, hle.w0, hle.m0, hle.kd⟩,
    VRel.cl (lendP_cell ob1 nm1) hM (lendP_rel hw1 (fun b hb off => if_pos hb) hb0) hv hc, ?_⟩
  exact {
    m := fun b off cv hm => by
      have hm : (if Lent G1 ob1 nm1 b then w'.cell? ⟨b, off, none⟩ else G1.M b off) = some cv := hm
      split at hm
      · exact hm
      · exact hw1.m b off cv hm
    hob := fun o cs b h1 h2 => by simp at h1
    hlt := fun o b h1 => by cases h1
    habs := fun o h1 => rfl
    inj := fun o o' b h1 h2 => by cases h1
    hnm := fun n c x h1 h2 => by simp at h1
    hno := fun n c h1 => by simp at h1
    nmd := fun n n' c c' x x' _ h1 => by simp at h1
    tabs := fun n _ => rfl
    tlt := fun n t h1 => by cases h1
    dd := hw1.dd
    kdle := hw1.kdle
    gl := fun g v hg => (hw1.gl g v hg).mono' hb0.bare
    mold := fun b off hb => by
      show (if Lent G1 ob1 nm1 b then w'.cell? ⟨b, off, none⟩ else G1.M b off) = G1.M0 b off
      rw [if_neg (fun hl => hb (hold b hl))]
      exact hw1.mold b off hb
    os := hw1.os
    tape := hw1.tape
    output := hw1.output
    size := hw1.size
    block := hw1.block }
/-- A weaker value. -/
theorem SemF.weaken {f : FuncId} {args : List V} {v v' : V} {ob ob1 : Ob} {nm nm1 : Nm} (h : SemF P Γ f args ob nm v ob1 nm1) (hw : ∀ (G : Gh) (cv : Value), VRel G v cv → VRel G v' cv) : SemF P Γ f args ob nm v' ob1 nm1 :=
  fun G w cargs h1 h2 => (h G w cargs h1 h2).mono fun e w' ⟨cv, G1, h3, h4, h5, h6⟩ => ⟨cv, G1, h3, h4, hw _ _ h5, h6⟩

/-- The ways' values in one. -/
inductive MRes where
  | bad | dead | ok (c : Option Bool) (v : V)
def MRes.mg (b : Bool) : MRes → MRes → MRes
  | .bad, _ => .bad
  | _, .bad => .bad
  | .dead, .dead => .dead
  | .ok c v, .dead => .ok (some (match c with | none => b | some c => b && c)) v
  | .dead, .ok c v => .ok (some (match c with | none => !b | some c => !b && c)) v
  | .ok c v, .ok d u =>
    match mergeV b v u with
    | some z => .ok (match c, d with | none, none => none | some c, none => some (!b || c) | none, some d => some (b || d) | some c, some d => some (bif b then c else d)) z
    | none => .bad
def mergeT : Tr (V × St) → MRes
  | .leaf none => .dead
  | .leaf (some p) => match p.1.cl (lendP p.2.ob p.2.nm) with | some v => .ok none v | none => .bad
  | .br b x y => (mergeT x).mg b (mergeT y)
theorem mergeT_run : ∀ (t : Tr (V × St)) (c : Option Bool) (v : V), mergeT t = .ok c v → c.getD true = true → ∃ u s u', t.run = some (u, s) ∧ u.cl (lendP s.ob s.nm) = some u' ∧ ∀ (G : Gh) (cv : Value), VRel G u' cv → VRel G v cv
  | .leaf none, c, v, h, _ => by cases h
  | .leaf (some p), c, v, h, _ => by
    simp only [mergeT] at h
    split at h
    · rename_i q hq; cases h; exact ⟨p.1, p.2, _, rfl, hq, fun _ _ h => h⟩
    · cases h
  | .br b x y, c, v, h, hc => by
    simp only [mergeT] at h
    cases hx : mergeT x with
    | bad => rw [hx] at h; cases h
    | dead =>
      cases hy : mergeT y with
      | bad => rw [hx, hy] at h; cases h
      | dead => rw [hx, hy] at h; cases h
      | ok d u =>
        rw [hx, hy] at h
        cases h
        have hc' : b = false ∧ d.getD true = true := by cases d <;> simpa using hc
        obtain ⟨rfl, hd⟩ := hc'
        exact mergeT_run y d _ hy hd
    | ok d u =>
      cases hy : mergeT y with
      | bad => rw [hx, hy] at h; cases h
      | dead =>
        rw [hx, hy] at h
        cases h
        have hc' : b = true ∧ d.getD true = true := by cases d <;> simpa using hc
        obtain ⟨rfl, hd⟩ := hc'
        exact mergeT_run x d _ hx hd
      | ok d2 u2 =>
        rw [hx, hy] at h
        simp only [MRes.mg] at h
        split at h
        · rename_i z hz
          cases h
          have hm := mergeV_ok b u u2 v hz
          have hcc : (bif b then d.getD true else d2.getD true) = true := by
            cases b <;> cases d <;> cases d2 <;> first | rfl | simpa using hc
          cases b with
          | true =>
            obtain ⟨q, s, q', h1, h2, h3⟩ := mergeT_run x d u hx hcc
            exact ⟨q, s, q', h1, h2, fun G cv hr => hm G cv (h3 G cv hr)⟩
          | false =>
            obtain ⟨q, s, q', h1, h2, h3⟩ := mergeT_run y d2 u2 hy hcc
            exact ⟨q, s, q', h1, h2, fun G cv hr => hm G cv (h3 G cv hr)⟩
        · cases h

/-- Functions that are known by a contract. -/
abbrev Orc := FuncId → List V → Option (Option Bool × V)
def OrcOk (P : Program) (Γ : Nat → Option V) (orc : Orc) : Prop :=
  ∀ f args c v, orc f args = some (c, v) → c.getD true = true → SemF P Γ f args [] [] v [] [] ∧ ∃ fn, P.funcs[f]? = some fn ∧ fn.body.isSome = true ∧ (fn.name == "runtime.NumGoroutine") = false
mutual
def V.refs : V → List Nat
  | .ptr o _ => [o]
  | .sl o _ _ => [o]
  | .pel xs _ _ => V.refsL xs
  | .lst _ xs => V.refsL xs
  | .fn _ a c => V.refsL a ++ V.refsL c
  | .ifc _ x => V.refs x
  | .agg cs => V.refsL cs
  | .tup cs => V.refsL cs
  | .yl tm _ _ _ => V.refsL tm
  | _ => []
def V.refsL : List V → List Nat
  | [] => []
  | v :: vs => V.refs v ++ V.refsL vs
end
mutual
/-- The buffers that a value names. -/
def V.nrefs : V → List Nat
  | .bs _ n _ _ => [n]
  | .bp n _ _ => [n]
  | .pel xs _ _ => V.nrefsL xs
  | .lst _ xs => V.nrefsL xs
  | .fn _ a c => V.nrefsL a ++ V.nrefsL c
  | .ifc _ x => V.nrefs x
  | .agg cs => V.nrefsL cs
  | .tup cs => V.nrefsL cs
  | .yl tm _ _ _ => V.nrefsL tm
  | _ => []
def V.nrefsL : List V → List Nat
  | [] => []
  | v :: vs => V.nrefs v ++ V.nrefsL vs
end
theorem refsL_mem {o : Nat} : ∀ {l : List V} {v : V}, v ∈ l → o ∈ v.refs → o ∈ V.refsL l
  | x :: l, v, hv, ho => by
    simp only [V.refsL, List.mem_append]
    rcases List.mem_cons.1 hv with rfl | hv
    · exact .inl ho
    · exact .inr (refsL_mem hv ho)
theorem nrefsL_mem {o : Nat} : ∀ {l : List V} {v : V}, v ∈ l → o ∈ v.nrefs → o ∈ V.nrefsL l
  | x :: l, v, hv, ho => by
    simp only [V.nrefsL, List.mem_append]
    rcases List.mem_cons.1 hv with rfl | hv
    · exact .inl ho
    · exact .inr (nrefsL_mem hv ho)
mutual
theorem cl_same {p p' : V → Option V} (hsl : ∀ o off len, p (.sl o off len) = p' (.sl o off len) ∧ p (.bp o off len) = p' (.bp o off len)) : ∀ (v : V), (∀ o off, o ∈ v.refs → p (.ptr o off) = p' (.ptr o off)) → (∀ sy n off len, n ∈ v.nrefs → p (.bs sy n off len) = p' (.bs sy n off len)) → v.cl p = v.cl p'
  | .ptr o off, h, _ => by simp only [V.cl, h o off (by simp [V.refs])]
  | .pel xs k off, h, g => by simp only [V.cl, clL_same hsl xs (fun o off ho => h o off (by simpa [V.refs] using ho)) (fun sy o off len ho => g sy o off len (by simpa [V.nrefs] using ho))]
  | .lst t xs, h, g => by simp only [V.cl, clL_same hsl xs (fun o off ho => h o off (by simpa [V.refs] using ho)) (fun sy o off len ho => g sy o off len (by simpa [V.nrefs] using ho))]
  | .fn f a c, h, g => by simp only [V.cl, clL_same hsl a (fun o off ho => h o off (by simp [V.refs, ho])) (fun sy o off len ho => g sy o off len (by simp [V.nrefs, ho])), clL_same hsl c (fun o off ho => h o off (by simp [V.refs, ho])) (fun sy o off len ho => g sy o off len (by simp [V.nrefs, ho]))]
  | .ifc t x, h, g => by simp only [V.cl, cl_same hsl x (fun o off ho => h o off (by simpa [V.refs] using ho)) (fun sy o off len ho => g sy o off len (by simpa [V.nrefs] using ho))]
  | .agg cs, h, g => by simp only [V.cl, clL_same hsl cs (fun o off ho => h o off (by simpa [V.refs] using ho)) (fun sy o off len ho => g sy o off len (by simpa [V.nrefs] using ho))]
  | .tup cs, h, g => by simp only [V.cl, clL_same hsl cs (fun o off ho => h o off (by simpa [V.refs] using ho)) (fun sy o off len ho => g sy o off len (by simpa [V.nrefs] using ho))]
  | .bs sy n off len, _, g => by simp only [V.cl, g sy n off len (by simp [V.nrefs])]
  | .bp o off len, _, _ => by simp only [V.cl, (hsl o off len).2]
  | .slst _ _ _, _, _ => by simp only [V.cl]
  | .sl o off len, _, _ => by simp only [V.cl, (hsl o off len).1]
  | .b _, _, _ => rfl
  | .i _ _, _, _ => rfl
  | .s _, _, _ => rfl
  | .sb _, _, _ => rfl
  | .si _ _, _, _ => rfl
  | .ss _, _, _ => rfl
  | .nil, _, _ => rfl
  | .nilfn, _, _ => rfl
  | .nilifc, _, _ => rfl
  | .yl _ _ _ _, _, _ => rfl
  | .any, _, _ => rfl
theorem clL_same {p p' : V → Option V} (hsl : ∀ o off len, p (.sl o off len) = p' (.sl o off len) ∧ p (.bp o off len) = p' (.bp o off len)) : ∀ (l : List V), (∀ o off, o ∈ V.refsL l → p (.ptr o off) = p' (.ptr o off)) → (∀ sy n off len, n ∈ V.nrefsL l → p (.bs sy n off len) = p' (.bs sy n off len)) → V.clL p l = V.clL p' l
  | [], _, _ => rfl
  | v :: vs, h, g => by simp only [V.clL, cl_same hsl v (fun o off ho => h o off (by simp [V.refsL, ho])) (fun sy o off len ho => g sy o off len (by simp [V.nrefsL, ho])), clL_same hsl vs (fun o off ho => h o off (by simp [V.refsL, ho])) (fun sy o off len ho => g sy o off len (by simp [V.nrefsL, ho]))]
end
theorem clL_each {p p' : V → Option V} : ∀ {l : List V}, (∀ v ∈ l, v.cl p = v.cl p') → V.clL p l = V.clL p' l
  | [], _ => rfl
  | v :: l, h => by simp only [V.clL, h v (by simp), clL_each (l := l) (fun u hu => h u (by simp [hu]))]
/-- What objects and buffers hold. -/
def obCells (ob : Ob) (os : List Nat) : List V := os.flatMap fun (o : Nat) => match ob[o]? with | some (some cs) => cs | _ => []
def nmCells (nm : Nm) (ns : List Nat) : List V := ns.flatMap fun (n : Nat) => match nm[n]? with | some (some (.live (.cs _ xs))) => xs | _ => []
/-- The objects and buffers that values lead to, so deep. -/
def dO (ob : Ob) (nm : Nm) : Nat → List V → List Nat
  | 0, _ => []
  | k + 1, l => V.refsL l ++ dO ob nm k (obCells ob (V.refsL l) ++ nmCells nm (V.nrefsL l))
def dN (ob : Ob) (nm : Nm) : Nat → List V → List Nat
  | 0, _ => []
  | k + 1, l => V.nrefsL l ++ dN ob nm k (obCells ob (V.refsL l) ++ nmCells nm (V.nrefsL l))
theorem obCells_same {ob ob' : Ob} : ∀ {os : List Nat}, (∀ o ∈ os, ob[o]? = ob'[o]?) → obCells ob' os = obCells ob os
  | [], _ => rfl
  | o :: os, h => by
    have := obCells_same (os := os) fun x hx => h x (by simp [hx])
    simp only [obCells, List.flatMap_cons] at this ⊢
    rw [this, h o (by simp)]
theorem nmCells_same {nm nm' : Nm} : ∀ {os : List Nat}, (∀ o ∈ os, nm[o]? = nm'[o]?) → nmCells nm' os = nmCells nm os
  | [], _ => rfl
  | o :: os, h => by
    have := nmCells_same (os := os) fun x hx => h x (by simp [hx])
    simp only [nmCells, List.flatMap_cons] at this ⊢
    rw [this, h o (by simp)]
theorem lend_same {ob ob' : Ob} {nm nm' : Nm} : ∀ (k : Nat) (l : List V), (∀ o ∈ dO ob nm k l, ob[o]? = ob'[o]?) → (∀ n ∈ dN ob nm k l, nm[n]? = nm'[n]?) →
    (∀ v ∈ l, v.cl (lendN ob nm k) = v.cl (lendN ob' nm' k)) ∧ dO ob' nm' k l = dO ob nm k l ∧ dN ob' nm' k l = dN ob nm k l
  | 0, l, _, _ => ⟨fun v _ => rfl, rfl, rfl⟩
  | k + 1, l, h, g => by
    have ho : ∀ o ∈ V.refsL l, ob[o]? = ob'[o]? := fun o h1 => h o (by simp [dO, h1])
    have hn : ∀ o ∈ V.nrefsL l, nm[o]? = nm'[o]? := fun o h1 => g o (by simp [dN, h1])
    have e1 := obCells_same ho
    have e2 := nmCells_same hn
    obtain ⟨i1, i2, i3⟩ := lend_same k (obCells ob (V.refsL l) ++ nmCells nm (V.nrefsL l)) (fun o h1 => h o (by simp only [dO, List.mem_append]; exact .inr h1)) (fun o h1 => g o (by simp only [dN, List.mem_append]; exact .inr h1))
    refine ⟨fun v hv => cl_same (p := lendN ob nm (k + 1)) (p' := lendN ob' nm' (k + 1)) (fun _ _ _ => ⟨rfl, rfl⟩) v (fun o off h1 => ?_) (fun sy n off len h1 => ?_), by simp only [dO, e1, e2, i2], by simp only [dN, e1, e2, i3]⟩
    · have hm := refsL_mem hv h1
      simp only [lendN, ← ho o hm]
      cases hob : ob[o]? with
      | none => rfl
      | some c =>
        cases c with
        | none => rfl
        | some cs =>
          have : V.clL (lendN ob nm k) cs = V.clL (lendN ob' nm' k) cs := clL_each fun u hu => i1 u (List.mem_append.2 (.inl (List.mem_flatMap.2 ⟨o, hm, by rw [hob]; exact hu⟩)))
          simp only [this]
    · have hm := nrefsL_mem hv h1
      simp only [lendN, ← hn n hm]
      cases hnm : nm[n]? with
      | none => rfl
      | some c =>
        cases c with
        | none => rfl
        | some c =>
          cases c with
          | dead => rfl
          | live c =>
            cases c with
            | arr ty l => rfl
            | cs sz xs =>
              have : V.clL (lendN ob nm k) xs = V.clL (lendN ob' nm' k) xs := clL_each fun u hu => i1 u (List.mem_append.2 (.inr (List.mem_flatMap.2 ⟨n, hm, by rw [hnm]; exact hu⟩)))
              simp only [lendB, this]
theorem clL_refs {ob ob' : Ob} {nm nm' : Nm} (l : List V) (h : ∀ o ∈ dO ob nm 3 l, ob[o]? = ob'[o]?) (g : ∀ n ∈ dN ob nm 3 l, nm[n]? = nm'[n]?) : V.clL (lendP ob nm) l = V.clL (lendP ob' nm') l ∧ dO ob' nm' 3 l = dO ob nm 3 l ∧ dN ob' nm' 3 l = dN ob nm 3 l := by
  obtain ⟨h1, h2, h3⟩ := lend_same 3 l h g
  exact ⟨clL_each h1, h2, h3⟩

mutual
/-- Nothing taken for known. -/
def V.sy : V → V
  | .b x => .sb x
  | .i k n => .si k n
  | .s x => .ss x
  | .pel xs k off => .pel (V.syL xs) k off
  | .lst t xs => .lst t (V.syL xs)
  | .fn f a c => .fn f (V.syL a) (V.syL c)
  | .ifc t x => .ifc t (V.sy x)
  | .agg cs => .agg (V.syL cs)
  | .tup cs => .tup (V.syL cs)
  | .sb x => .sb x
  | .si k n => .si k n
  | .ss x => .ss x
  | .nil => .nil
  | .ptr o off => .ptr o off
  | .sl o off n => .sl o off n
  | .slst t ty l => .slst t ty l
  | .bs sy n off len => .bs true n off len
  | .bp n j off => .bp n j off
  | .nilfn => .nilfn
  | .nilifc => .nilifc
  | .yl tm ps as bd => .yl tm ps as bd
  | .any => .any
def V.syL : List V → List V
  | [] => []
  | v :: vs => V.sy v :: V.syL vs
end
theorem syL_map : ∀ (l : List V), V.syL l = l.map V.sy
  | [] => rfl
  | v :: vs => by simp only [V.syL, List.map_cons, syL_map vs]
theorem sy_cells (v : V) : v.sy.cells = v.cells.map V.sy := by cases v <;> simp [V.sy, V.cells, syL_map]
theorem sy_flat (xs : List V) : flat (xs.map V.sy) = (flat xs).map V.sy := by
  induction xs with
  | nil => rfl
  | cons x xs ih => rw [List.map_cons, flat_cons, flat_cons, List.map_append, ih, sy_cells]
theorem map_get {α β : Type} {f : α → β} {l : List α} {j : Nat} {b : β} (h : (l.map f)[j]? = some b) : ∃ a, l[j]? = some a ∧ f a = b := by
  rw [List.getElem?_map, Option.map_eq_some_iff] at h
  exact h
theorem VRel.sy {G : Gh} {v : V} {cv : Value} (h : VRel G v cv) : VRel G v.sy cv := by
  induction h with
  | b x => exact .sb x
  | i k n => exact .si k n
  | s x => exact .ss x
  | sb x => exact .sb x
  | si k n => exact .si k n
  | ss x => exact .ss x
  | nil => exact .nil
  | ptr h => exact .ptr h
  | sl h hc => exact .sl h hc
  | nilfn => exact .nilfn
  | nilifc => exact .nilifc
  | any v => exact .any v
  | slst h ih => simp only [V.sy]; exact .slst h
  | bs0 sy n off => exact .bs0 true n off
  | bs1 sy n off b o => exact .bs1 true n off b o
  | bs h hl => exact .bs h hl
  | bp h => exact .bp h
  | yl h hs hl ht ih => exact .yl h hs hl ht
  | ifc h ih => exact .ifc ih
  | lst0 t => simp only [V.sy, V.syL]; exact .lst0 t
  | lst1 p cap => simp only [V.sy, V.syL]; exact .lst1 p cap
  | @lst t xs b off cap sz cvs hsz hl hm hv hc ht ih =>
    simp only [V.sy, syL_map]
    rw [← List.length_map (f := V.sy)]
    refine .lst (sz := sz) (cvs := cvs) (fun x hx => ?_) (by rw [hl, sy_flat, List.length_map]) hm (fun j v cv h1 h2 => ?_) (by simpa using hc) (by simpa using ht)
    · obtain ⟨z, hz, rfl⟩ := List.mem_map.1 hx
      rw [sy_cells, List.length_map]
      exact hsz z hz
    · rw [sy_flat] at h1
      obtain ⟨z, hz, rfl⟩ := map_get h1
      exact ih j z cv hz h2
  | @pel xs k off b o0 sz cvs hsz hl hm hv ih =>
    simp only [V.sy, syL_map]
    refine .pel (sz := sz) (cvs := cvs) (fun x hx => ?_) (by rw [hl, sy_flat, List.length_map]) hm (fun j v cv h1 h2 => ?_)
    · obtain ⟨z, hz, rfl⟩ := List.mem_map.1 hx
      rw [sy_cells, List.length_map]
      exact hsz z hz
    · rw [sy_flat] at h1
      obtain ⟨z, hz, rfl⟩ := map_get h1
      exact ih j z cv hz h2
  | @fn f xs ys a c ha hc h1 h2 i1 i2 =>
    simp only [V.sy, syL_map]
    refine .fn (by rw [ha, List.length_map]) (by rw [hc, List.length_map]) (fun j v cv g1 g2 => ?_) (fun j v cv g1 g2 => ?_)
    · obtain ⟨z, hz, rfl⟩ := map_get g1
      exact i1 j z cv hz g2
    · obtain ⟨z, hz, rfl⟩ := map_get g1
      exact i2 j z cv hz g2
  | @agg cs c hl h1 ih =>
    simp only [V.sy, syL_map]
    refine .agg (by rw [hl, List.length_map]) (fun j v cv g1 g2 => ?_)
    obtain ⟨z, hz, rfl⟩ := map_get g1
    exact ih j z cv hz g2
  | @tup cs c hl h1 ih =>
    simp only [V.sy, syL_map]
    refine .tup (by rw [hl, List.length_map]) (fun j v cv g1 g2 => ?_)
    obtain ⟨z, hz, rfl⟩ := map_get g1
    exact ih j z cv hz g2
theorem Rels.sy {G : Gh} {vs : List V} {cvs : List Value} (h : Rels G vs cvs) : Rels G (V.syL vs) cvs := by
  rw [syL_map]
  refine ⟨by rw [h.1, List.length_map], fun j v cv h1 h2 => ?_⟩
  obtain ⟨z, hz, rfl⟩ := map_get h1
  exact (h.2 j z cv hz h2).sy
theorem SemF.of_sy {f : FuncId} {args : List V} {ob ob' : Ob} {nm nm' : Nm} {v : V} (h : SemF P Γ f (V.syL args) ob nm v ob' nm') : SemF P Γ f args ob nm v ob' nm' := fun G w cargs hw hr => h G w cargs hw hr.sy

def outC (c : Option Bool) (v : V) (e : Eff) : Out :=
  match c with
  | none => ⟨true, false, v, e⟩
  | some b => ⟨b, true, v, e⟩
theorem outC_eff (c : Option Bool) (v : V) (e : Eff) : (outC c v e).eff = e := by cases c <;> rfl
theorem outC_v (c : Option Bool) (v : V) (e : Eff) : (outC c v e).v = v := by cases c <;> rfl
theorem outC_chk (c : Option Bool) (v : V) (e : Eff) : (outC c v e).chk = c.getD true := by cases c <;> rfl
theorem OrcOk.none : OrcOk P Γ (fun _ _ => Option.none) := fun f args c v h => by cases h
/-- A contract more. -/
theorem OrcOk.cons {orc : Orc} (h : OrcOk P Γ orc) (f0 : FuncId) (g : List V → Option (Option Bool × V)) (fn : Func) (hf : P.funcs[f0]? = some fn) (hb : fn.body.isSome = true) (hn : (fn.name == "runtime.NumGoroutine") = false)
    (hg : ∀ args c v, g args = some (c, v) → c.getD true = true → SemF P Γ f0 args [] [] v [] []) : OrcOk P Γ (fun f args => if f = f0 then g args else orc f args) := by
  intro f args c v hv hc
  simp only at hv
  split at hv
  · rename_i he; subst he; exact ⟨hg args c v hv hc, fn, hf, hb, hn⟩
  · exact h f args c v hv hc
end
end Go.Proofs.Ytnjjkobijjdnbaa
