/- A region: its operations in the text's order, and in any order. -/
import Derived.Test.YtnjjkobijjdnbaaEv13a
set_option linter.unusedVariables false
set_option linter.unusedSimpArgs false
namespace Go.Proofs.Ytnjjkobijjdnbaa
open Go

/-! ### Decision trees -/
inductive Tr (α : Type) where
  | leaf (x : Option α)
  | br (b : Bool) (x y : Tr α)
def Tr.run {α : Type} : Tr α → Option α
  | .leaf x => x
  | .br b x y => match b with | true => x.run | false => y.run
def Tr.bind {α β : Type} : Tr α → (α → Tr β) → Tr β
  | .leaf none, _ => .leaf none
  | .leaf (some a), f => f a
  | .br b x y, f => .br b (x.bind f) (y.bind f)
theorem Tr.run_bind {α β : Type} (t : Tr α) (f : α → Tr β) : (t.bind f).run = t.run.bind fun a => (f a).run := by
  induction t with
  | leaf x => cases x <;> rfl
  | br b x y ihx ihy => cases b <;> simp [Tr.bind, Tr.run, ihx, ihy]
/-- What must hold. -/
def Tr.chk {α : Type} (c s : Bool) (t : Tr α) : Tr α :=
  match s with
  | true => .br c t (.leaf none)
  | false => match c with | true => t | false => .leaf none
theorem Tr.run_chk {α : Type} (c s : Bool) (t : Tr α) : (Tr.chk c s t).run = if c then t.run else none := by cases s <;> cases c <;> rfl

/-! ### One step of a region -/
def wantedL (ops : Array Oper) (tm : List V) (o : Oper) : Option Bool :=
  match o.guard with
  | none => some true
  | some (j, want) =>
    match (ops[j]?).bind (·.dst) with
    | none => some false
    | some d =>
      match tm[d]? with
      | some (.b x) => some (x == want)
      | some (.tup _) => some false
      | _ => none
theorem wantedL_V {ops : Array Oper} {tm : List V} {o : Oper} {t : Bool} (h : wantedL ops tm o = some t) : wantedV ops tm o = some t := by
  unfold wantedL at h
  unfold wantedV
  split
  · rename_i hg; simpa [hg] using h
  · rename_i j want hg
    simp only [hg] at h
    split
    · rename_i hd; simpa [hd] using h
    · rename_i d hd
      simp only [hd] at h
      split <;> rename_i ht <;> simp [ht] at h ⊢ <;> exact h
/-- A Bool that a guard asks for is decided where it is made. -/
def litG (g : Bool) (v : V) : V := match g, v with | true, .sb b => .b b | _, v => v
theorem litG_rel {G : Gh} (g : Bool) {v : V} {cv : Value} (h : VRel G v cv) : VRel G (litG g v) cv := by
  unfold litG
  split
  · cases h; exact .b _
  · exact h
def isGd (ops : Array Oper) (i : Nat) : Bool := ops.toList.any fun o => match o.guard with | some (j, _) => j == i | none => false
def slotOf (ops : Array Oper) (base i : Nat) : Nat := base + ((ops.toList.take i).filter allocs).length
def St.after (x : St) (out : Out) (d : Option Nat) (v : V) : St := ({ x with ob := out.eff.ob x.ob, nm := out.eff.nm x.nm } : St).put d v

section
variable {P : Program} {Γ : Nat → Option V} {cf : CallF} {ops : Array Oper} {base : Nat}

def stp (P : Program) (Γ : Nat → Option V) (cf : CallF) (ops : Array Oper) (base i : Nat) (x : St) : Option (St × Option Eff) :=
  match ops[i]? with
  | none => some (x, none)
  | some o =>
    match wantedL ops x.tm o with
    | none => none
    | some false => some (x.put o.dst (.tup []), none)
    | some true =>
      match evE P cf (slotOf ops base i) o (x.eval Γ) x.ob x.nm with
      | none => none
      | some out => if out.chk then some (x.after out o.dst (litG (isGd ops i) out.v), some out.eff) else none
/-- The places that are kept from operation i on are free. -/
def Free (ops : Array Oper) (base i : Nat) (x : St) : Prop := ∀ j o, i ≤ j → ops[j]? = some o → allocs o = true → x.ob[slotOf ops base j]? = some none ∧ x.nm[slotOf ops base j]? = some none

/-- A step in the machine. -/
theorem stp_wp (hcf : CallsOk P Γ cf) (hfit : CallsFit cf) {i : Nat} {x x' : St} {ef : Option Eff} (h : stp P Γ cf ops base i x = some (x', ef)) (hfree : ∀ o, ops[i]? = some o → allocs o = true → x.ob[slotOf ops base i]? = some none ∧ x.nm[slotOf ops base i]? = some none)
    {ro : Option Nat} {G : Gh} {a : Act} {w : World} (hr : Rel Γ G x a w) (K : Act → World → Prop) (Q : Exit → Act → World → Prop) (hk : ∀ G' a' w', G.le G' → Rel Γ G' x' a' w' → K a' w') : wpOpIn (wideR ro) 0 P ops Q i K a w := by
  unfold stp at h
  unfold wpOpIn
  cases ho : ops[i]? with
  | none =>
    simp only [ho, Option.some.injEq, Prod.mk.injEq] at h
    obtain ⟨rfl, rfl⟩ := h
    exact hk G a w (.refl G) hr
  | some o =>
    simp only [ho] at h ⊢
    split at h
    · cases h
    · rename_i hw
      simp only [Option.some.injEq, Prod.mk.injEq] at h
      obtain ⟨rfl, rfl⟩ := h
      rw [wanted_of hr.tm (wantedL_V hw)]
      exact ⟨fun _ _ => trivial, hk G _ w (.refl G) (hr.put o.dst (VRel.undef G))⟩
    · rename_i hw
      rw [wanted_of hr.tm (wantedL_V hw)]
      split at h
      · cases h
      · rename_i out he
        split at h
        · rename_i hc
          simp only [Option.some.injEq, Prod.mk.injEq] at h
          obtain ⟨rfl, rfl⟩ := h
          have hsv := evE_sound (σ := x) hcf he hc (hfree o ho)
          simp only [if_true]
          refine hsv ro G a w K Q hr ?_
          intro G' cv w' hle hv hw'
          refine hk G' _ w' hle ?_
          have : Rel Γ G' { x with ob := out.eff.ob x.ob, nm := out.eff.nm x.nm } a w' := ⟨hr.tm.mono hle, hw', hr.df.mono hle.d hle.kd, hle.kh.trans hr.kh, hle.kt.trans hr.kt⟩
          exact this.put o.dst (litG_rel _ hv)
        · cases h

/-- The steps from operation i on, n of them: the state and the effects. -/
def chain (P : Program) (Γ : Nat → Option V) (cf : CallF) (ops : Array Oper) (base : Nat) : Nat → Nat → St → Option (St × List (Option Eff))
  | 0, _, x => some (x, [])
  | n + 1, i, x =>
    match stp P Γ cf ops base i x with
    | none => none
    | some (x1, ef) =>
      match chain P Γ cf ops base n (i + 1) x1 with
      | none => none
      | some (x2, es) => some (x2, ef :: es)

theorem setsO_get {s : Nat} : ∀ (ps : List (Nat × List V)) (ob : Ob), (∀ p ∈ ps, p.1 ≠ s) → (setsO ps ob)[s]? = ob[s]?
  | [], ob, _ => rfl
  | p :: ps, ob, h => by
    simp only [setsO]
    rw [setsO_get ps _ (fun q hq => h q (by simp [hq])), List.getElem?_set_ne (h p (by simp))]
theorem setsN_get {s : Nat} : ∀ (ps : List (Nat × Bf)) (nm : Nm), (∀ p ∈ ps, p.1 ≠ s) → (setsN ps nm)[s]? = nm[s]?
  | [], nm, _ => rfl
  | p :: ps, nm, h => by
    simp only [setsN]
    rw [setsN_get ps _ (fun q hq => h q (by simp [hq])), List.getElem?_set_ne (h p (by simp))]
theorem get_lt {α : Type} {l : List α} {i : Nat} {a : α} (h : l[i]? = some a) : i < l.length := by
  rcases Nat.lt_or_ge i l.length with h' | h'
  · exact h'
  · rw [List.getElem?_eq_none h'] at h; cases h
theorem Eff.ob_get {e : Eff} {ob : Ob} {s : Nat} {c : Option (List V)} (h : (setsO e.wo ob)[s]? = some c) (hb : ∀ p, e.blk = some p → p.1[s]? = some c) : (e.ob ob)[s]? = some c := by
  unfold Eff.ob
  split
  · rename_i p hp; exact hb p hp
  · split
    · exact h
    · rw [List.getElem?_append_left (get_lt h)]; exact h
theorem Eff.nm_get {e : Eff} {nm : Nm} {s : Nat} {c : Option Bf} (h : (setsN e.wn nm)[s]? = some c) (hb : ∀ p, e.blk = some p → p.2[s]? = some c) : (e.nm nm)[s]? = some c := by
  unfold Eff.nm
  split
  · rename_i p hp; exact hb p hp
  · split
    · exact h
    · rw [List.getElem?_append_left (get_lt h)]; exact h
theorem set_free {x : St} {i : Nat} {x' : St} {ef : Option Eff} (hfit : CallsFit cf) (h : stp P Γ cf ops base i x = some (x', ef)) {s : Nat} (hs : x.ob[s]? = some none ∧ x.nm[s]? = some none) (hne : ∀ o, ops[i]? = some o → allocs o = true → s ≠ slotOf ops base i) : x'.ob[s]? = some none ∧ x'.nm[s]? = some none := by
  unfold stp at h
  have hput : ∀ (y : St) (d : Option Nat) (v : V), (y.put d v).ob = y.ob ∧ (y.put d v).nm = y.nm := fun y d v => by cases d <;> exact ⟨rfl, rfl⟩
  split at h
  · cases h; exact hs
  · rename_i o ho
    split at h
    · cases h
    · cases h; rw [(hput _ _ _).1, (hput _ _ _).2]; exact hs
    · split at h
      · cases h
      · rename_i out he
        split at h
        · cases h
          rw [show (x.after out o.dst (litG (isGd ops i) out.v)).ob = out.eff.ob x.ob from (hput _ _ _).1, show (x.after out o.dst (litG (isGd ops i) out.v)).nm = out.eff.nm x.nm from (hput _ _ _).2]
          obtain ⟨k1, k2, k3⟩ := evE_eff hfit he
          refine ⟨Eff.ob_get ?_ (fun p hp => (k3 p hp).1 s hs.1), Eff.nm_get ?_ (fun p hp => (k3 p hp).2.1 s hs.2)⟩
          · rw [setsO_get]
            · exact hs.1
            · intro p hp e
              rcases k1 p hp with ⟨cs, hc⟩ | ⟨hc, hal⟩
              · rw [e, hs.1] at hc; cases hc
              · exact hne o ho hal (e.symm.trans hc)
          · rw [setsN_get]
            · exact hs.2
            · intro p hp e
              rcases k2 p hp with ⟨cs, hc⟩ | ⟨hc, hal⟩
              · rw [e, hs.2] at hc; cases hc
              · exact hne o ho hal (e.symm.trans hc)
        · cases h

theorem slot_lt {i j : Nat} {o : Oper} (hij : i < j) (ho : ops[i]? = some o) (hal : allocs o = true) : slotOf ops base i < slotOf ops base j := by
  unfold slotOf
  have hi : i < ops.toList.length := by
    rcases Nat.lt_or_ge i ops.toList.length with h | h
    · exact h
    · have : ops.toList[i]? = some o := by simpa using ho
      rw [List.getElem?_eq_none h] at this
      cases this
  have h1 : ops.toList.take (i + 1) = ops.toList.take i ++ [o] := by
    rw [List.take_succ_eq_append_getElem hi]
    congr 2
    have : ops.toList[i]? = some o := by simpa using ho
    rw [List.getElem?_eq_getElem hi] at this
    exact Option.some.inj this
  have h2 : ((ops.toList.take i).filter allocs).length + 1 = ((ops.toList.take (i + 1)).filter allocs).length := by rw [h1]; simp [hal]
  have h3 : ((ops.toList.take (i + 1)).filter allocs).length ≤ ((ops.toList.take j).filter allocs).length := by
    have : ops.toList.take (i + 1) = (ops.toList.take j).take (i + 1) := by rw [List.take_take]; congr 1; omega
    rw [this]
    exact ((List.take_sublist _ _).filter _).length_le
  omega
theorem Free.next {x x' : St} {i : Nat} {ef : Option Eff} (hfit : CallsFit cf) (hf : Free ops base i x) (h : stp P Γ cf ops base i x = some (x', ef)) : Free ops base (i + 1) x' := by
  intro j o hj ho hal
  refine set_free hfit h (hf j o (by omega) ho hal) fun o' ho' hal' => ?_
  have := slot_lt (base := base) (show i < j by omega) ho' hal'
  omega

/-- In the text's order. -/
theorem chain_sem (hcf : CallsOk P Γ cf) (hfit : CallsFit cf) : ∀ (n i : Nat) (x x' : St) (es : List (Option Eff)), Free ops base i x → chain P Γ cf ops base n i x = some (x', es) → SemR P Γ ops (List.range' i n) x x'
  | 0, i, x, x', es, _, h => by simp [chain] at h; obtain ⟨rfl, rfl⟩ := h; exact SemR.nil
  | n + 1, i, x, x', es, hf, h => by
    simp only [chain] at h
    split at h
    · cases h
    · rename_i x1 ef h1
      split at h
      · cases h
      · rename_i x2 es' h2
        cases h
        have ih := chain_sem hcf hfit n (i + 1) x1 x' es' (hf.next hfit h1) h2
        intro ro G a w hr
        rw [List.range'_succ, wpOpsIn_cons]
        refine stp_wp hcf hfit h1 (fun o ho hal => hf i o (Nat.le_refl _) ho hal) hr _ _ ?_
        intro G1 a1 w1 hle1 r1
        refine wpOps_mono ?_ _ _ _ (ih ro G1 a1 w1 r1)
        rintro e a' w' ⟨rfl, G2, hle2, r2⟩
        exact ⟨rfl, G2, hle1.trans hle2, r2⟩
theorem SemC.region_chain (hcf : CallsOk P Γ cf) (hfit : CallsFit cf) {id : Nat} {x x' : St} {es : List (Option Eff)} (hf : Free ops base 0 x) (h : chain P Γ cf ops base ops.size 0 x = some (x', es)) : SemC P Γ (.region id ops false) x .normal x' :=
  SemC.region (by rw [List.range_eq_range']; exact chain_sem hcf hfit _ _ _ _ _ hf h)
end
end Go.Proofs.Ytnjjkobijjdnbaa
