/- A region that draws its order: the text's order serves every order. -/
import Derived.Test.YtnjjkobijjdnbaaEv14
set_option linter.unusedVariables false
set_option linter.unusedSimpArgs false
namespace Go.Proofs.Ytnjjkobijjdnbaa
open Go

/-- The keys of one list are no elements of another one. -/
def apartL (ks os : List Nat) : Bool := ks.all fun k => !os.contains k
theorem apartL_ne {ks os : List Nat} (h : apartL ks os = true) {k o : Nat} (hk : k ∈ ks) (ho : o ∈ os) : k ≠ o := by
  intro e
  subst e
  have := List.all_eq_true.1 h k hk
  simp at this
  exact this ho
def Eff.isPure (e : Eff) : Bool := e.ro.isEmpty && e.rn.isEmpty && e.wo.isEmpty && e.wn.isEmpty && e.xo.isEmpty && e.xn.isEmpty && e.blk.isNone && Nat.beq e.bl.1 0 && Nat.beq e.bl.2 0 && e.ko.isEmpty && e.kn.isEmpty
/-- It only looks. -/
def Eff.looks (e : Eff) : Bool := !e.lays && e.wo.isEmpty && e.wn.isEmpty
/-- One leaves a memory, the other looks at what that leaves alone. -/
def Eff.beside (a b : Eff) : Bool := a.blk.isSome && b.looks && (b.ro.all fun o => Nat.blt o a.bl.1) && (b.rn.all fun n => Nat.blt n a.bl.2) && apartL a.ko b.ro && apartL a.kn b.rn
def Eff.keysO (e : Eff) : List Nat := e.wo.map (·.1)
def Eff.keysN (e : Eff) : List Nat := e.wn.map (·.1)
def Eff.comm (a b : Eff) : Bool :=
  a.isPure || b.isPure || a.beside b || b.beside a || (!a.lays && !b.lays && (apartL a.keysO b.ro && apartL a.keysO b.keysO && apartL b.keysO a.ro) && (apartL a.keysN b.rn && apartL a.keysN b.keysN && apartL b.keysN a.rn))
theorem Eff.isPure_eq {e : Eff} (h : e.isPure = true) : e = .pure := by
  obtain ⟨a, b, c, d, f, g, k, ⟨l1, l2⟩, m, q⟩ := e
  simp [Eff.isPure] at h
  obtain ⟨⟨⟨⟨⟨⟨⟨⟨⟨⟨rfl, rfl⟩, rfl⟩, rfl⟩, rfl⟩, rfl⟩, rfl⟩, rfl⟩, rfl⟩, rfl⟩, rfl⟩ := h
  rfl
theorem apartL_symm {a b : List Nat} (h : apartL a b = true) : apartL b a = true := by
  refine List.all_eq_true.2 fun k hk => ?_
  simp only [Bool.not_eq_true', List.contains_eq_mem, decide_eq_false_iff_not]
  exact fun hka => apartL_ne h hka hk rfl
theorem apartL_comm (a b : List Nat) : apartL a b = apartL b a := by
  rw [Bool.eq_iff_iff]
  exact ⟨apartL_symm, apartL_symm⟩
theorem Eff.comm_symm (a b : Eff) : a.comm b = b.comm a := by
  unfold Eff.comm
  rw [Bool.or_comm a.isPure b.isPure, apartL_comm a.keysO b.keysO, apartL_comm a.keysN b.keysN, Bool.or_assoc (b.isPure || a.isPure), Bool.or_comm (a.beside b) (b.beside a), ← Bool.or_assoc]
  cases b.isPure || a.isPure <;> cases b.beside a <;> cases a.beside b <;> cases a.lays <;> cases b.lays <;> cases apartL a.keysO b.ro <;> cases apartL b.keysO a.ro <;> cases apartL a.keysN b.rn <;> cases apartL b.keysN a.rn <;> cases apartL b.keysO a.keysO <;> cases apartL b.keysN a.keysN <;> rfl
theorem Eff.ob_plain {e : Eff} (h : e.lays = false) (ob : Ob) : e.ob ob = setsO e.wo ob := by
  simp [Eff.lays] at h
  unfold Eff.ob
  rw [h.1, h.2.1]
theorem Eff.nm_plain {e : Eff} (h : e.lays = false) (nm : Nm) : e.nm nm = setsN e.wn nm := by
  simp [Eff.lays] at h
  unfold Eff.nm
  rw [h.1, h.2.2]
theorem setsO_comm : ∀ (a b : List (Nat × List V)) (ob : Ob), (∀ p ∈ a, ∀ q ∈ b, p.1 ≠ q.1) → setsO b (setsO a ob) = setsO a (setsO b ob)
  | [], b, ob, _ => rfl
  | p :: a, b, ob, h => by
    have key : ∀ (b : List (Nat × List V)) (ob : Ob), (∀ q ∈ b, p.1 ≠ q.1) → setsO b (ob.set p.1 (some p.2)) = (setsO b ob).set p.1 (some p.2) := by
      intro b
      induction b with
      | nil => intro ob _; rfl
      | cons q b ih =>
        intro ob hq
        simp only [setsO]
        rw [List.set_comm _ _ (hq q (by simp)), ih _ (fun r hr => hq r (by simp [hr]))]
    simp only [setsO]
    rw [setsO_comm a b _ (fun q hq => h q (by simp [hq])), key b ob (fun q hq => h p (by simp) q hq)]
theorem setsN_comm : ∀ (a b : List (Nat × Bf)) (nm : Nm), (∀ p ∈ a, ∀ q ∈ b, p.1 ≠ q.1) → setsN b (setsN a nm) = setsN a (setsN b nm)
  | [], b, nm, _ => rfl
  | p :: a, b, nm, h => by
    have key : ∀ (b : List (Nat × Bf)) (nm : Nm), (∀ q ∈ b, p.1 ≠ q.1) → setsN b (nm.set p.1 (some p.2)) = (setsN b nm).set p.1 (some p.2) := by
      intro b
      induction b with
      | nil => intro nm _; rfl
      | cons q b ih =>
        intro nm hq
        simp only [setsN]
        rw [List.set_comm _ _ (hq q (by simp)), ih _ (fun r hr => hq r (by simp [hr]))]
    simp only [setsN]
    rw [setsN_comm a b _ (fun q hq => h q (by simp [hq])), key b nm (fun q hq => h p (by simp) q hq)]
theorem Eff.pure_ob (ob : Ob) : Eff.pure.ob ob = ob := rfl
theorem Eff.pure_nm (nm : Nm) : Eff.pure.nm nm = nm := rfl
theorem Eff.same_refl (e : Eff) (ob : Ob) (nm : Nm) : e.same ob ob nm nm := ⟨fun _ _ => rfl, fun _ _ => rfl, fun _ => ⟨rfl, rfl⟩⟩
theorem Eff.beside_spec {a b : Eff} (h : a.beside b = true) : a.blk.isSome = true ∧ b.lays = false ∧ b.wo = [] ∧ b.wn = [] ∧ (∀ o ∈ b.ro, o < a.bl.1 ∧ o ∉ a.ko) ∧ ∀ n ∈ b.rn, n < a.bl.2 ∧ n ∉ a.kn := by
  simp only [Eff.beside, Eff.looks, Bool.and_eq_true, Bool.not_eq_true', List.isEmpty_iff] at h
  obtain ⟨⟨⟨⟨⟨h1, ⟨h2, h3⟩, h4⟩, h5⟩, h6⟩, h7⟩, h8⟩ := h
  exact ⟨h1, h2, h3, h4, fun o ho => ⟨Nat.le_of_ble_eq_true (List.all_eq_true.1 h5 o ho), fun hk => apartL_ne h7 hk ho rfl⟩, fun n hn => ⟨Nat.le_of_ble_eq_true (List.all_eq_true.1 h6 n hn), fun hk => apartL_ne h8 hk hn rfl⟩⟩
theorem Eff.comm_cases {a b : Eff} (h : a.comm b = true) : a = .pure ∨ b = .pure ∨ a.beside b = true ∨ b.beside a = true ∨ (a.lays = false ∧ b.lays = false ∧ (∀ p ∈ a.wo, p.1 ∉ b.ro) ∧ (∀ p ∈ a.wo, ∀ q ∈ b.wo, p.1 ≠ q.1) ∧ (∀ p ∈ a.wn, p.1 ∉ b.rn) ∧ (∀ p ∈ a.wn, ∀ q ∈ b.wn, p.1 ≠ q.1)) := by
  unfold Eff.comm at h
  simp only [Bool.or_eq_true, Bool.and_eq_true, Bool.not_eq_true'] at h
  rcases h with (((h | h) | h) | h) | h
  · exact .inl (Eff.isPure_eq h)
  · exact .inr (.inl (Eff.isPure_eq h))
  · exact .inr (.inr (.inl h))
  · exact .inr (.inr (.inr (.inl h)))
  · obtain ⟨⟨⟨h1, h2⟩, ⟨h3, h4⟩, h5⟩, ⟨h6, h7⟩, h8⟩ := h
    exact .inr (.inr (.inr (.inr ⟨h1, h2, fun p hp hb => apartL_ne h3 (List.mem_map.2 ⟨p, hp, rfl⟩) hb rfl, fun p hp q hq => apartL_ne h4 (List.mem_map.2 ⟨p, hp, rfl⟩) (List.mem_map.2 ⟨q, hq, rfl⟩),
      fun p hp hb => apartL_ne h6 (List.mem_map.2 ⟨p, hp, rfl⟩) hb rfl, fun p hp q hq => apartL_ne h7 (List.mem_map.2 ⟨p, hp, rfl⟩) (List.mem_map.2 ⟨q, hq, rfl⟩)⟩)))
/-- What an effect leaves of a memory. -/
def Eff.fits (e : Eff) (ob : Ob) (nm : Nm) : Prop := ∀ p, e.blk = some p → (∀ o : Nat, o < e.bl.1 → o ∉ e.ko → p.1[o]? = ob[o]?) ∧ ∀ n : Nat, n < e.bl.2 → n ∉ e.kn → p.2[n]? = nm[n]?
theorem Eff.blk_ob {e : Eff} {p : Ob × Nm} (h : e.blk = some p) (ob : Ob) : e.ob ob = p.1 := by simp [Eff.ob, h]
theorem Eff.blk_nm {e : Eff} {p : Ob × Nm} (h : e.blk = some p) (nm : Nm) : e.nm nm = p.2 := by simp [Eff.nm, h]
theorem Eff.looks_ob {e : Eff} (h1 : e.lays = false) (h2 : e.wo = []) (ob : Ob) : e.ob ob = ob := by rw [Eff.ob_plain h1, h2]; rfl
theorem Eff.looks_nm {e : Eff} (h1 : e.lays = false) (h2 : e.wn = []) (nm : Nm) : e.nm nm = nm := by rw [Eff.nm_plain h1, h2]; rfl
theorem Eff.comm_same {a b : Eff} (h : a.comm b = true) {ob : Ob} {nm : Nm} (hf : a.fits ob nm) : b.same ob (a.ob ob) nm (a.nm nm) := by
  rcases Eff.comm_cases h with rfl | rfl | hb | hb | ⟨h1, h2, h3, h4, h5, h6⟩
  · exact Eff.same_refl _ _ _
  · exact ⟨(fun o ho => by cases ho), (fun o ho => by cases ho), (fun hl => by cases hl)⟩
  · obtain ⟨g1, g2, g3, g4, g5, g6⟩ := Eff.beside_spec hb
    obtain ⟨p, hp⟩ := Option.isSome_iff_exists.1 g1
    obtain ⟨f1, f2⟩ := hf p hp
    refine ⟨fun o ho => ?_, fun n hn => ?_, fun hl => by rw [g2] at hl; cases hl⟩
    · rw [Eff.blk_ob hp, f1 o (g5 o ho).1 (g5 o ho).2]
    · rw [Eff.blk_nm hp, f2 n (g6 n hn).1 (g6 n hn).2]
  · obtain ⟨g1, g2, g3, g4, g5, g6⟩ := Eff.beside_spec hb
    rw [Eff.looks_ob g2 g3, Eff.looks_nm g2 g4]
    exact Eff.same_refl _ _ _
  · refine ⟨fun o ho => ?_, fun n hn => ?_, fun hl => by rw [h2] at hl; cases hl⟩
    · rw [Eff.ob_plain h1, setsO_get]
      exact fun p hp e => h3 p hp (by rw [e]; exact ho)
    · rw [Eff.nm_plain h1, setsN_get]
      exact fun p hp e => h5 p hp (by rw [e]; exact hn)
theorem Eff.comm_ob {a b : Eff} (h : a.comm b = true) (ob : Ob) : b.ob (a.ob ob) = a.ob (b.ob ob) := by
  rcases Eff.comm_cases h with rfl | rfl | hb | hb | ⟨h1, h2, h3, h4, h5, h6⟩
  · rfl
  · rfl
  · obtain ⟨g1, g2, g3, g4, g5, g6⟩ := Eff.beside_spec hb
    rw [Eff.looks_ob g2 g3, Eff.looks_ob g2 g3]
  · obtain ⟨g1, g2, g3, g4, g5, g6⟩ := Eff.beside_spec hb
    rw [Eff.looks_ob g2 g3, Eff.looks_ob g2 g3]
  · rw [Eff.ob_plain h1, Eff.ob_plain h2, Eff.ob_plain h1, Eff.ob_plain h2, setsO_comm _ _ _ h4]
theorem Eff.comm_nm {a b : Eff} (h : a.comm b = true) (nm : Nm) : b.nm (a.nm nm) = a.nm (b.nm nm) := by
  rcases Eff.comm_cases h with rfl | rfl | hb | hb | ⟨h1, h2, h3, h4, h5, h6⟩
  · rfl
  · rfl
  · obtain ⟨g1, g2, g3, g4, g5, g6⟩ := Eff.beside_spec hb
    rw [Eff.looks_nm g2 g4, Eff.looks_nm g2 g4]
  · obtain ⟨g1, g2, g3, g4, g5, g6⟩ := Eff.beside_spec hb
    rw [Eff.looks_nm g2 g4, Eff.looks_nm g2 g4]
  · rw [Eff.nm_plain h1, Eff.nm_plain h2, Eff.nm_plain h1, Eff.nm_plain h2, setsN_comm _ _ _ h6]
theorem Eff.same_symm {e : Eff} {ob ob' : Ob} {nm nm' : Nm} (h : e.same ob ob' nm nm') : e.same ob' ob nm' nm :=
  ⟨fun o ho => (h.1 o ho).symm, fun n hn => (h.2.1 n hn).symm, fun hl => ⟨(h.2.2 hl).1.symm, (h.2.2 hl).2.symm⟩⟩
def fitsO (e : Option Eff) (ob : Ob) (nm : Nm) : Prop := match e with | some e => e.fits ob nm | none => True

def obO (e : Option Eff) (ob : Ob) : Ob := match e with | some e => e.ob ob | none => ob
def nmO (e : Option Eff) (nm : Nm) : Nm := match e with | some e => e.nm nm | none => nm
def sameO (e : Option Eff) (ob ob' : Ob) (nm nm' : Nm) : Prop := match e with | some e => e.same ob ob' nm nm' | none => True
def commO : Option Eff → Option Eff → Bool
  | some a, some b => a.comm b
  | _, _ => true
theorem commO_same {a b : Option Eff} (h : commO a b = true) {ob : Ob} {nm : Nm} (hf : fitsO a ob nm) : sameO b ob (obO a ob) nm (nmO a nm) := by
  cases a <;> cases b <;> simp only [sameO, obO, nmO]
  · exact Eff.same_refl _ _ _
  · exact Eff.comm_same h hf
theorem commO_symm (a b : Option Eff) : commO a b = commO b a := by cases a <;> cases b <;> simp [commO, Eff.comm_symm]
theorem commO_ob {a b : Option Eff} (h : commO a b = true) (ob : Ob) : obO b (obO a ob) = obO a (obO b ob) := by
  cases a <;> cases b <;> simp [obO]
  exact Eff.comm_ob h ob
theorem commO_nm {a b : Option Eff} (h : commO a b = true) (nm : Nm) : nmO b (nmO a nm) = nmO a (nmO b nm) := by
  cases a <;> cases b <;> simp [nmO]
  exact Eff.comm_nm h nm
theorem sameO_symm {e : Option Eff} {ob ob' : Ob} {nm nm' : Nm} (h : sameO e ob ob' nm nm') : sameO e ob' ob nm' nm := by
  cases e with
  | none => trivial
  | some e => exact Eff.same_symm h

section
variable {P : Program} {Γ : Nat → Option V} {cf : CallF} {ops : Array Oper} {base : Nat}

/-- A step's value and effect. -/
def stv (P : Program) (Γ : Nat → Option V) (cf : CallF) (ops : Array Oper) (base i : Nat) (o : Oper) (x : St) : Option (V × Option Eff) :=
  match wantedL ops x.tm o with
  | none => none
  | some false => some (.tup [], none)
  | some true =>
    match evE P cf (slotOf ops base i) o (x.eval Γ) x.ob x.nm with
    | none => none
    | some out => if out.chk then some (litG (isGd ops i) out.v, some out.eff) else none
def St.app (x : St) (e : Option Eff) (d : Option Nat) (v : V) : St := ({ x with ob := obO e x.ob, nm := nmO e x.nm } : St).put d v
theorem stp_eq {i : Nat} {o : Oper} (ho : ops[i]? = some o) (x : St) : stp P Γ cf ops base i x = (stv P Γ cf ops base i o x).map fun p => (x.app p.2 o.dst p.1, p.2) := by
  unfold stp stv
  simp only [ho]
  cases hw : wantedL ops x.tm o with
  | none => rfl
  | some t =>
    cases t with
    | false => rfl
    | true =>
      simp only []
      cases he : evE P cf (slotOf ops base i) o (x.eval Γ) x.ob x.nm with
      | none => rfl
      | some out => by_cases hc : out.chk = true <;> simp [hc] <;> rfl

theorem put_tm (x : St) (d : Option Nat) (v : V) (t : Nat) (h : d ≠ some t) : (x.put d v).tm[t]? = x.tm[t]? := by
  cases d with
  | none => rfl
  | some d =>
    simp only [St.put]
    rw [List.getElem?_set_ne (fun e => h (by rw [e]))]
theorem put_ob (x : St) (d : Option Nat) (v : V) : (x.put d v).ob = x.ob := by cases d <;> rfl
theorem put_nm (x : St) (d : Option Nat) (v : V) : (x.put d v).nm = x.nm := by cases d <;> rfl
/-- What a step does not look at. -/
theorem stv_apart {i : Nat} {o : Oper} {x y : St} (h : ∀ t, t ∈ o.looksAt ops → y.tm[t]? = x.tm[t]?) (hob : y.ob = x.ob) (hnm : y.nm = x.nm) : stv P Γ cf ops base i o y = stv P Γ cf ops base i o x := by
  have hw : wantedL ops y.tm o = wantedL ops x.tm o := by
    unfold wantedL
    split
    · rfl
    · rename_i j want hg
      split
      · rfl
      · rename_i d hd
        rw [h d (by simp [Oper.looksAt, hg, hd])]
  have he : evE P cf (slotOf ops base i) o (y.eval Γ) y.ob y.nm = evE P cf (slotOf ops base i) o (x.eval Γ) x.ob x.nm := by
    rw [hob, hnm]
    refine evE_loc fun q hq => ?_
    cases q with
    | tmp t => simp only [St.eval]; rw [h t (by simp [Oper.looksAt]; exact .inl ⟨_, by simpa using hq, rfl⟩)]
    | _ => rfl
  unfold stv
  rw [hw, he]
theorem stv_frame (hfit : CallsFit cf) {i : Nat} {o : Oper} {x y : St} {v : V} {e : Option Eff} (h : stv P Γ cf ops base i o x = some (v, e)) (htm : y.tm = x.tm) (hs : sameO e x.ob y.ob x.nm y.nm) : stv P Γ cf ops base i o y = some (v, e) := by
  unfold stv at h ⊢
  rw [htm]
  split at h
  · cases h
  · exact h
  · split at h
    · cases h
    · rename_i out he
      split at h
      · rename_i hc
        simp only [Option.some.injEq, Prod.mk.injEq] at h
        obtain ⟨rfl, rfl⟩ := h
        have hev : y.eval Γ = x.eval Γ := by funext q; cases q <;> simp [St.eval, htm]
        rw [hev, evE_frame hfit he hs]
        simp [hc]
      · cases h

theorem stv_fits (hfit : CallsFit cf) {i : Nat} {o : Oper} {x : St} {v : V} {e : Option Eff} (h : stv P Γ cf ops base i o x = some (v, e)) : fitsO e x.ob x.nm := by
  unfold stv at h
  split at h
  · cases h
  · cases h; trivial
  · split at h
    · cases h
    · rename_i out he
      split at h
      · simp only [Option.some.injEq, Prod.mk.injEq] at h
        obtain ⟨rfl, rfl⟩ := h
        exact fun p hp => ((evE_eff hfit he).2.2 p hp).2.2
      · cases h
/-- Two steps that are apart change places. -/
theorem stp_swap (hfit : CallsFit cf) {i j : Nat} {oi oj : Oper} (hi : ops[i]? = some oi) (hj : ops[j]? = some oj) (hap : oi.apart ops oj = true) {x x1 x2 : St} {ei ej : Option Eff} (h1 : stp P Γ cf ops base i x = some (x1, ei)) (h2 : stp P Γ cf ops base j x1 = some (x2, ej))
    (hc : commO ei ej = true) : ∃ x1', stp P Γ cf ops base j x = some (x1', ej) ∧ stp P Γ cf ops base i x1' = some (x2, ei) := by
  obtain ⟨a1, a2, a3⟩ := Oper.apart_spec hap
  rw [stp_eq hi] at h1
  rw [stp_eq hj] at h2
  simp only [Option.map_eq_some_iff] at h1 h2
  obtain ⟨⟨vi, ei'⟩, h1, h1'⟩ := h1
  obtain ⟨⟨vj, ej'⟩, h2, h2'⟩ := h2
  simp only [Prod.mk.injEq] at h1' h2'
  obtain ⟨rfl, rfl⟩ := h1'
  obtain ⟨rfl, rfl⟩ := h2'
  have hc' : commO ej' ei' = true := by rw [commO_symm]; exact hc
  -- j first
  have hj1 : stv P Γ cf ops base j oj x = some (vj, ej') := by
    have q1 : stv P Γ cf ops base j oj ({ x with ob := obO ei' x.ob, nm := nmO ei' x.nm } : St) = some (vj, ej') := by
      rw [← h2]
      refine (stv_apart (fun t ht => ?_) ?_ ?_).symm
      · exact put_tm _ _ _ _ (fun e => a1 t e ht)
      · exact put_ob _ _ _
      · exact put_nm _ _ _
    exact stv_frame hfit q1 rfl (sameO_symm (commO_same hc (stv_fits hfit h1)))
  refine ⟨x.app ej' oj.dst vj, by rw [stp_eq hj, hj1]; rfl, ?_⟩
  have hi1 : stv P Γ cf ops base i oi (x.app ej' oj.dst vj) = some (vi, ei') := by
    have q1 : stv P Γ cf ops base i oi ({ x with ob := obO ej' x.ob, nm := nmO ej' x.nm } : St) = some (vi, ei') := stv_frame hfit h1 rfl (commO_same hc' (stv_fits hfit hj1))
    rw [← q1]
    refine stv_apart (fun t ht => ?_) ?_ ?_
    · exact put_tm _ _ _ _ (fun e => a3 t e ht)
    · exact put_ob _ _ _
    · exact put_nm _ _ _
  rw [stp_eq hi, hi1]
  simp only [Option.map_some, Option.some.injEq, Prod.mk.injEq, and_true]
  -- the two states are one
  have e1 := commO_ob hc x.ob
  have e2 := commO_nm hc x.nm
  cases hdi : oi.dst with
  | none => cases hdj : oj.dst <;> simp [St.app, St.put, e1, e2]
  | some di =>
    cases hdj : oj.dst with
    | none => simp [St.app, St.put, e1, e2]
    | some dj =>
      have hne : di ≠ dj := fun e => a2 di hdi (by rw [hdj, e])
      simp [St.app, St.put, e1, e2, List.set_comm _ _ hne]

/-- Whatever order: the same end. -/
def anyC (P : Program) (Γ : Nat → Option V) (cf : CallF) (md : Region.Mode) (ops : Array Oper) (base : Nat) (E : Nat → Option Eff) (xf : St) : Nat → Array Bool → St → Prop
  | 0, listed, x => Region.ready md ops listed = [] ∧ x = xf
  | fuel + 1, listed, x => (Region.ready md ops listed = [] → x = xf) ∧ ∀ i ∈ Region.ready md ops listed, ∃ x', stp P Γ cf ops base i x = some (x', E i) ∧ anyC P Γ cf md ops base E xf fuel (listed.setIfInBounds i true) x'

/-- One operation waits for the other, by the edges. -/
inductive Waits (md : Region.Mode) (ops : Array Oper) (i : Nat) : Nat → Prop where
  | edge {j : Nat} {oj : Oper} {e : Edge} (h : ops[j]? = some oj) (he : e ∈ oj.after) (hb : Region.binds md e = true) (hi : e.on = i) : Waits md ops i j
  | via {j : Nat} {oj : Oper} {e : Edge} (h : ops[j]? = some oj) (he : e ∈ oj.after) (hb : Region.binds md e = true) (hi : Waits md ops i e.on) : Waits md ops i j
/-- What is listed has all listed that it waits for. -/
def Closed (md : Region.Mode) (ops : Array Oper) (listed : Array Bool) : Prop := ∀ m om, listed.getD m false = true → ops[m]? = some om → ∀ e ∈ om.after, Region.binds md e = true → listed.getD e.on false = true
theorem Closed.waits {md : Region.Mode} {listed : Array Bool} (hc : Closed md ops listed) {i : Nat} (hi : listed.getD i false = false) {j : Nat} (h : Waits md ops i j) : listed.getD j false = false := by
  cases hj : listed.getD j false with
  | false => rfl
  | true =>
    exfalso
    induction h with
    | edge h he hb e =>
      have := hc _ _ hj h _ he hb
      rw [e, hi] at this
      cases this
    | via h he hb _ ih => exact ih (hc _ _ hj h _ he hb)
theorem unlisted {listed : Array Bool} {i : Nat} (h : listed.getD i true = false) : listed.getD i false = false := by
  rcases Nat.lt_or_ge i listed.size with h' | h'
  · simpa [h'] using h
  · simp [Array.getElem?_eq_none h'] at h
theorem Closed.ready {md : Region.Mode} {listed : Array Bool} (hc : Closed md ops listed) {i j : Nat} (hi : listed.getD i true = false) (hj : j ∈ Region.ready md ops listed) : ¬ Waits md ops i j := by
  intro h
  obtain ⟨_, o, ho, hall⟩ := mem_ready.1 hj
  cases h with
  | edge h he hb e =>
    rw [ho] at h
    cases h
    have := hall _ he hb
    rw [e, unlisted hi] at this
    cases this
  | via h he hb hbb =>
    rw [ho] at h
    cases h
    have := hc.waits (unlisted hi) hbb
    rw [hall _ he hb] at this
    cases this
theorem Closed.set {md : Region.Mode} {listed : Array Bool} (hc : Closed md ops listed) {j : Nat} (hj : j ∈ Region.ready md ops listed) : Closed md ops (listed.setIfInBounds j true) := by
  intro m om hm ho e he hb
  by_cases hmj : j = m
  · subst hmj
    obtain ⟨_, o, ho', hall⟩ := mem_ready.1 hj
    rw [ho] at ho'
    cases ho'
    exact getD_set_true (hall e he hb)
  · rw [getD_set_ne false hmj] at hm
    exact getD_set_true (hc m om hm ho e he hb)
theorem anyC_first (hfit : CallsFit cf) {md : Region.Mode} {E : Nat → Option Eff} {xf : St} {i : Nat} {oi : Oper} (hi : ops[i]? = some oi) : ∀ (fuel : Nat) (listed : Array Bool) (x x1 : St),
    (∀ j oj, ops[j]? = some oj → j ≠ i → listed.getD j true = false → ¬ Waits md ops i j → oi.apart ops oj = true ∧ commO (E i) (E j) = true) → Closed md ops listed →
    i ∈ Region.ready md ops listed → stp P Γ cf ops base i x = some (x1, E i) → anyC P Γ cf md ops base E xf fuel (listed.setIfInBounds i true) x1 → anyC P Γ cf md ops base E xf (fuel + 1) listed x := by
  intro fuel
  induction fuel with
  | zero =>
    intro listed x x1 _ _ hr hs H
    refine ⟨fun h => (by rw [h] at hr; cases hr), fun j hj => ?_⟩
    by_cases hji : j = i
    · subst hji; exact ⟨x1, hs, H⟩
    · have := ready_mono hj hji
      rw [H.1] at this
      cases this
  | succ fuel ih =>
    intro listed x x1 hfree hcl hr hs H
    refine ⟨fun h => (by rw [h] at hr; cases hr), fun j hj => ?_⟩
    by_cases hji : j = i
    · subst hji; exact ⟨x1, hs, H⟩
    · obtain ⟨x2, hs2, H2⟩ := H.2 j (ready_mono hj hji)
      obtain ⟨hjun, oj, hoj, hall⟩ := mem_ready.1 hj
      have hnot : ¬ Waits md ops i j := hcl.ready (mem_ready.1 hr).1 hj
      obtain ⟨hap, hco⟩ := hfree j oj hoj hji hjun hnot
      obtain ⟨x1', g1, g2⟩ := stp_swap hfit hi hoj hap hs hs2 hco
      have hfree' : ∀ k ok, ops[k]? = some ok → k ≠ i → (listed.setIfInBounds j true).getD k true = false → ¬ Waits md ops i k → oi.apart ops ok = true ∧ commO (E i) (E k) = true := fun k ok hk hki hun hno => by
        refine hfree k ok hk hki ?_ hno
        by_cases hjk : j = k
        · subst hjk; exact hjun
        · rw [getD_set_ne true hjk] at hun; exact hun
      refine ⟨x1', g1, ih (listed.setIfInBounds j true) x1' x2 hfree' (hcl.set hj) (ready_mono hr (Ne.symm hji)) g2 ?_⟩
      rw [Array.setIfInBounds_comm _ _ hji]
      exact H2

/-- One operation waits for the other, looked for. -/
def waitsB (ops : Array Oper) : Nat → Nat → Nat → Bool
  | 0, _, _ => false
  | n + 1, i, j =>
    match ops[j]? with
    | some o => o.after.any fun e => Region.binds .any e && (e.on == i || (Nat.blt i e.on && waitsB ops n i e.on))
    | none => false
theorem waits_spec : ∀ (n i j : Nat), waitsB ops n i j = true → Waits .any ops i j
  | 0, i, j, h => by cases h
  | n + 1, i, j, h => by
    simp only [waitsB] at h
    split at h
    · rename_i o ho
      rw [Array.any_eq_true'] at h
      obtain ⟨e, he, hh⟩ := h
      simp only [Bool.and_eq_true, Bool.or_eq_true, beq_iff_eq] at hh
      rcases hh.2 with h2 | h2
      · exact .edge ho he hh.1 h2
      · exact .via ho he hh.1 (waits_spec n i _ h2.2)
    · cases h
/-- The effects along the text, looked at in pairs that no edge orders. -/
def commAll (ops : Array Oper) (es : List (Option Eff)) : Bool :=
  (List.range ops.size).all fun j =>
    match es[j]?.join with
    | none => true
    | some b => b.isPure || (List.range j).all fun i => match es[i]?.join with | none => true | some a => a.comm b || waitsB ops 4 i j
theorem commAll_spec {es : List (Option Eff)} (h : commAll ops es = true) {i j : Nat} {oj : Oper} (hij : i < j) (hj : ops[j]? = some oj) (hno : ¬ Waits .any ops i j) : commO (es[i]?.join) (es[j]?.join) = true := by
  have hjl : j < ops.size := by
    rcases Nat.lt_or_ge j ops.size with h' | h'
    · exact h'
    · simp [Array.getElem?_eq_none h'] at hj
  unfold commAll at h
  rw [List.all_eq_true] at h
  have h1 := h j (List.mem_range.2 hjl)
  cases hb : es[j]?.join with
  | none => cases es[i]?.join <;> rfl
  | some b =>
    cases ha : es[i]?.join with
    | none => rfl
    | some a =>
      simp only [commO]
      by_cases hp : b.isPure = true
      · rw [Eff.isPure_eq hp]; simp [Eff.comm, Eff.isPure, Eff.pure]
      · have h2 : (List.range j).all (fun i => match es[i]?.join with | none => true | some a => a.comm b || waitsB ops 4 i j) = true := by
          rw [hb] at h1
          simpa [hp] using h1
        rw [List.all_eq_true] at h2
        have h3 := h2 i (List.mem_range.2 hij)
        rw [ha] at h3
        simp only [Bool.or_eq_true] at h3
        rcases h3 with h3 | h3
        · exact h3
        · exact absurd (waits_spec _ _ _ h3) hno

theorem anyC_lex (hfit : CallsFit cf) {es : List (Option Eff)} {xf : St} (hcomm : commAll ops es = true) : ∀ (n k : Nat) (listed : Array Bool) (x : St) (es' : List (Option Eff)), k + n = ops.size → (∀ j, j < n → es'[j]? = es[k + j]?) → (∀ j, j < k → listed.getD j true = true) → Closed .any ops listed →
    Region.lexFrom .any ops n k listed = true → chain P Γ cf ops base n k x = some (xf, es') → anyC P Γ cf .any ops base (fun i => es[i]?.join) xf n listed x
  | 0, k, listed, x, es', _, _, _, _, hB, h => by
    simp only [chain, Option.some.injEq, Prod.mk.injEq] at h
    exact ⟨by simpa [Region.lexFrom] using hB, h.1⟩
  | n + 1, k, listed, x, es', hk, hes, hli, hcl, hB, h => by
    have h0 : k < ops.size := by omega
    have hok : ops[k]? = some ops[k] := Array.getElem?_eq_getElem h0
    simp only [Region.lexFrom, Bool.and_eq_true] at hB
    obtain ⟨⟨hr, hf⟩, hB'⟩ := hB
    simp only [chain] at h
    split at h
    · cases h
    · rename_i x1 ef h1
      split at h
      · cases h
      · rename_i x2 es2 h2
        cases h
        have hEk : es[k]?.join = ef := by
          have := hes 0 (by omega)
          simp at this
          rw [← this]
          rfl
        refine anyC_first hfit hok n listed x x1 ?_ hcl (by simpa using hr) (by rw [h1, hEk]) ?_
        · intro j oj hj hjk hun hno
          refine ⟨Region.free_spec hok hf j oj hj hjk hun (fun e he hb heq => hno (.edge hj he hb heq)), ?_⟩
          have hkj : k < j := by
            rcases Nat.lt_or_ge j k with hlt | hge
            · rw [hli j hlt] at hun; cases hun
            · omega
          exact commAll_spec hcomm hkj hj hno
        · refine anyC_lex hfit hcomm n (k + 1) _ x1 es2 (by omega) (fun j hj => ?_) (fun j hj => ?_) (hcl.set (by simpa using hr)) hB' h2
          · have := hes (j + 1) (by omega)
            simpa [Nat.add_assoc, Nat.add_comm 1 j] using this
          · by_cases hjk : j = k
            · subst hjk
              have hsz : j < listed.size := by
                rcases Nat.lt_or_ge j listed.size with h' | h'
                · exact h'
                · have := (mem_ready.1 (by simpa using hr : j ∈ Region.ready .any ops listed)).1
                  simp [Array.getElem?_eq_none h'] at this
              simp [hsz]
            · rw [getD_set_ne true (Ne.symm hjk)]
              exact hli j (by omega)

theorem anyC_wp (hcf : CallsOk P Γ cf) (hfit : CallsFit cf) {ro : Option Nat} {E : Nat → Option Eff} {xf : St} {Q : Exit → Act → World → Prop} {G0 : Gh} (hQ : ∀ G a w, G0.le G → Rel Γ G xf a w → Q .normal a w) : ∀ (fuel : Nat) (listed : Array Bool) (x : St) (G : Gh) (a : Act) (w : World),
    (∀ j o, ops[j]? = some o → allocs o = true → listed.getD j true = false → x.ob[slotOf ops base j]? = some none ∧ x.nm[slotOf ops base j]? = some none) → G0.le G → Rel Γ G x a w → anyC P Γ cf .any ops base E xf fuel listed x → wpAnyIn (wideR ro) 0 P .any ops Q fuel listed a w
  | 0, listed, x, G, a, w, _, hle, hr, h => ⟨h.1, hQ G a w hle (h.2 ▸ hr)⟩
  | fuel + 1, listed, x, G, a, w, hfree, hle, hr, h => by
    refine ⟨fun h0 => hQ G a w hle ((h.1 h0) ▸ hr), fun i hi => ?_⟩
    obtain ⟨x', hs, H⟩ := h.2 i hi
    have hun := (mem_ready.1 hi).1
    refine stp_wp hcf hfit hs (fun o ho hal => hfree i o ho hal hun) hr _ _ ?_
    intro G' a' w' hle' hr'
    refine anyC_wp hcf hfit hQ fuel _ x' G' a' w' ?_ (hle.trans hle') hr' H
    intro j o ho hal hun'
    by_cases hij : i = j
    · subst hij
      have hsz : i < listed.size := by
        rcases Nat.lt_or_ge i listed.size with h' | h'
        · exact h'
        · simp [Array.getElem?_eq_none h'] at hun
      simp [hsz] at hun'
    · rw [getD_set_ne true hij] at hun'
      refine set_free hfit hs (hfree j o ho hal hun') fun o' ho' hal' => ?_
      intro e
      rcases Nat.lt_or_ge i j with hlt | hge
      · have := slot_lt (base := base) hlt ho' hal'; omega
      · have := slot_lt (base := base) (show j < i by omega) ho hal; omega

/-- A region that draws its order. -/
theorem SemC.region_draw (hcf : CallsOk P Γ cf) (hfit : CallsFit cf) (hm : P.follows .mixedOrders = true) {id : Nat} {x x' : St} {es : List (Option Eff)} (hB : Region.lexB .any ops = true) (hf : Free ops base 0 x) (h : chain P Γ cf ops base ops.size 0 x = some (x', es)) (hcomm : commAll ops es = true) :
    SemC P Γ (.region id ops true) x .normal x' := by
  intro ro G a w hr ho
  simp only [Region.lexB, Bool.and_eq_true] at hB
  refine wpIn_region_any hm ?_
  have hany := anyC_lex (P := P) (Γ := Γ) (base := base) hfit hcomm ops.size 0 (Array.replicate ops.size false) x es (by omega) (fun j _ => by simp) (fun j hj => by omega) (fun m om hm => by simp [Array.getD_eq_getD_getElem?, Array.getElem?_replicate] at hm; split at hm <;> simp at hm) hB.2 h
  refine anyC_wp hcf hfit (G0 := G) (fun G' a' w' hle hr' => ⟨rfl, G', hle.weak, hr'⟩) _ _ x G a _ (fun j o ho hal _ => hf j o (Nat.zero_le _) ho hal) (.refl G) ⟨hr.tm, hr.wr.drew, hr.df, hr.kh, hr.kt⟩ hany
end
end Go.Proofs.Ytnjjkobijjdnbaa
