/- A region that draws its order: the text's order serves every order. -/
import Derived.Test.YtblnabilodbceaaDoorDv14
set_option linter.unusedVariables false
set_option linter.unusedSimpArgs false
namespace Go.Proofs.YtblnabilodbceaaDoor
open Go

def Eff.comm : Eff → Eff → Bool
  | .pure, _ => true
  | _, .pure => true
  | .blk _ _, _ => false
  | _, .blk _ _ => false
  | .rd _, .rd _ => true
  | .rds _, .rds _ => true
  | .rds _, .rd _ => true
  | .rd _, .rds _ => true
  | .rds os, .wr p _ => !os.contains p
  | .rds os, .mk p _ => !os.contains p
  | .wr p _, .rds os => !os.contains p
  | .mk p _, .rds os => !os.contains p
  | .rd o, .wr p _ => o != p
  | .rd o, .mk p _ => o != p
  | .wr o _, .rd p => o != p
  | .wr o _, .wr p _ => o != p
  | .wr o _, .mk p _ => o != p
  | .mk o _, .rd p => o != p
  | .mk o _, .wr p _ => o != p
  | .mk o _, .mk p _ => o != p
  | .app n _, .app m _ => n != m
  | .app _ _, _ => true
  | _, .app _ _ => true
theorem Eff.comm_symm (a b : Eff) : a.comm b = b.comm a := by
  cases a <;> cases b <;> simp [Eff.comm, bne_comm]
theorem Eff.comm_same {a b : Eff} (h : a.comm b = true) (ob : Ob) (nm : Nm) : b.same ob (a.ob ob) nm (a.nm nm) := by
  cases a <;> cases b <;> simp [Eff.comm] at h <;> simp [Eff.same, Eff.ob, Eff.nm] <;> first
    | (rw [List.getElem?_set_ne]; first | exact h | exact fun e => h e.symm)
    | (intro o ho; rw [List.getElem?_set_ne (by intro e; subst e; exact h ho)])
theorem Eff.comm_ob {a b : Eff} (h : a.comm b = true) (ob : Ob) : b.ob (a.ob ob) = a.ob (b.ob ob) := by
  cases a <;> cases b <;> simp [Eff.comm] at h <;> simp [Eff.ob] <;> exact List.set_comm _ _ h
theorem Eff.comm_nm {a b : Eff} (h : a.comm b = true) (nm : Nm) : b.nm (a.nm nm) = a.nm (b.nm nm) := by
  cases a <;> cases b <;> simp [Eff.comm] at h <;> simp [Eff.nm] <;> exact List.set_comm _ _ h
theorem Eff.same_symm {e : Eff} {ob ob' : Ob} {nm nm' : Nm} (h : e.same ob ob' nm nm') : e.same ob' ob nm' nm := by
  cases e <;> simp [Eff.same] at h ⊢ <;> first | exact h.symm | exact ⟨h.1.symm, h.2.symm⟩ | exact fun o ho => (h o ho).symm

def obO (e : Option Eff) (ob : Ob) : Ob := match e with | some e => e.ob ob | none => ob
def nmO (e : Option Eff) (nm : Nm) : Nm := match e with | some e => e.nm nm | none => nm
def sameO (e : Option Eff) (ob ob' : Ob) (nm nm' : Nm) : Prop := match e with | some e => e.same ob ob' nm nm' | none => True
def commO : Option Eff → Option Eff → Bool
  | some a, some b => a.comm b
  | _, _ => true
theorem commO_same {a b : Option Eff} (h : commO a b = true) (ob : Ob) (nm : Nm) : sameO b ob (obO a ob) nm (nmO a nm) := by
  cases a <;> cases b <;> simp [sameO, obO, nmO]
  · rename_i e; cases e <;> simp [Eff.same]
  · exact Eff.comm_same h ob nm
theorem commO_symm (a b : Option Eff) : commO a b = commO b a := by cases a <;> cases b <;> simp [commO, Eff.comm_symm]
theorem commO_ob {a b : Option Eff} (h : commO a b = true) (ob : Ob) : obO b (obO a ob) = obO a (obO b ob) := by
  cases a <;> cases b <;> simp [obO]
  exact Eff.comm_ob h ob
theorem commO_nm {a b : Option Eff} (h : commO a b = true) (nm : Nm) : nmO b (nmO a nm) = nmO a (nmO b nm) := by
  cases a <;> cases b <;> simp [nmO]
  exact Eff.comm_nm h nm
theorem sameO_symm {e : Option Eff} {ob ob' : Ob} {nm nm' : Nm} (h : sameO e ob ob' nm nm') : sameO e ob' ob nm' nm := by
  cases e with
  | none => trivial
  | some e => exact Eff.same_symm h

section
variable {P : Program} {Γ : Nat → Option V} {cf : CallF} {ops : Array Oper} {base : Nat}

/-- A step's value and effect. -/
def stv (P : Program) (Γ : Nat → Option V) (cf : CallF) (ops : Array Oper) (base i : Nat) (o : Oper) (x : St) : Option (V × Option Eff) :=
  match wantedL ops x.tm o with
  | none => none
  | some false => some (.tup [], none)
  | some true =>
    match evE P cf (slotOf ops base i) o (x.eval Γ) x.ob x.nm with
    | none => none
    | some out => if out.chk then some (litG (isGd ops i) out.v, some out.eff) else none
def St.app (x : St) (e : Option Eff) (d : Option Nat) (v : V) : St := ({ x with ob := obO e x.ob, nm := nmO e x.nm } : St).put d v
theorem stp_eq {i : Nat} {o : Oper} (ho : ops[i]? = some o) (x : St) : stp P Γ cf ops base i x = (stv P Γ cf ops base i o x).map fun p => (x.app p.2 o.dst p.1, p.2) := by
  unfold stp stv
  simp only [ho]
  cases hw : wantedL ops x.tm o with
  | none => rfl
  | some t =>
    cases t with
    | false => rfl
    | true =>
      simp only []
      cases he : evE P cf (slotOf ops base i) o (x.eval Γ) x.ob x.nm with
      | none => rfl
      | some out => by_cases hc : out.chk = true <;> simp [hc] <;> rfl

theorem put_tm (x : St) (d : Option Nat) (v : V) (t : Nat) (h : d ≠ some t) : (x.put d v).tm[t]? = x.tm[t]? := by
  cases d with
  | none => rfl
  | some d =>
    simp only [St.put]
    rw [List.getElem?_set_ne (fun e => h (by rw [e]))]
theorem put_ob (x : St) (d : Option Nat) (v : V) : (x.put d v).ob = x.ob := by cases d <;> rfl
theorem put_nm (x : St) (d : Option Nat) (v : V) : (x.put d v).nm = x.nm := by cases d <;> rfl
/-- What a step does not look at. -/
theorem stv_apart {i : Nat} {o : Oper} {x y : St} (h : ∀ t, t ∈ o.looksAt ops → y.tm[t]? = x.tm[t]?) (hob : y.ob = x.ob) (hnm : y.nm = x.nm) : stv P Γ cf ops base i o y = stv P Γ cf ops base i o x := by
  have hw : wantedL ops y.tm o = wantedL ops x.tm o := by
    unfold wantedL
    split
    · rfl
    · rename_i j want hg
      split
      · rfl
      · rename_i d hd
        rw [h d (by simp [Oper.looksAt, hg, hd])]
  have he : evE P cf (slotOf ops base i) o (y.eval Γ) y.ob y.nm = evE P cf (slotOf ops base i) o (x.eval Γ) x.ob x.nm := by
    rw [hob, hnm]
    refine evE_loc fun q hq => ?_
    cases q with
    | tmp t => simp only [St.eval]; rw [h t (by simp [Oper.looksAt]; exact .inl ⟨_, by simpa using hq, rfl⟩)]
    | _ => rfl
  unfold stv
  rw [hw, he]
theorem stv_frame (hfit : CallsFit cf) {i : Nat} {o : Oper} {x y : St} {v : V} {e : Option Eff} (h : stv P Γ cf ops base i o x = some (v, e)) (htm : y.tm = x.tm) (hs : sameO e x.ob y.ob x.nm y.nm) : stv P Γ cf ops base i o y = some (v, e) := by
  unfold stv at h ⊢
  rw [htm]
  split at h
  · cases h
  · exact h
  · split at h
    · cases h
    · rename_i out he
      split at h
      · rename_i hc
        simp only [Option.some.injEq, Prod.mk.injEq] at h
        obtain ⟨rfl, rfl⟩ := h
        have hev : y.eval Γ = x.eval Γ := by funext q; cases q <;> simp [St.eval, htm]
        rw [hev, evE_frame hfit he hs]
        simp [hc]
      · cases h

/-- Two steps that are apart change places. -/
theorem stp_swap (hfit : CallsFit cf) {i j : Nat} {oi oj : Oper} (hi : ops[i]? = some oi) (hj : ops[j]? = some oj) (hap : oi.apart ops oj = true) {x x1 x2 : St} {ei ej : Option Eff} (h1 : stp P Γ cf ops base i x = some (x1, ei)) (h2 : stp P Γ cf ops base j x1 = some (x2, ej))
    (hc : commO ei ej = true) : ∃ x1', stp P Γ cf ops base j x = some (x1', ej) ∧ stp P Γ cf ops base i x1' = some (x2, ei) := by
  obtain ⟨a1, a2, a3⟩ := Oper.apart_spec hap
  rw [stp_eq hi] at h1
  rw [stp_eq hj] at h2
  simp only [Option.map_eq_some_iff] at h1 h2
  obtain ⟨⟨vi, ei'⟩, h1, h1'⟩ := h1
  obtain ⟨⟨vj, ej'⟩, h2, h2'⟩ := h2
  simp only [Prod.mk.injEq] at h1' h2'
  obtain ⟨rfl, rfl⟩ := h1'
  obtain ⟨rfl, rfl⟩ := h2'
  have hc' : commO ej' ei' = true := by rw [commO_symm]; exact hc
  -- j first
  have hj1 : stv P Γ cf ops base j oj x = some (vj, ej') := by
    have q1 : stv P Γ cf ops base j oj ({ x with ob := obO ei' x.ob, nm := nmO ei' x.nm } : St) = some (vj, ej') := by
      rw [← h2]
      refine (stv_apart (fun t ht => ?_) ?_ ?_).symm
      · exact put_tm _ _ _ _ (fun e => a1 t e ht)
      · exact put_ob _ _ _
      · exact put_nm _ _ _
    exact stv_frame hfit q1 rfl (sameO_symm (commO_same hc x.ob x.nm))
  refine ⟨x.app ej' oj.dst vj, by rw [stp_eq hj, hj1]; rfl, ?_⟩
  have hi1 : stv P Γ cf ops base i oi (x.app ej' oj.dst vj) = some (vi, ei') := by
    have q1 : stv P Γ cf ops base i oi ({ x with ob := obO ej' x.ob, nm := nmO ej' x.nm } : St) = some (vi, ei') := stv_frame hfit h1 rfl (commO_same hc' x.ob x.nm)
    rw [← q1]
    refine stv_apart (fun t ht => ?_) ?_ ?_
    · exact put_tm _ _ _ _ (fun e => a3 t e ht)
    · exact put_ob _ _ _
    · exact put_nm _ _ _
  rw [stp_eq hi, hi1]
  simp only [Option.map_some, Option.some.injEq, Prod.mk.injEq, and_true]
  -- the two states are one
  have e1 := commO_ob hc x.ob
  have e2 := commO_nm hc x.nm
  cases hdi : oi.dst with
  | none => cases hdj : oj.dst <;> simp [St.app, St.put, e1, e2]
  | some di =>
    cases hdj : oj.dst with
    | none => simp [St.app, St.put, e1, e2]
    | some dj =>
      have hne : di ≠ dj := fun e => a2 di hdi (by rw [hdj, e])
      simp [St.app, St.put, e1, e2, List.set_comm _ _ hne]

/-- Whatever order: the same end. -/
def anyC (P : Program) (Γ : Nat → Option V) (cf : CallF) (md : Region.Mode) (ops : Array Oper) (base : Nat) (E : Nat → Option Eff) (xf : St) : Nat → Array Bool → St → Prop
  | 0, listed, x => Region.ready md ops listed = [] ∧ x = xf
  | fuel + 1, listed, x => (Region.ready md ops listed = [] → x = xf) ∧ ∀ i ∈ Region.ready md ops listed, ∃ x', stp P Γ cf ops base i x = some (x', E i) ∧ anyC P Γ cf md ops base E xf fuel (listed.setIfInBounds i true) x'

theorem anyC_first (hfit : CallsFit cf) {md : Region.Mode} {E : Nat → Option Eff} {xf : St} {i : Nat} {oi : Oper} (hi : ops[i]? = some oi) : ∀ (fuel : Nat) (listed : Array Bool) (x x1 : St),
    (∀ j oj, ops[j]? = some oj → j ≠ i → listed.getD j true = false → (∀ e ∈ oj.after, Region.binds md e = true → e.on ≠ i) → oi.apart ops oj = true ∧ commO (E i) (E j) = true) →
    i ∈ Region.ready md ops listed → stp P Γ cf ops base i x = some (x1, E i) → anyC P Γ cf md ops base E xf fuel (listed.setIfInBounds i true) x1 → anyC P Γ cf md ops base E xf (fuel + 1) listed x := by
  intro fuel
  induction fuel with
  | zero =>
    intro listed x x1 _ hr hs H
    refine ⟨fun h => (by rw [h] at hr; cases hr), fun j hj => ?_⟩
    by_cases hji : j = i
    · subst hji; exact ⟨x1, hs, H⟩
    · have := ready_mono hj hji
      rw [H.1] at this
      cases this
  | succ fuel ih =>
    intro listed x x1 hfree hr hs H
    refine ⟨fun h => (by rw [h] at hr; cases hr), fun j hj => ?_⟩
    by_cases hji : j = i
    · subst hji; exact ⟨x1, hs, H⟩
    · obtain ⟨x2, hs2, H2⟩ := H.2 j (ready_mono hj hji)
      obtain ⟨hjun, oj, hoj, hall⟩ := mem_ready.1 hj
      have hnot : ∀ e ∈ oj.after, Region.binds md e = true → e.on ≠ i := fun e he hb heq => by
        have h1 := hall e he hb
        have h0 := (mem_ready.1 hr).1
        rw [heq] at h1
        rcases Nat.lt_or_ge i listed.size with h' | h'
        · simp [h'] at h0 h1; rw [h0] at h1; cases h1
        · simp [Array.getElem?_eq_none h'] at h1
      obtain ⟨hap, hco⟩ := hfree j oj hoj hji hjun hnot
      obtain ⟨x1', g1, g2⟩ := stp_swap hfit hi hoj hap hs hs2 hco
      have hfree' : ∀ k ok, ops[k]? = some ok → k ≠ i → (listed.setIfInBounds j true).getD k true = false → (∀ e ∈ ok.after, Region.binds md e = true → e.on ≠ i) → oi.apart ops ok = true ∧ commO (E i) (E k) = true := fun k ok hk hki hun hno => by
        refine hfree k ok hk hki ?_ hno
        by_cases hjk : j = k
        · subst hjk; exact hjun
        · rw [getD_set_ne true hjk] at hun; exact hun
      refine ⟨x1', g1, ih (listed.setIfInBounds j true) x1' x2 hfree' (ready_mono hr (Ne.symm hji)) g2 ?_⟩
      rw [Array.setIfInBounds_comm _ _ hji]
      exact H2

/-- The effects along the text, looked at in pairs that no edge orders. -/
def commAll (ops : Array Oper) (es : List (Option Eff)) : Bool :=
  (List.range ops.size).all fun j =>
    match es[j]?.join with
    | none => true
    | some .pure => true
    | some b => (List.range j).all fun i => match es[i]?.join with | none => true | some a => a.comm b || ((ops[j]?).map fun o => o.after.any fun e => Region.binds .any e && e.on == i).getD false
theorem commAll_spec {es : List (Option Eff)} (h : commAll ops es = true) {i j : Nat} {oj : Oper} (hij : i < j) (hj : ops[j]? = some oj) (hno : ∀ e ∈ oj.after, Region.binds .any e = true → e.on ≠ i) : commO (es[i]?.join) (es[j]?.join) = true := by
  have hjl : j < ops.size := by
    rcases Nat.lt_or_ge j ops.size with h' | h'
    · exact h'
    · simp [Array.getElem?_eq_none h'] at hj
  unfold commAll at h
  rw [List.all_eq_true] at h
  have h1 := h j (List.mem_range.2 hjl)
  cases hb : es[j]?.join with
  | none => cases es[i]?.join <;> rfl
  | some b =>
    cases ha : es[i]?.join with
    | none => rfl
    | some a =>
      simp only [commO]
      by_cases hp : b = .pure
      · subst hp; cases a <;> rfl
      · have h2 : (List.range j).all (fun i => match es[i]?.join with | none => true | some a => a.comm b || ((ops[j]?).map fun o => o.after.any fun e => Region.binds .any e && e.on == i).getD false) = true := by
          rw [hb] at h1
          cases b <;> first | exact absurd rfl hp | exact h1
        rw [List.all_eq_true] at h2
        have h3 := h2 i (List.mem_range.2 hij)
        rw [ha] at h3
        simp only [hj, Option.map_some, Option.getD_some, Bool.or_eq_true] at h3
        rcases h3 with h3 | h3
        · exact h3
        · rw [Array.any_eq_true'] at h3
          obtain ⟨e, he, hh⟩ := h3
          simp only [Bool.and_eq_true, beq_iff_eq] at hh
          exact absurd hh.2 (hno e he hh.1)

theorem anyC_lex (hfit : CallsFit cf) {es : List (Option Eff)} {xf : St} (hcomm : commAll ops es = true) : ∀ (n k : Nat) (listed : Array Bool) (x : St) (es' : List (Option Eff)), k + n = ops.size → (∀ j, j < n → es'[j]? = es[k + j]?) → (∀ j, j < k → listed.getD j true = true) →
    Region.lexFrom .any ops n k listed = true → chain P Γ cf ops base n k x = some (xf, es') → anyC P Γ cf .any ops base (fun i => es[i]?.join) xf n listed x
  | 0, k, listed, x, es', _, _, _, hB, h => by
    simp only [chain, Option.some.injEq, Prod.mk.injEq] at h
    exact ⟨by simpa [Region.lexFrom] using hB, h.1⟩
  | n + 1, k, listed, x, es', hk, hes, hli, hB, h => by
    have h0 : k < ops.size := by omega
    have hok : ops[k]? = some ops[k] := Array.getElem?_eq_getElem h0
    simp only [Region.lexFrom, Bool.and_eq_true] at hB
    obtain ⟨⟨hr, hf⟩, hB'⟩ := hB
    simp only [chain] at h
    split at h
    · cases h
    · rename_i x1 ef h1
      split at h
      · cases h
      · rename_i x2 es2 h2
        cases h
        have hEk : es[k]?.join = ef := by
          have := hes 0 (by omega)
          simp at this
          rw [← this]
          rfl
        refine anyC_first hfit hok n listed x x1 ?_ (by simpa using hr) (by rw [h1, hEk]) ?_
        · intro j oj hj hjk hun hno
          refine ⟨Region.free_spec hok hf j oj hj hjk hun hno, ?_⟩
          have hkj : k < j := by
            rcases Nat.lt_or_ge j k with hlt | hge
            · rw [hli j hlt] at hun; cases hun
            · omega
          exact commAll_spec hcomm hkj hj hno
        · refine anyC_lex hfit hcomm n (k + 1) _ x1 es2 (by omega) (fun j hj => ?_) (fun j hj => ?_) hB' h2
          · have := hes (j + 1) (by omega)
            simpa [Nat.add_assoc, Nat.add_comm 1 j] using this
          · by_cases hjk : j = k
            · subst hjk
              have hsz : j < listed.size := by
                rcases Nat.lt_or_ge j listed.size with h' | h'
                · exact h'
                · have := (mem_ready.1 (by simpa using hr : j ∈ Region.ready .any ops listed)).1
                  simp [Array.getElem?_eq_none h'] at this
              simp [hsz]
            · rw [getD_set_ne true (Ne.symm hjk)]
              exact hli j (by omega)

theorem anyC_wp (hcf : CallsOk P Γ cf) (hfit : CallsFit cf) {E : Nat → Option Eff} {xf : St} {Q : Exit → Act → World → Prop} {G0 : Gh} (hQ : ∀ G a w, G0.le G → Rel Γ G xf a w → Q .normal a w) : ∀ (fuel : Nat) (listed : Array Bool) (x : St) (G : Gh) (a : Act) (w : World),
    (∀ j o, ops[j]? = some o → allocs o = true → listed.getD j true = false → x.ob[slotOf ops base j]? = some none) → G0.le G → Rel Γ G x a w → anyC P Γ cf .any ops base E xf fuel listed x → wpAny P .any ops Q fuel listed a w
  | 0, listed, x, G, a, w, _, hle, hr, h => ⟨h.1, hQ G a w hle (h.2 ▸ hr)⟩
  | fuel + 1, listed, x, G, a, w, hfree, hle, hr, h => by
    refine ⟨fun h0 => hQ G a w hle ((h.1 h0) ▸ hr), fun i hi => ?_⟩
    obtain ⟨x', hs, H⟩ := h.2 i hi
    have hun := (mem_ready.1 hi).1
    refine stp_wp hcf hfit hs (fun o ho hal => hfree i o ho hal hun) hr _ _ ?_
    intro G' a' w' hle' hr'
    refine anyC_wp hcf hfit hQ fuel _ x' G' a' w' ?_ (hle.trans hle') hr' H
    intro j o ho hal hun'
    by_cases hij : i = j
    · subst hij
      have hsz : i < listed.size := by
        rcases Nat.lt_or_ge i listed.size with h' | h'
        · exact h'
        · simp [Array.getElem?_eq_none h'] at hun
      simp [hsz] at hun'
    · rw [getD_set_ne true hij] at hun'
      refine set_free hfit hs (hfree j o ho hal hun') fun o' ho' hal' => ?_
      intro e
      rcases Nat.lt_or_ge i j with hlt | hge
      · have := slot_lt (base := base) hlt ho' hal'; omega
      · have := slot_lt (base := base) (show j < i by omega) ho hal; omega

/-- A region that draws its order. -/
theorem SemC.region_draw (hcf : CallsOk P Γ cf) (hfit : CallsFit cf) (hm : P.follows .mixedOrders = true) {id : Nat} {x x' : St} {es : List (Option Eff)} (hB : Region.lexB .any ops = true) (hf : Free ops base 0 x) (h : chain P Γ cf ops base ops.size 0 x = some (x', es)) (hcomm : commAll ops es = true) :
    SemC P Γ (.region id ops true) x .normal x' := by
  intro G a w hr
  simp only [Region.lexB, Bool.and_eq_true] at hB
  refine wp_region_any hm ?_
  have hany := anyC_lex (P := P) (Γ := Γ) (base := base) hfit hcomm ops.size 0 (Array.replicate ops.size false) x es (by omega) (fun j _ => by simp) (fun j hj => by omega) hB.2 h
  refine anyC_wp hcf hfit (G0 := G) (fun G' a' w' hle hr' => ⟨rfl, G', hle, hr'⟩) _ _ x G a _ (fun j o ho hal _ => hf j o (Nat.zero_le _) ho hal) (.refl G) ⟨hr.tm, hr.wr.drew, hr.df⟩ hany
end
end Go.Proofs.YtblnabilodbceaaDoor
