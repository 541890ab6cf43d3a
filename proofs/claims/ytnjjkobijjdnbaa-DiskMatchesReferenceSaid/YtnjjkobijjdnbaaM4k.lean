/- Parts of the library of texts, one after the other: K12, K13, K14, K39, K40, K20b, K42, K41, K43, K44. -/
import Derived.Test.YtnjjkobijjdnbaaM4j
/- Package disk: a round of the loop of DiskSynced, reckoned; the loop. -/
set_option linter.unusedVariables false
set_option linter.unusedSimpArgs false
set_option maxRecDepth 100000
set_option maxHeartbeats 8000000
namespace Go.Proofs.Ytnjjkobijjdnbaa
open Go
/-- A loop by induction; where it ends is told by what holds there. -/
theorem SemL.indE {P : Program} {Γ : Nat → Option V} {A Z : Type} {b : Code} (emb : A → St) (m : A → Nat) (e : Exit) (he : e ≠ .normal) (outs : Z → St) (Inv : A → Prop) (Post : Z → Prop)
    (h : ∀ a, Inv a → (∃ a', SemC P Γ b (emb a) .normal (emb a') ∧ Inv a' ∧ m a' < m a) ∨ ∃ z, Post z ∧ SemC P Γ b (emb a) e (outs z)) : ∀ a, Inv a → ∃ z, Post z ∧ SemL P Γ b (emb a) e (outs z) := by
  have key : ∀ (k : Nat) a, m a ≤ k → Inv a → ∃ z, Post z ∧ SemL P Γ b (emb a) e (outs z) := by
    intro k
    induction k with
    | zero =>
      intro a hm hi
      rcases h a hi with ⟨a', h1, h2, h3⟩ | ⟨z, h1, h2⟩
      · omega
      · exact ⟨z, h1, SemL.out he h2⟩
    | succ k ih =>
      intro a hm hi
      rcases h a hi with ⟨a', h1, h2, h3⟩ | ⟨z, h1, h2⟩
      · obtain ⟨z, z1, z2⟩ := ih a' (by omega) h2
        exact ⟨z, z1, SemL.next h1 z2⟩
      · exact ⟨z, h1, SemL.out he h2⟩
  exact fun a hi => key _ a (Nat.le_refl _) hi
namespace D
noncomputable def hdS (n i torn : Int) (sure : ByteArray) (dur vis b : List Int) (q : List (Ty.den wp)) (m : Nat) (l : List (Ty.den wt)) : St := St.of 102 [0, 1, 2, 7, 8, 10, 11, 12] [.si .i64 n, .slst .ro wt l, .si .i64 torn, .b true, .ptr 0 0, .bs true 0 0 n.toNat, .ss sure, .si .i64 i]
  [some [.b false, .i .i64 0, .bs true 1 0 n.toNat, .bs true 2 0 n.toNat, .bs true 3 0 m]] [some (.live (.arr (.int .u8) b)), some (.live (.arr (.int .u8) dur)), some (.live (.arr (.int .u8) vis)), some (.live (.arr wp q))]
def lveS : Ex → List Nat | .normal => [0, 1, 2, 7, 8, 10, 11, 12] | _ => [0, 2, 7, 8, 11]
noncomputable def rndS (n i torn : Int) (sure : ByteArray) (dur vis b : List Int) (q : List (Ty.den wp)) (m : Nat) (l : List (Ty.den wt)) := outa lveS (evCK Try.prog G0 (cfM Try.prog G0 (cfgR wy6) 30) ((cfgR wy6).lo 7) [] 60 1 (lp 7 0) (hdS n i torn sure dur vis b q m l))
def dsC : List Bool := [true, true, true, true, true, true, false, false]
def dsD : List Bool := [true, true, true, true, true, true, true, true, true]
/-- What a round asks for up to the write. -/
def cA (dur b : List Int) (m : Nat) (n i : Int) (l : List (Ty.den wt)) (w : Ty.den wt) : List Bool := [decide (i < (l.length : Int)), decide (i < 60), decide (0 ≤ i ∧ i < (l.length : Int)), inr (wO w) && decide (0 ≤ n ∧ n ≤ 4194304)] ++ cW dur b m n (fo (wO w) n) (fs (wS w) (wO w) n)
def cS (m : Nat) : Bool := decide ((0 : Int) ≤ 0 ∧ 0 ≤ Bd.hi (some (IntKind.i64, 0, false)) (m + 1) ∧ Bd.hi (some (IntKind.i64, 0, false)) (m + 1) ≤ ((m + 1 : Nat) : Int)) && true && true
theorem cS_true (m : Nat) : cS m = true := by
  unfold cS
  rw [decide_eq_true (by simp only [Bd.hi]; omega)]; rfl
section
variable (n i torn : Int) (sure : ByteArray) (dur vis b : List Int) (q : List (Ty.den wp)) (m : Nat) (l : List (Ty.den wt))
theorem rndS_A : (rndS n i torn sure dur vis b q m l).path dsC = some (.normal, [.si .i64 n, .slst .ro wt l, .si .i64 torn, .b true, .ptr 0 0, .bs true 0 0 n.toNat, .ss sure, .si .i64 (IntKind.i64.wrap (i + 1))],
  [some [.b false, .i .i64 0, .bs true 1 0 n.toNat, .bs true 2 0 n.toNat, .bs true 3 0 (m + 1)]], [some (.live (.arr (.int .u8) (bW b n (l.getD i.toNat wt.dflt)))), some (.live (.arr (.int .u8) dur)), some (.live (.arr (.int .u8) (visW vis n (l.getD i.toNat wt.dflt)))), some (.live (.arr wp (qW q m n (l.getD i.toNat wt.dflt))))], 102, 0, 0) := by kernel_rfl
theorem rndS_B : (rndS n i torn sure dur vis b q m l).path dsD = some (.normal, [.si .i64 n, .slst .ro wt l, .si .i64 torn, .b true, .ptr 0 0, .bs true 0 0 n.toNat, .ss (strOfNums (part (bW b n (l.getD i.toNat wt.dflt)) n)), .si .i64 (IntKind.i64.wrap (i + 1))],
  [some [.b false, .i .i64 0, .bs true 1 0 n.toNat, .bs true 2 0 n.toNat, .bs true 3 0 0]], [some (.live (.arr (.int .u8) (bW b n (l.getD i.toNat wt.dflt)))), some (.live (.arr (.int .u8) (durS dur (visW vis n (l.getD i.toNat wt.dflt)) n))), some (.live (.arr (.int .u8) (visW vis n (l.getD i.toNat wt.dflt)))), some (.live (.arr wp (qS (qW q m n (l.getD i.toNat wt.dflt)) (m + 1))))], 102, 0, 0) := by kernel_rfl
theorem rndS_E : (rndS n i torn sure dur vis b q m l).path [false] = some (.exit 0, [.si .i64 n, .si .i64 torn, .b true, .ptr 0 0, .ss sure], [some [.b false, .i .i64 0, .bs true 0 0 n.toNat, .bs true 1 0 n.toNat, .bs true 2 0 m]], [some (.live (.arr (.int .u8) dur)), some (.live (.arr (.int .u8) vis)), some (.live (.arr wp q))], 102, 0, 0) := by kernel_rfl
theorem rndS_F : (rndS n i torn sure dur vis b q m l).path [true, false] = some (.exit 0, [.si .i64 n, .si .i64 torn, .b true, .ptr 0 0, .ss sure], [some [.b false, .i .i64 0, .bs true 0 0 n.toNat, .bs true 1 0 n.toNat, .bs true 2 0 m]], [some (.live (.arr (.int .u8) dur)), some (.live (.arr (.int .u8) vis)), some (.live (.arr wp q))], 102, 0, 0) := by kernel_rfl
theorem rndS_EC : (rndS n i torn sure dur vis b q m l).conds [false] = [decide (i < (l.length : Int))] := by kernel_rfl
theorem rndS_FC : (rndS n i torn sure dur vis b q m l).conds [true, false] = [decide (i < (l.length : Int)), decide (i < 60)] := by kernel_rfl
theorem rndS_AC : (rndS n i torn sure dur vis b q m l).conds dsC = cA dur b m n i l (l.getD i.toNat wt.dflt) ++ [wY (l.getD i.toNat wt.dflt), wY (l.getD i.toNat wt.dflt)] := by kernel_rfl
theorem rndS_BC : (rndS n i torn sure dur vis b q m l).conds dsD = cA dur b m n i l (l.getD i.toNat wt.dflt) ++ [wY (l.getD i.toNat wt.dflt), cS m, wY (l.getD i.toNat wt.dflt)] := by kernel_rfl
end
theorem body7 : Try.f7.body = some (root 7) := by kernel_rfl
theorem lp7 : (loops (root 7))[0]? = some (lp 7 0) := by kernel_rfl
theorem lies7 : Lies (root 7) 1 (lp 7 0) := Lies.of_take (n := 0) (by kernel_rfl)
theorem cA_true {dur b : List Int} {m i : Nat} {n : Int} {l : List (Ty.den wt)} {w : Ty.den wt} (hn : 0 ≤ n) (hn2 : n ≤ 300) (hd : dur.length = n.toNat) (hb : b.length = n.toNat) (hm : m ≤ 60) (hi : i < l.length) (h60 : i < 60) (hw : inr (wO w) = true) : cA dur b m n i l w = [true, true, true, true, true, true] := by
  unfold cA
  rw [cW_true hn hn2 hd hb hm, decide_eq_true (show (i : Int) < (l.length : Int) by omega), decide_eq_true (show (i : Int) < 60 by omega), decide_eq_true (show 0 ≤ (i : Int) ∧ (i : Int) < (l.length : Int) from ⟨by omega, by omega⟩), hw, decide_eq_true (show 0 ≤ n ∧ n ≤ 4194304 from ⟨hn, by omega⟩)]
  rfl
structure ZS where
  dur : List Int
  vis : List Int
  q : List (Ty.den wp)
  m : Nat
noncomputable def outS (n torn : Int) (z : ZS) : St := St.of 102 [0, 2, 7, 8, 11] [.si .i64 n, .si .i64 torn, .b true, .ptr 0 0, .ss (strOfNums z.dur)] [some [.b false, .i .i64 0, .bs true 0 0 n.toNat, .bs true 1 0 n.toNat, .bs true 2 0 z.m]] [some (.live (.arr (.int .u8) z.dur)), some (.live (.arr (.int .u8) z.vis)), some (.live (.arr wp z.q))] 0 0
theorem s_loop (n torn : Int) (h1 : 1 ≤ n) (h2 : n ≤ 300) (l : List (Ty.den wt)) (hl : ∀ w ∈ l, inr (wO w) = true) : ∀ a : RS, (a.i ≤ 60 ∧ a.i ≤ l.length ∧ a.dur.length = n.toNat ∧ a.b.length = n.toNat ∧ a.m ≤ a.i) →
    ∃ z : ZS, (z.dur.length = n.toNat ∧ z.vis.length = n.toNat ∧ z.m ≤ 60) ∧ SemL Try.prog G0 (lp 7 0) (hdS n a.i torn (strOfNums a.dur) a.dur a.b a.b a.q a.m l) (.exit 0) (outS n torn z) :=
  SemL.indE (P := Try.prog) (Γ := G0) (b := lp 7 0) (fun a : RS => hdS n a.i torn (strOfNums a.dur) a.dur a.b a.b a.q a.m l) (fun a => l.length - a.i) (.exit 0) (by simp) (outS n torn) (fun a => a.i ≤ 60 ∧ a.i ≤ l.length ∧ a.dur.length = n.toNat ∧ a.b.length = n.toNat ∧ a.m ≤ a.i) (fun z => z.dur.length = n.toNat ∧ z.vis.length = n.toNat ∧ z.m ≤ 60) (fun a ⟨i1, i2, i3, i4, i5⟩ => by
    obtain ⟨i, dur, b, q, m⟩ := a
    simp only at i1 i2 i3 i4 i5
    have hC := cfgR_ok wy6
    by_cases hlt : i < l.length
    · by_cases h60 : i < 60
      · refine .inl ?_
        have hget : l.getD i wt.dflt = l[i] := by simp [List.getD, hlt]
        have hw := hl l[i] (List.getElem_mem hlt)
        generalize hW : l[i] = w at *
        have hc := cA_true (w := w) (m := m) (l := l) (by omega) h2 i3 i4 (by omega) hlt h60 hw
        have hv := vis_b (w := w) (by omega) i4
        have hbl := bW_len (w := w) (by omega) i4
        have hwi : IntKind.i64.wrap ((i : Int) + 1) = ((i + 1 : Nat) : Int) := by rw [wrap_in (by omega) (by omega)]; rfl
        cases hy : wY w with
        | false =>
          have hr := Tr.run_path _ _ _ (rndS_A n i torn (strOfNums dur) dur b b q m l) (by
            rw [rndS_AC, Int.toNat_natCast, hget, hc, hy]; rfl)
          rw [Int.toNat_natCast, hget, hv, hwi] at hr
          exact ⟨⟨i + 1, dur, bW b n w, qW q m n w, m + 1⟩, SemC.of_evM hC Try.func7 body7 lies7 hr, ⟨by show i + 1 ≤ 60; omega, by show i + 1 ≤ l.length; omega, i3, hbl, by show m + 1 ≤ i + 1; omega⟩, by show l.length - (i + 1) < l.length - i; omega⟩
        | true =>
          have hds : durS dur (bW b n w) n = bW b n w := by
            unfold durS
            rw [part_all hbl]
            exact cpy_all i3 hbl
          have hr := Tr.run_path _ _ _ (rndS_B n i torn (strOfNums dur) dur b b q m l) (by
            rw [rndS_BC, Int.toNat_natCast, hget, hc, cS_true, hy]; rfl)
          rw [Int.toNat_natCast, hget, hv, hds, hwi, part_all hbl] at hr
          exact ⟨⟨i + 1, bW b n w, bW b n w, qS (qW q m n w) (m + 1), 0⟩, SemC.of_evM hC Try.func7 body7 lies7 hr, ⟨by show i + 1 ≤ 60; omega, by show i + 1 ≤ l.length; omega, hbl, hbl, Nat.zero_le _⟩, by show l.length - (i + 1) < l.length - i; omega⟩
      · refine .inr ⟨⟨dur, b, q, m⟩, ⟨i3, i4, by show m ≤ 60; omega⟩, ?_⟩
        have hr := Tr.run_path _ _ _ (rndS_F n i torn (strOfNums dur) dur b b q m l) (by rw [rndS_FC, decide_eq_true (by omega), decide_eq_false (by omega)])
        exact SemC.of_evM hC Try.func7 body7 lies7 hr
    · refine .inr ⟨⟨dur, b, q, m⟩, ⟨i3, i4, by show m ≤ 60; omega⟩, ?_⟩
      have hr := Tr.run_path _ _ _ (rndS_E n i torn (strOfNums dur) dur b b q m l) (by rw [rndS_EC, decide_eq_false (by omega)])
      exact SemC.of_evM hC Try.func7 body7 lies7 hr)
end D
end Go.Proofs.Ytnjjkobijjdnbaa

/- Package disk: the entry of the loop of DiskSynced. -/
set_option linter.unusedVariables false
set_option linter.unusedSimpArgs false
set_option maxRecDepth 100000
set_option maxHeartbeats 4000000
namespace Go.Proofs.Ytnjjkobijjdnbaa
open Go
namespace D
def PostS (n torn : Int) (l : List (Ty.den wt)) (b dur : List Int) (z : ZS) : Prop :=
  (z.dur.length = n.toNat ∧ z.vis.length = n.toNat ∧ z.m ≤ 60) ∧ SemL Try.prog G0 (lp 7 0) (hdS n 0 torn (strOfNums dur) dur b b [] 0 l) (.exit 0) (outS n torn z)
open Classical in
/-- Where the loop ends. -/
noncomputable def zS (n torn : Int) (l : List (Ty.den wt)) (b dur : List Int) : ZS := if h : ∃ z, PostS n torn l b dur z then Classical.choose h else ⟨[], [], [], 0⟩
theorem zS_ok {n torn : Int} {l : List (Ty.den wt)} {b dur : List Int} (h1 : 1 ≤ n) (h2 : n ≤ 300) (hl : ∀ w ∈ l, inr (wO w) = true) (hd : dur.length = n.toNat) (hb : b.length = n.toNat) : PostS n torn l b dur (zS n torn l b dur) := by
  have h : ∃ z, PostS n torn l b dur z := by
    obtain ⟨z, h3, h4⟩ := s_loop n torn h1 h2 l hl ⟨0, dur, b, [], 0⟩ ⟨Nat.zero_le _, Nat.zero_le _, hd, hb, Nat.le_refl _⟩
    exact ⟨z, h3, h4⟩
  unfold zS
  rw [dif_pos h]
  exact Classical.choose_spec h
def eqB (x y : ByteArray) : Bool := decide (x.data = y.data)
theorem eqB_eq {x y : ByteArray} (h : eqB x y = true) : x = y := by
  have := of_decide_eq_true h
  cases x; cases y; simpa using this
/-- The entry of the law's loop. -/
noncomputable def sE : LEnt := ⟨102, [0, 1, 2, 7, 8, 10, 11, 12], fun kh kt vs ob nm =>
  match vs, ob, nm with
  | [.si .i64 n, .slst .ro (.agg [.int .i64, .str, .bool]) l, .si .i64 torn, .b true, .ptr 0 0, .bs true 0 0 n0, .ss sure, .i .i64 z], [some [.b false, .i .i64 y, .bs true 1 0 n1, .bs true 2 0 n2, .lst .full []]], [some (.live (.arr (.int .u8) b)), some (.live (.arr (.int .u8) dur)), some (.live (.arr (.int .u8) vis))] =>
    match Nat.beq kh 0, Nat.beq kt 0, decide (z = 0), decide (y = 0) with
    | true, true, true, true => some (.br (decide (n0 = n.toNat ∧ n1 = n.toNat ∧ n2 = n.toNat ∧ 1 ≤ n ∧ n ≤ 300 ∧ b.length = n.toNat ∧ dur.length = n.toNat) && (eqL vis b && (eqB sure (strOfNums dur) && (show List (Ty.den wt) from l).all fun w => inr (wO w)))) (.leaf (some (.exit 0, outS n torn (zS n torn l b dur)))) (.leaf none))
    | _, _, _, _ => none
  | _, _, _ => none⟩
theorem sE_ok {kh kt : Nat} {vs : List V} {ob : Ob} {nm : Nm} {t : Tr (Ex × St)} {ex : Ex} {x : St} (h : sE.go kh kt vs ob nm = some t) (ht : t.run = some (ex, x)) : SemL Try.prog G0 (lp 7 0) (St.of sE.n sE.lv vs ob nm kh kt) ex.to x := by
  simp only [sE] at h
  split at h
  · rename_i n l torn n0 sure z y n1 n2 b dur vis
    split at h
    · rename_i e1 e2 e3 e4
      obtain rfl := Nat.eq_of_beq_eq_true e1
      obtain rfl := Nat.eq_of_beq_eq_true e2
      obtain rfl := of_decide_eq_true e3
      obtain rfl := of_decide_eq_true e4
      cases h
      simp only [Tr.run] at ht
      split at ht
      · rename_i hc
        rw [Bool.and_eq_true, Bool.and_eq_true, Bool.and_eq_true, decide_eq_true_eq] at hc
        obtain ⟨⟨rfl, rfl, rfl, h1, h2, h3, h4⟩, h5, h7, h6⟩ := hc
        have h5 : vis = b := eqL_eq h5
        subst h5
        obtain rfl := eqB_eq h7
        cases ht
        have hl : ∀ w ∈ (show List (Ty.den wt) from l), inr (wO w) = true := fun w hw => List.all_eq_true.1 h6 w hw
        have key := (zS_ok (torn := torn) h1 h2 hl h4 h3).2
        have key2 : SemL Try.prog G0 (lp 7 0) (St.of 102 [0, 1, 2, 7, 8, 10, 11, 12] [.si .i64 n, .slst .ro wt l, .si .i64 torn, .b true, .ptr 0 0, .bs true 0 0 n.toNat, .ss (strOfNums dur), .i .i64 0] [some [.b false, .i .i64 0, .bs true 1 0 n.toNat, .bs true 2 0 n.toNat, .bs true 3 0 0]] [some (.live (.arr (.int .u8) vis)), some (.live (.arr (.int .u8) dur)), some (.live (.arr (.int .u8) vis)), some (.live (.arr wp []))] 0 0) (.exit 0) (outS n torn (zS n torn l vis dur)) := by
          refine key.pre (St.of_imp rfl ?_)
          intro G j v v' a b cv hv
          match j, a, b with
          | 0, a, b => simp at a b; subst a; subst b; exact hv
          | 1, a, b => simp at a b; subst a; subst b; exact hv
          | 2, a, b => simp at a b; subst a; subst b; exact hv
          | 3, a, b => simp at a b; subst a; subst b; exact hv
          | 4, a, b => simp at a b; subst a; subst b; exact hv
          | 5, a, b => simp at a b; subst a; subst b; exact hv
          | 6, a, b => simp at a b; subst a; subst b; exact hv
          | 7, a, b => simp at a b; subst a; subst b; cases hv; exact .si _ _
          | n + 8, a, b => simp at a
        exact key2.pre (St.birthO (Γ := G0) (kh := 0) (kt := 0) (n := 102) (lv := [0, 1, 2, 7, 8, 10, 11, 12]) (vs := [.si .i64 n, .slst .ro wt l, .si .i64 torn, .b true, .ptr 0 0, .bs true 0 0 n.toNat, .ss (strOfNums dur), .i .i64 0]) (ob := [some [.b false, .i .i64 0, .bs true 1 0 n.toNat, .bs true 2 0 n.toNat, .lst .full []]])
          (nm := [some (.live (.arr (.int .u8) vis)), some (.live (.arr (.int .u8) dur)), some (.live (.arr (.int .u8) vis))]) (c := .arr wp []) 0 4 rfl rfl rfl)
      · cases ht
    · cases h
  · cases h
noncomputable def lo3 : LOrc := fun f i => match Nat.beq f 7, i with | true, 0 => some sE | _, _ => lo1 f i
theorem lo3_ok : LOrcOk Try.prog G0 lo3 := fun f i e h => by
  simp only [lo3] at h
  split at h
  · rename_i hf
    obtain rfl := Nat.eq_of_beq_eq_true hf
    cases h
    exact ⟨Try.f7, root 7, lp 7 0, Try.func7, body7, lp7, fun kh kt vs ob nm t ex s h1 h2 => sE_ok h1 h2⟩
  · exact lo1_ok _ _ _ h
noncomputable def cfgT : Cfg := { cfgR wy7 with lo := lo3 }
theorem cfgT_ok : CfgOk Try.prog G0 cfgT := { cfgR_ok wy7 with lo := lo3_ok }
end D
end Go.Proofs.Ytnjjkobijjdnbaa

/- Package disk: DiskSynced answers true. -/
set_option linter.unusedVariables false
set_option linter.unusedSimpArgs false
set_option maxRecDepth 100000
set_option maxHeartbeats 4000000
namespace Go.Proofs.Ytnjjkobijjdnbaa
open Go
namespace D
/-- What New and make ask for. -/
def mkOk (N : Int) : Bool := decide (0 ≤ N ∧ N ≤ N ∧ 1 * N ≤ 281474976710656 ∧ N ≤ 9223372036854775807)
def newOk (N : Int) : Bool := !decide (N < 1) && (some (!decide (N > 4194304) && (some (mkOk N && (some (mkOk N && true)).getD true)).getD true)).getD true
theorem mkOk_true {N : Int} (h1 : 1 ≤ N) (h2 : N ≤ 1000) : mkOk N = true := decide_eq_true ⟨by omega, by omega, by omega, by omega⟩
theorem newOk_true {N : Int} (h1 : 1 ≤ N) (h2 : N ≤ 1000) : newOk N = true := by
  unfold newOk
  rw [mkOk_true h1 h2, decide_eq_false (show ¬ N < 1 by omega), decide_eq_false (show ¬ N > 4194304 by omega)]
  rfl
def rep (N : Int) : List Int := List.replicate N.toNat 0
theorem rep_len (N : Int) : (rep N).length = N.toNat := List.length_replicate
/-- What the loop's entry asks for. -/
def entOk (N : Int) (b dur : List Int) : Bool := decide (N.toNat = N.toNat ∧ N.toNat = N.toNat ∧ N.toNat = N.toNat ∧ 1 ≤ N ∧ N ≤ 300 ∧ b.length = N.toNat ∧ dur.length = N.toNat)
theorem entOk_true {N : Int} {b dur : List Int} (h1 : 1 ≤ N) (h2 : N ≤ 300) (h3 : b.length = N.toNat) (h4 : dur.length = N.toNat) : entOk N b dur = true := decide_eq_true ⟨rfl, rfl, rfl, h1, h2, h3, h4⟩
def cSl (m : Nat) : Bool := decide ((0 : Int) ≤ 0 ∧ 0 ≤ Bd.hi (some (IntKind.i64, 0, false)) m ∧ Bd.hi (some (IntKind.i64, 0, false)) m ≤ (m : Int)) && true && true
theorem cSl_true (m : Nat) : cSl m = true := by
  unfold cSl
  rw [decide_eq_true (by simp only [Bd.hi]; omega)]; rfl
def rdOk (dur vis : List Int) (n : Int) : Bool := decide (0 ≤ n ∧ n ≤ ((part dur n).length : Int) ∧ n ≤ ((part vis n).length : Int) ∧ (part dur n).length ≤ 4194304)
theorem rdOk_true {dur vis : List Int} {n : Int} (hn : 0 ≤ n) (hn2 : n ≤ 1000) (hd : dur.length = n.toNat) (hb : vis.length = n.toNat) : rdOk dur vis n = true := by
  unfold rdOk
  rw [part_all hd, part_all hb]
  exact decide_eq_true ⟨hn, by omega, by omega, by omega⟩
noncomputable def zz (n k : Int) (l : List (Ty.den wt)) : ZS := zS (sz n 300) k l (rep (sz n 300)) (rep (sz n 300))
theorem s_run (n k : Int) (l : List (Ty.den wt)) : run cfgT 7 [.si .i64 n, .slst .ro wt l, .si .i64 k] =
  .ok (some (inr n && decide ((300 : Int) ≠ 0) && (newOk (sz n 300) && (mkOk (sz n 300) && ((entOk (sz n 300) (rep (sz n 300)) (rep (sz n 300)) && (eqL (rep (sz n 300)) (rep (sz n 300)) && (eqB (strOfNums (part (rep (sz n 300)) (sz n 300))) (strOfNums (rep (sz n 300))) && (show List (Ty.den wt) from l).all fun w => inr (wO w)))) && (cSl (zz n k l).m && rdOk (zz n k l).dur (durS (zz n k l).vis (zz n k l).dur (sz n 300)) (sz n 300)))))))
    (.sb (bif true then bif (strOfNums (List.take (sz n 300).toNat (part (durS (zz n k l).vis (zz n k l).dur (sz n 300)) (sz n 300)))).toList == (strOfNums (zz n k l).dur).toList then ((0 : Nat) : Int) == (0 : Int) else false else false)) := by kernel_rfl
theorem law7 (n k : Int) (l : List (Ty.den wt)) (hn : inr n = true) (hl : ∀ w ∈ l, inr (wO w) = true) : SemF Try.prog G0 7 [.si .i64 n, .slst .ro wt l, .si .i64 k] [] [] (.sb true) [] [] := by
  obtain ⟨h1, h2⟩ := sz_in (n := n) (m := 300) (by decide) (by decide)
  have hz := (zS_ok (torn := k) (b := rep (sz n 300)) (dur := rep (sz n 300)) h1 h2 hl (rep_len _) (rep_len _)).1
  have hz : (zz n k l).dur.length = (sz n 300).toNat ∧ (zz n k l).vis.length = (sz n 300).toNat ∧ (zz n k l).m ≤ 60 := hz
  have hv : durS (zz n k l).vis (zz n k l).dur (sz n 300) = (zz n k l).dur := by
    unfold durS
    rw [part_all hz.1]
    exact cpy_all hz.2.1 hz.1
  have e4 : (show List (Ty.den wt) from l).all (fun w => inr (wO w)) = true := List.all_eq_true.2 hl
  refine of_run cfgT_ok (s_run n k l) ?_ ?_
  · rw [hv, hn, newOk_true h1 (by omega), mkOk_true h1 (by omega), entOk_true h1 h2 (rep_len _) (rep_len _), part_all (rep_len _), cSl_true, rdOk_true (by omega) (by omega) hz.1 hz.1, e4, show eqL (rep (sz n 300)) (rep (sz n 300)) = true from decide_eq_true rfl, show eqB (strOfNums (rep (sz n 300))) (strOfNums (rep (sz n 300))) = true from decide_eq_true rfl]
    rfl
  · rw [hv, part_all hz.1, ← hz.1, List.take_length]
    simp
end D
end Go.Proofs.Ytnjjkobijjdnbaa

/- Package disk: Write and Sync as contracts, while there is power and no cut. -/
set_option linter.unusedVariables false
set_option linter.unusedSimpArgs false
set_option maxRecDepth 100000
set_option maxHeartbeats 4000000
namespace Go.Proofs.Ytnjjkobijjdnbaa
open Go
namespace D
noncomputable def cfgP : Cfg := cfg orc2 (fun _ _ => none)
theorem cfgP_ok : CfgOk Try.prog Γ cfgP := cfg_ok orc2_ok
-- 
-- 
-- 
abbrev preW (off : Int) (s : ByteArray) (n1 m : Nat) : Prop := m ≤ 1000 ∧ n1 ≤ 4194304 ∧ 0 ≤ off ∧ off + (s.size : Int) ≤ (n1 : Int)
def fp_g21 : FP := ⟨[.ptr 0 0, .ty ity, .ty .str], [.cells [.cb false, .ci 0, .bz 0, .bz 1, .bz 2]], [.arr bty, .arr bty, .arr wp]⟩
abbrev cn_g21 (off : Int) (s : ByteArray) (n1 n2 m : Nat) (d v : List Int) (q : List (Ty.den wp)) : Prop := preD n1 n2 m d v q ∧ preW off s n1 m
noncomputable def cr_g21 (off : Int) (s : ByteArray) (n1 n2 m : Nat) (d v : List Int) (q : List (Ty.den wp)) : Option Bool × V × Ob × Nm := (some (decide (cn_g21 off s n1 n2 m d v q)), .i .i64 0, [some [.b false, .i .i64 0, .bs true 0 0 n1, .bs true 1 0 n2, .bs true 3 0 (m + 1)]], [some (.live (.arr bty d)), some (.live (.arr bty (cpy v off.toNat n2 (bytesOf s)))), some .dead, some (.live (.arr wp (List.take m q ++ [mkP off s])))])
noncomputable def ct_g21 := Ct.by fp_g21 fun ⟨(_, off, s, _), ((_, _, n1, n2, m, _), _), (d, v, q, _)⟩ => cr_g21 off s n1 n2 m d v q
abbrev sf_g21 (off : Int) (s : ByteArray) (n1 n2 m : Nat) (d v : List Int) (q : List (Ty.den wp)) : Prop := SemF Try.prog Γ 21 (SP.vals fp_g21.sp ((), off, s, ())) (OP.vals fp_g21.op (((), (), n1, n2, m, ()), ())) (BP.vals fp_g21.bp (d, v, q, ())) (.i .i64 0) ([some [.b false, .i .i64 0, .bs true 0 0 n1, .bs true 1 0 n2, .bs true 3 0 (m + 1)]]) ([some (.live (.arr bty d)), some (.live (.arr bty (cpy v off.toNat n2 (bytesOf s)))), some .dead, some (.live (.arr wp (List.take m q ++ [mkP off s])))])
noncomputable def ev_g21 (C : Cfg) (lv : List Nat) (off : Int) (s : ByteArray) (n1 n2 m : Nat) (d v : List Int) (q : List (Ty.den wp)) := evV Try.prog Γ C lv 21 (SP.vals fp_g21.sp ((), off, s, ())) (OP.vals fp_g21.op (((), (), n1, n2, m, ()), ())) (BP.vals fp_g21.bp (d, v, q, ()))
theorem cr_g21_ok (off : Int) (s : ByteArray) (n1 n2 m : Nat) (d v : List Int) (q : List (Ty.den wp)) (h : (cr_g21 off s n1 n2 m d v q).1.getD true = true) : cn_g21 off s n1 n2 m d v q := of_decide_eq_true h
theorem ct_g21_ok (H : ∀ (off : Int) (s : ByteArray) (n1 n2 m : Nat) (d v : List Int) (q : List (Ty.den wp)), cn_g21 off s n1 n2 m d v q → sf_g21 off s n1 n2 m d v q) : ∀ args ob nm c v ob1 nm1, ct_g21 args ob nm = some (c, v, ob1, nm1) → c.getD true = true → SemF Try.prog Γ 21 args ob nm v ob1 nm1 := Ct.by_ok fun ⟨(_, off, s, _), ((_, _, n1, n2, m, _), _), (d, v, q, _)⟩ h => H off s n1 n2 m d v q (cr_g21_ok off s n1 n2 m d v q h)
theorem t21_eq (off : Int) (s : ByteArray) (n1 n2 m : Nat) (d v : List Int) (q : List (Ty.den wp)) : (ev_g21 cfgP [] off s n1 n2 m d v q).run = (bif !bif decide (off ≥ (0 : Int)) then bif decide ((Nat.cast (s.size) : Int) ≥ (0 : Int)) then bif decide (off ≤ (Nat.cast ((List.take n1 (List.drop (0) d)).length) : Int)) then decide ((Nat.cast (s.size) : Int) ≤ IntKind.i64.wrap ((Nat.cast ((List.take n1 (List.drop (0) d)).length) : Int) - off)) else false else false else false then (some (V.i IntKind.i64 (330 : Int), [some [V.b false, V.i IntKind.i64 (0 : Int), V.bs true (0 : Nat) (0 : Nat) n1, V.bs true (1 : Nat) (0 : Nat) n2, V.bs true (2 : Nat) (0 : Nat) m]], [some (Bf.live (BC.arr bty d)), some (Bf.live (BC.arr bty v)), some (Bf.live (BC.arr wp q))])) else (bif decide ((m + 1) * 2 * 24 ≤ 281474976710656) then (bif decide ((0 : Int) ≤ off ∧ off ≤ (Nat.cast (n2) : Int) ∧ (Nat.cast (n2) : Int) ≤ (Nat.cast (n2) : Int)) && true then (some (V.i IntKind.i64 (0 : Int), [some [V.b false, V.i IntKind.i64 (0 : Int), V.bs true (0 : Nat) (0 : Nat) n1, V.bs true (1 : Nat) (0 : Nat) n2, V.bs true (3 : Nat) (0 : Nat) (m + (1 : Nat))]], [some (Bf.live (BC.arr bty d)), some (Bf.live (BC.arr bty (cpy v off.toNat n2 (bytesOf s)))), some Bf.dead, some (Bf.live (BC.arr wp (List.take m (List.drop (0) q) ++ [mkP off s])))])) else none) else none)) := by kernel_rfl
theorem g21_go (off : Int) (s : ByteArray) (n1 n2 m : Nat) (d v : List Int) (q : List (Ty.den wp)) (h : cn_g21 off s n1 n2 m d v q) : sf_g21 off s n1 n2 m d v q := by
  obtain ⟨⟨hm, hd, hv, rfl, hq⟩, hm2, hn, h0, h1⟩ := h
  refine SemF.of_tree cfgP_ok (lv := []) (Eq.trans (t21_eq off s n1 n1 m d v q) ?_)
  have ht : (List.take n1 (List.drop 0 d)).length = n1 := by rw [List.drop_zero, List.length_take]; omega
  have hw : IntKind.i64.wrap ((n1 : Int) - off) = n1 - off := wrap_in (by omega) (by omega)
  rw [ht, hw, decide_eq_true h0, decide_eq_true (by omega : (s.size : Int) ≥ 0), decide_eq_true (by omega : off ≤ (n1 : Int)), decide_eq_true (by omega : (s.size : Int) ≤ n1 - off), decide_eq_true (by omega), decide_eq_true (by omega), List.drop_zero]
  rfl
def fp_g23 : FP := ⟨[.ptr 0 0], [.cells [.cb false, .ci 0, .bz 0, .bz 1, .bz 2]], [.arr bty, .arr bty, .arr wp]⟩
abbrev cn_g23 (n1 n2 m : Nat) (d v : List Int) (q : List (Ty.den wp)) : Prop := preD n1 n2 m d v q
noncomputable def cr_g23 (n1 n2 m : Nat) (d v : List Int) (q : List (Ty.den wp)) : Option Bool × V × Ob × Nm := (some (decide (cn_g23 n1 n2 m d v q)), .i .i64 0, [some [.b false, .i .i64 0, .bs true 0 0 n1, .bs true 1 0 n2, .bs true 2 0 0]], [some (.live (.arr bty v)), some (.live (.arr bty v)), some (.live (.arr wp (qS q m)))])
noncomputable def ct_g23 := Ct.by fp_g23 fun ⟨(_, _), ((_, _, n1, n2, m, _), _), (d, v, q, _)⟩ => cr_g23 n1 n2 m d v q
abbrev sf_g23 (n1 n2 m : Nat) (d v : List Int) (q : List (Ty.den wp)) : Prop := SemF Try.prog Γ 23 (SP.vals fp_g23.sp ((), ())) (OP.vals fp_g23.op (((), (), n1, n2, m, ()), ())) (BP.vals fp_g23.bp (d, v, q, ())) (.i .i64 0) ([some [.b false, .i .i64 0, .bs true 0 0 n1, .bs true 1 0 n2, .bs true 2 0 0]]) ([some (.live (.arr bty v)), some (.live (.arr bty v)), some (.live (.arr wp (qS q m)))])
noncomputable def ev_g23 (C : Cfg) (lv : List Nat) (n1 n2 m : Nat) (d v : List Int) (q : List (Ty.den wp)) := evV Try.prog Γ C lv 23 (SP.vals fp_g23.sp ((), ())) (OP.vals fp_g23.op (((), (), n1, n2, m, ()), ())) (BP.vals fp_g23.bp (d, v, q, ()))
theorem cr_g23_ok (n1 n2 m : Nat) (d v : List Int) (q : List (Ty.den wp)) (h : (cr_g23 n1 n2 m d v q).1.getD true = true) : cn_g23 n1 n2 m d v q := of_decide_eq_true h
theorem ct_g23_ok (H : ∀ (n1 n2 m : Nat) (d v : List Int) (q : List (Ty.den wp)), cn_g23 n1 n2 m d v q → sf_g23 n1 n2 m d v q) : ∀ args ob nm c v ob1 nm1, ct_g23 args ob nm = some (c, v, ob1, nm1) → c.getD true = true → SemF Try.prog Γ 23 args ob nm v ob1 nm1 := Ct.by_ok fun ⟨(_, _), ((_, _, n1, n2, m, _), _), (d, v, q, _)⟩ h => H n1 n2 m d v q (cr_g23_ok n1 n2 m d v q h)
theorem t23_eq (n1 n2 m : Nat) (d v : List Int) (q : List (Ty.den wp)) : (ev_g23 cfgP [] n1 n2 m d v q).run = (bif decide ((0 : Int) ≤ (0 : Int) ∧ (0 : Int) ≤ (0 : Int) ∧ (0 : Int) ≤ (Nat.cast (m) : Int)) && true then (some (V.i IntKind.i64 (0 : Int), [some [V.b false, V.i IntKind.i64 (0 : Int), V.bs true (0 : Nat) (0 : Nat) n1, V.bs true (1 : Nat) (0 : Nat) n2, V.bs true (2 : Nat) (0 : Nat) (0 : Nat)]], [some (Bf.live (BC.arr bty (List.take (0) (List.drop (0) d) ++ List.take ((List.take n2 (List.drop (0) v)).length.min n1) (List.drop (0) (List.take n2 (List.drop (0) v))) ++ List.take (d.length - (0 + (List.take n2 (List.drop (0) v)).length.min n1)) (List.drop (0 + (List.take n2 (List.drop (0) v)).length.min n1) d)))), some (Bf.live (BC.arr bty v)), some (Bf.live (BC.arr wp (List.take (0) (List.drop (0) q) ++ List.take m (List.drop (0) (List.replicate m wp.dflt)) ++ List.take (q.length - (0 + m)) (List.drop (0 + m) q))))])) else none) := by kernel_rfl
theorem g23_go (n1 n2 m : Nat) (d v : List Int) (q : List (Ty.den wp)) (h : cn_g23 n1 n2 m d v q) : sf_g23 n1 n2 m d v q := by
  obtain ⟨hm, hd, hv, rfl, hq⟩ := h
  refine SemF.of_tree cfgP_ok (lv := []) (Eq.trans (t23_eq n1 n1 m d v q) ?_)
  rw [durS_all hd hv, decide_eq_true (by omega)]
  rfl
noncomputable def T5_0 : CallT := fun f args ob nm => match Nat.beq f 21 with | true => ct_g21 args ob nm | false => T4 f args ob nm
theorem T5_0_ok : CtOk Try.prog Γ T5_0 := CtOk.cons T4_ok 21 ct_g21 (by decide) Try.f21 Try.func21 (by kernel_rfl) (by kernel_rfl) (ct_g21_ok g21_go)
noncomputable def T5 : CallT := fun f args ob nm => match Nat.beq f 23 with | true => ct_g23 args ob nm | false => T5_0 f args ob nm
theorem T5_ok : CtOk Try.prog Γ T5 := CtOk.cons T5_0_ok 23 ct_g23 (by decide) Try.f23 Try.func23 (by kernel_rfl) (by kernel_rfl) (ct_g23_ok g23_go)
def pS' (w : Ty.den wp) : ByteArray := (show Int × ByteArray × Unit from w).2.1
/-- What the writes of a list make of a content. -/
def app (q : List (Ty.den wp)) (n1 : Nat) : Nat → List Int → List Int
  | 0, d => d
  | i + 1, d => cpy (app q n1 i d) (offs (q.getD i wp.dflt)).toNat n1 (bytesOf (pS' (q.getD i wp.dflt)))
end D
end Go.Proofs.Ytnjjkobijjdnbaa

/- Package disk: DiskAllSurvive: its loops. -/
set_option linter.unusedVariables false
set_option linter.unusedSimpArgs false
set_option maxRecDepth 100000
set_option maxHeartbeats 4000000
namespace Go.Proofs.Ytnjjkobijjdnbaa
open Go
namespace D
noncomputable def cfgL : Cfg := { cfg orc2 (fun _ _ => none) with om := callC T5, omd := fun f => [46, 21, 23, 25].any (Nat.beq f), mem := fun f => (27 :: mems).any (Nat.beq f) }
theorem cfgL_ok : CfgOk Try.prog Γ cfgL := { cfg_ok (wy := fun _ _ => none) orc2_ok with om := callC_calls T5_ok, fit := callC_fit T5_ok }
/-- The disk behind some writes: durable and visible content, the pending writes. -/
structure DZ where
  d : List Int
  v : List Int
  q : List (Ty.den wp)
  m : Nat
def DZ.nx (n : Int) (s : DZ) (w : Ty.den wt) : DZ :=
  if wY w then ⟨visW s.v n w, visW s.v n w, qS (List.take s.m s.q ++ [mkP (fo (wO w) n) (fs (wS w) (wO w) n)]) (s.m + 1), 0⟩
  else ⟨s.d, visW s.v n w, List.take s.m s.q ++ [mkP (fo (wO w) n) (fs (wS w) (wO w) n)], s.m + 1⟩
def DZ.at (n : Int) (l : List (Ty.den wt)) (s : DZ) : Nat → DZ
  | 0 => s
  | i + 1 => (DZ.at n l s i).nx n (l.getD i wt.dflt)
structure DZ.ok (n : Int) (i : Nat) (s : DZ) : Prop where
  mi : s.m ≤ i
  mq : s.m ≤ s.q.length
  dl : s.d.length = n.toNat
  vl : s.v.length = n.toNat
  qo : ∀ w ∈ s.q, 0 ≤ offs w ∧ offs w ≤ n
  ap : s.v = app s.q n.toNat s.m s.d
theorem app_congr {q q' : List (Ty.den wp)} {n : Nat} {d : List Int} : ∀ {i : Nat}, (∀ r, r < i → q.getD r wp.dflt = q'.getD r wp.dflt) → app q n i d = app q' n i d
  | 0, _ => rfl
  | i + 1, h => by
    simp only [app]
    rw [app_congr (fun r hr => h r (by omega)), h i (by omega)]
theorem qS_mem {q : List (Ty.den wp)} {m : Nat} {w : Ty.den wp} (h : w ∈ qS q m) : w ∈ q ∨ w = wp.dflt := by
  unfold qS at h
  rw [List.mem_append, List.mem_append] at h
  rcases h with (h | h) | h
  · exact absurd (List.mem_of_mem_take h) (by simp at h)
  · have := List.mem_of_mem_take h
    rw [List.drop_zero, List.mem_replicate] at this
    exact .inr this.2
  · exact .inl (List.mem_of_mem_drop (List.mem_of_mem_take h))
theorem qS_len {q : List (Ty.den wp)} {m : Nat} (h : m ≤ q.length) : (qS q m).length = q.length := by
  unfold qS
  simp only [List.length_append, List.length_take, List.length_drop, List.length_replicate]
  omega
theorem take_app_get {q : List (Ty.den wp)} {m : Nat} (hm : m ≤ q.length) (p : Ty.den wp) : (∀ r, r < m → (List.take m q ++ [p]).getD r wp.dflt = q.getD r wp.dflt) ∧ (List.take m q ++ [p]).getD m wp.dflt = p := by
  refine ⟨fun r hr => ?_, ?_⟩
  · rw [List.getD_eq_getElem?_getD, List.getD_eq_getElem?_getD, List.getElem?_append_left (by rw [List.length_take]; omega), List.getElem?_take_of_lt hr]
  · rw [List.getD_eq_getElem?_getD, List.getElem?_append_right (by rw [List.length_take]; omega), List.length_take, Nat.min_eq_left hm, Nat.sub_self]
    rfl
theorem visW_len {v : List Int} {n : Int} {w : Ty.den wt} (hn : 0 ≤ n) (h : v.length = n.toNat) : (visW v n w).length = n.toNat := by
  have := fs_fit (w := w) hn
  unfold visW
  rw [cpy_len (by omega) (by omega), h]
theorem DZ.ok.nx {n : Int} {i : Nat} {s : DZ} (h : s.ok n i) (hn : 1 ≤ n) (w : Ty.den wt) : (s.nx n w).ok n (i + 1) := by
  obtain ⟨mi, mq, dl, vl, qo, ap⟩ := h
  have hf := fs_fit (w := w) (n := n) (by omega)
  obtain ⟨g1, g2⟩ := take_app_get mq (mkP (fo (wO w) n) (fs (wS w) (wO w) n))
  have hap : visW s.v n w = app (List.take s.m s.q ++ [mkP (fo (wO w) n) (fs (wS w) (wO w) n)]) n.toNat (s.m + 1) s.d := by
    show visW s.v n w = cpy _ _ _ _
    rw [app_congr (q' := s.q) g1, g2, ← ap]
    rfl
  have hqo : ∀ x ∈ List.take s.m s.q ++ [mkP (fo (wO w) n) (fs (wS w) (wO w) n)], 0 ≤ offs x ∧ offs x ≤ n := by
    intro x hx
    rw [List.mem_append, List.mem_singleton] at hx
    rcases hx with hx | rfl
    · exact qo x (List.mem_of_mem_take hx)
    · exact ⟨hf.1, by show fo (wO w) n ≤ n; omega⟩
  have hlen : s.m + 1 ≤ (List.take s.m s.q ++ [mkP (fo (wO w) n) (fs (wS w) (wO w) n)]).length := by simp; omega
  have hvl := visW_len (w := w) (by omega) vl
  unfold DZ.nx
  split
  · exact ⟨Nat.zero_le _, Nat.zero_le _, hvl, hvl, fun x hx => (qS_mem hx).elim (hqo x) (fun e => by subst e; exact ⟨Int.le_refl 0, by show (0 : Int) ≤ n; omega⟩), rfl⟩
  · exact ⟨by show s.m + 1 ≤ i + 1; omega, hlen, dl, hvl, hqo, hap⟩
theorem DZ.at_ok {n : Int} {l : List (Ty.den wt)} {s : DZ} (hn : 1 ≤ n) (h : s.ok n 0) : ∀ i, (DZ.at n l s i).ok n i
  | 0 => h
  | i + 1 => (DZ.at_ok hn h i).nx hn _
-- 
-- 
-- 
-- 
-- 
-- 
def hp_as : HP := { n := 127, lv := [0, 1, 5, 6, 8], sp := [.ty ity, .ty (.slice wt), .cb true, .ptr 0 0, .ty ity], op := [.cells [.cb false, .ci 0, .bz 0, .bz 1, .bz 2]], bp := [.arr bty, .arr bty, .arr wp], bo := [(0, 4, wp)] }
def lve_as : Ex → List Nat
  | .normal => [0, 1, 5, 6, 8]
  | .ret => [4]
  | .exit 0 => [0, 5, 6]
  | _ => []
theorem bd_as : Try.f9.body = some (root 9) := by kernel_rfl
theorem le_as : (loops (root 9))[0]? = some (lp 9 0) := by kernel_rfl
theorem li_as : Lies (root 9) 1 (lp 9 0) := Lies.of_take (n := 0) (by kernel_rfl)
def st_as (n : Int) (l : List (Ty.den wt)) (i : Int) (n1 n2 m : Nat) (d v : List Int) (q : List (Ty.den wp)) : St := hp_as.st ⟨(n, l, (), (), i, ()), (((), (), n1, n2, m, ()), ()), (d, v, q, ())⟩
noncomputable def rn_as (n : Int) (l : List (Ty.den wt)) (i : Int) (n1 n2 m : Nat) (d v : List Int) (q : List (Ty.den wp)) := outa lve_as (evCK Try.prog Γ (cfM Try.prog Γ cfgL 30) (cfgL.lo 9) [] 60 1 (lp 9 0) (st_as n l i n1 n2 m d v q))
theorem rn_as_eq (n : Int) (l : List (Ty.den wt)) (i : Int) (n1 n2 m : Nat) (d v : List Int) (q : List (Ty.den wp)) : (rn_as n l i n1 n2 m d v q).run = (bif decide (i < (Nat.cast (l.length) : Int)) then (bif decide (i < (60 : Int)) then (bif decide ((0 : Int) ≤ i ∧ i < (Nat.cast (l.length) : Int)) then (bif inr (wO (l.getD i.toNat wt.dflt)) && decide ((0 : Int) ≤ n ∧ n ≤ (4194304 : Int)) then (bif decide (cn_g21 (fo (wO (l.getD i.toNat wt.dflt)) n) (fs (wS (l.getD i.toNat wt.dflt)) (wO (l.getD i.toNat wt.dflt)) n) n1 n2 m d v q) then (bif wY (l.getD i.toNat wt.dflt) then (bif decide (cn_g23 n1 n2 (m + 1) d (cpy v (fo (wO (l.getD i.toNat wt.dflt)) n).toNat n2 (bytesOf (fs (wS (l.getD i.toNat wt.dflt)) (wO (l.getD i.toNat wt.dflt)) n))) (List.take m q ++ [mkP (fo (wO (l.getD i.toNat wt.dflt)) n) (fs (wS (l.getD i.toNat wt.dflt)) (wO (l.getD i.toNat wt.dflt)) n)])) then (some (Ex.normal, [V.si IntKind.i64 n, V.slst Tag.ro wt l, V.b true, V.ptr (0 : Nat) (0 : Nat), V.si IntKind.i64 (IntKind.i64.wrap (i + (1 : Int)))], [some [V.b false, V.i IntKind.i64 (0 : Int), V.bs true (0 : Nat) (0 : Nat) n1, V.bs true (1 : Nat) (0 : Nat) n2, V.bs true (2 : Nat) (0 : Nat) (0 : Nat)]], [some (Bf.live (BC.arr bty (cpy v (fo (wO (l.getD i.toNat wt.dflt)) n).toNat n2 (bytesOf (fs (wS (l.getD i.toNat wt.dflt)) (wO (l.getD i.toNat wt.dflt)) n))))), some (Bf.live (BC.arr bty (cpy v (fo (wO (l.getD i.toNat wt.dflt)) n).toNat n2 (bytesOf (fs (wS (l.getD i.toNat wt.dflt)) (wO (l.getD i.toNat wt.dflt)) n))))), some (Bf.live (BC.arr wp (qS (List.take m q ++ [mkP (fo (wO (l.getD i.toNat wt.dflt)) n) (fs (wS (l.getD i.toNat wt.dflt)) (wO (l.getD i.toNat wt.dflt)) n)]) (m + 1))))], (127 : Nat), (0 : Nat), (0 : Nat))) else none) else (some (Ex.normal, [V.si IntKind.i64 n, V.slst Tag.ro wt l, V.b true, V.ptr (0 : Nat) (0 : Nat), V.si IntKind.i64 (IntKind.i64.wrap (i + (1 : Int)))], [some [V.b false, V.i IntKind.i64 (0 : Int), V.bs true (0 : Nat) (0 : Nat) n1, V.bs true (1 : Nat) (0 : Nat) n2, V.bs true (2 : Nat) (0 : Nat) (m + 1)]], [some (Bf.live (BC.arr bty d)), some (Bf.live (BC.arr bty (cpy v (fo (wO (l.getD i.toNat wt.dflt)) n).toNat n2 (bytesOf (fs (wS (l.getD i.toNat wt.dflt)) (wO (l.getD i.toNat wt.dflt)) n))))), some (Bf.live (BC.arr wp (List.take m q ++ [mkP (fo (wO (l.getD i.toNat wt.dflt)) n) (fs (wS (l.getD i.toNat wt.dflt)) (wO (l.getD i.toNat wt.dflt)) n)])))], (127 : Nat), (0 : Nat), (0 : Nat)))) else none) else none) else none) else (some (Ex.exit (0 : Nat), [V.si IntKind.i64 n, V.b true, V.ptr (0 : Nat) (0 : Nat)], [some [V.b false, V.i IntKind.i64 (0 : Int), V.bs true (0 : Nat) (0 : Nat) n1, V.bs true (1 : Nat) (0 : Nat) n2, V.bs true (2 : Nat) (0 : Nat) m]], [some (Bf.live (BC.arr bty d)), some (Bf.live (BC.arr bty v)), some (Bf.live (BC.arr wp q))], (127 : Nat), (0 : Nat), (0 : Nat)))) else (some (Ex.exit (0 : Nat), [V.si IntKind.i64 n, V.b true, V.ptr (0 : Nat) (0 : Nat)], [some [V.b false, V.i IntKind.i64 (0 : Int), V.bs true (0 : Nat) (0 : Nat) n1, V.bs true (1 : Nat) (0 : Nat) n2, V.bs true (2 : Nat) (0 : Nat) m]], [some (Bf.live (BC.arr bty d)), some (Bf.live (BC.arr bty v)), some (Bf.live (BC.arr wp q))], (127 : Nat), (0 : Nat), (0 : Nat)))) := by kernel_rfl
theorem rn_as_c (n : Int) (l : List (Ty.den wt)) (i : Int) (n1 n2 m : Nat) (d v : List Int) (q : List (Ty.den wp)) {e : Ex} {vs : List V} {ob : Ob} {nm : Nm} {n' kh kt : Nat} (h : (rn_as n l i n1 n2 m d v q).run = some (e, vs, ob, nm, n', kh, kt)) : SemC Try.prog Γ (lp 9 0) (st_as n l i n1 n2 m d v q) e.to (St.of n' (lve_as e) vs ob nm kh kt) := SemC.of_evM cfgL_ok Try.func9 bd_as li_as h
abbrev zA (n : Int) (l : List (Ty.den wt)) (m : Nat) (d v : List Int) (q : List (Ty.den wp)) : DZ := DZ.at n l ⟨d, v, q, m⟩ (min 60 l.length)
abbrev pre_as (n : Int) (l : List (Ty.den wt)) (i : Int) (n1 n2 m : Nat) (d v : List Int) (q : List (Ty.den wp)) : Prop := i = 0 ∧ n1 = n.toNat ∧ n2 = n.toNat ∧ m = 0 ∧ 1 ≤ n ∧ n ≤ 300 ∧ d.length = n.toNat ∧ v = d ∧ q.length = 0 ∧ ∀ w ∈ l, inr (wO w) = true
def rs_as (n : Int) (l : List (Ty.den wt)) (i : Int) (n1 n2 m : Nat) (d v : List Int) (q : List (Ty.den wp)) : Ex × St := (.exit 0, St.of 127 (lve_as (.exit 0)) [.si .i64 n, .b true, .ptr 0 0] [some [.b false, .i .i64 0, .bs true 0 0 n1, .bs true 1 0 n2, .bs true 2 0 (zA n l m d v q).m]] [some (.live (.arr bty (zA n l m d v q).d)), some (.live (.arr bty (zA n l m d v q).v)), some (.live (.arr wp (zA n l m d v q).q))] hp_as.kh hp_as.kt)
def res_as (n : Int) (l : List (Ty.den wt)) (i : Int) (n1 n2 m : Nat) (d v : List Int) (q : List (Ty.den wp)) : Tr (Ex × St) := .br (decide (pre_as n l i n1 n2 m d v q)) (.leaf (some (.exit 0, St.of 127 (lve_as (.exit 0)) [.si .i64 n, .b true, .ptr 0 0] [some [.b false, .i .i64 0, .bs true 0 0 n1, .bs true 1 0 n2, .bs true 2 0 (zA n l m d v q).m]] [some (.live (.arr bty (zA n l m d v q).d)), some (.live (.arr bty (zA n l m d v q).v)), some (.live (.arr wp (zA n l m d v q).q))] hp_as.kh hp_as.kt))) (.leaf none)
theorem res_as_run (n : Int) (l : List (Ty.den wt)) (i : Int) (n1 n2 m : Nat) (d v : List Int) (q : List (Ty.den wp)) (h : pre_as n l i n1 n2 m d v q) : (res_as n l i n1 n2 m d v q).run = some (rs_as n l i n1 n2 m d v q) := by
  unfold res_as rs_as
  rw [decide_eq_true h]
  exact rfl
theorem res_as_no (n : Int) (l : List (Ty.den wt)) (i : Int) (n1 n2 m : Nat) (d v : List Int) (q : List (Ty.den wp)) (h : ¬ pre_as n l i n1 n2 m d v q) : (res_as n l i n1 n2 m d v q).run = none := Tr.run_no h
def ent_as : LEnt := LEnt.by hp_as fun ⟨(n, l, _, _, i, _), ((_, _, n1, n2, m, _), _), (d, v, q, _)⟩ => res_as n l i n1 n2 m d v q
theorem ent_as_ok (hgo : ∀ (n : Int) (l : List (Ty.den wt)) (i : Int) (n1 n2 m : Nat) (d v : List Int) (q : List (Ty.den wp)), pre_as n l i n1 n2 m d v q → SemL Try.prog Γ (lp 9 0) (st_as n l i n1 n2 m d v q) (rs_as n l i n1 n2 m d v q).1.to (rs_as n l i n1 n2 m d v q).2) : EntOk Try.prog Γ (lp 9 0) ent_as := LEnt.by_ok fun ⟨(n, l, _, _, i, _), ((_, _, n1, n2, m, _), _), (d, v, q, _)⟩ ex_ s_ h_ => by
  have h_ : (res_as n l i n1 n2 m d v q).run = some (ex_, s_) := h_
  by_cases hp_ : pre_as n l i n1 n2 m d v q
  · rw [res_as_run n l i n1 n2 m d v q hp_] at h_
    obtain ⟨rfl, rfl⟩ := Prod.mk.inj (Option.some.inj h_)
    exact hgo n l i n1 n2 m d v q hp_
  · rw [res_as_no n l i n1 n2 m d v q hp_] at h_
    cases h_
theorem as_ok0 {n : Int} {d : List Int} (hd : d.length = n.toNat) : (⟨d, d, [], 0⟩ : DZ).ok n 0 := ⟨Nat.zero_le _, Nat.zero_le _, hd, hd, fun w h => (nomatch h), rfl⟩
theorem as_go0 (n : Int) (l : List (Ty.den wt)) (d : List Int) (h1 : 1 ≤ n) (h2 : n ≤ 300) (hd : d.length = n.toNat) (hl : ∀ w ∈ l, inr (wO w) = true) :
    SemL Try.prog Γ (lp 9 0) (st_as n l (0 : Nat) n.toNat n.toNat 0 d d []) (rs_as n l 0 n.toNat n.toNat 0 d d []).1.to (rs_as n l 0 n.toNat n.toNat 0 d d []).2 := by
  have hok := fun i => DZ.at_ok (l := l) h1 (as_ok0 hd) i
  refine SemL.scan (min 60 l.length) 0 (Nat.zero_le _) (fun i => st_as n l (i : Nat) n.toNat n.toNat (DZ.at n l ⟨d, d, [], 0⟩ i).m (DZ.at n l ⟨d, d, [], 0⟩ i).d (DZ.at n l ⟨d, d, [], 0⟩ i).v (DZ.at n l ⟨d, d, [], 0⟩ i).q) (fun _ => true) _ ?_ ?_ ?_
  · intro i _ hi _ _
    have ho := hok i
    have ho2 := hok (i + 1)
    generalize hs : DZ.at n l ⟨d, d, [], 0⟩ i = s at ho
    have hs2 : DZ.at n l ⟨d, d, [], 0⟩ (i + 1) = s.nx n (l.getD i wt.dflt) := by show DZ.nx n (DZ.at n l ⟨d, d, [], 0⟩ i) _ = _; rw [hs]
    rw [hs2] at ho2
    rw [hs2]
    refine rn_as_c n l i n.toNat n.toNat s.m s.d s.v s.q (e := .normal) ?_
    have hw : IntKind.i64.wrap ((i : Int) + 1) = ((i + 1 : Nat) : Int) := by rw [wrap_in (by omega) (by omega)]; rfl
    have hin : inr (wO (l.getD i wt.dflt)) = true := by
      have : l.getD i wt.dflt = l[i]'(by omega) := by rw [List.getD_eq_getElem?_getD, List.getElem?_eq_getElem (by omega), Option.getD_some]
      rw [this]; exact hl _ (List.getElem_mem _)
    have hf := fs_fit (w := l.getD i wt.dflt) (n := n) (by omega)
    have hnn : ((n.toNat : Nat) : Int) = n := by omega
    have c1 : cn_g21 (fo (wO (l.getD i wt.dflt)) n) (fs (wS (l.getD i wt.dflt)) (wO (l.getD i wt.dflt)) n) n.toNat n.toNat s.m s.d s.v s.q :=
      ⟨⟨ho.mq, ho.dl, ho.vl, rfl, by rw [hnn]; exact ho.qo⟩, by have := ho.mi; omega, by omega, hf.1, by omega⟩
    rw [rn_as_eq, hw, Int.toNat_natCast, decide_eq_true (by omega : (i : Int) < l.length), decide_eq_true (by omega : (i : Int) < 60), decide_eq_true (by omega : (0 : Int) ≤ i ∧ (i : Int) < l.length), hin, decide_eq_true (by omega : 0 ≤ n ∧ n ≤ 4194304), decide_eq_true c1]
    cases hy : wY (l.getD i wt.dflt) with
    | true =>
      have e : s.nx n (l.getD i wt.dflt) = ⟨visW s.v n (l.getD i wt.dflt), visW s.v n (l.getD i wt.dflt), qS (List.take s.m s.q ++ [mkP (fo (wO (l.getD i wt.dflt)) n) (fs (wS (l.getD i wt.dflt)) (wO (l.getD i wt.dflt)) n)]) (s.m + 1), 0⟩ := if_pos hy
      have c2 : cn_g23 n.toNat n.toNat (s.m + 1) s.d (cpy s.v (fo (wO (l.getD i wt.dflt)) n).toNat n.toNat (bytesOf (fs (wS (l.getD i wt.dflt)) (wO (l.getD i wt.dflt)) n))) (List.take s.m s.q ++ [mkP (fo (wO (l.getD i wt.dflt)) n) (fs (wS (l.getD i wt.dflt)) (wO (l.getD i wt.dflt)) n)]) := by
        refine ⟨by have := ho.mq; simp; omega, ho.dl, visW_len (w := l.getD i wt.dflt) (by omega) ho.vl, rfl, fun x hx => ?_⟩
        rw [hnn]
        rw [List.mem_append, List.mem_singleton] at hx
        rcases hx with hx | rfl
        · exact ho.qo x (List.mem_of_mem_take hx)
        · exact ⟨hf.1, by show fo _ n ≤ n; omega⟩
      rw [decide_eq_true c2, e]
      rfl
    | false =>
      have e : s.nx n (l.getD i wt.dflt) = ⟨s.d, visW s.v n (l.getD i wt.dflt), List.take s.m s.q ++ [mkP (fo (wO (l.getD i wt.dflt)) n) (fs (wS (l.getD i wt.dflt)) (wO (l.getD i wt.dflt)) n)], s.m + 1⟩ := if_neg (by rw [hy]; decide)
      rw [e]
      rfl
  · intro i _ _ _ h; cases h
  · intro _
    refine ⟨by simp [rs_as, Ex.to], rn_as_c n l (min 60 l.length : Nat) n.toNat n.toNat _ _ _ _ (e := .exit 0) ?_⟩
    rw [rn_as_eq]
    by_cases h60 : l.length < 60
    · rw [decide_eq_false (by omega)]; rfl
    · rw [decide_eq_false (p := (((min 60 l.length : Nat) : Int) < 60)) (by omega)]
      cases decide (((min 60 l.length : Nat) : Int) < (l.length : Int)) <;> rfl
theorem as_go (n : Int) (l : List (Ty.den wt)) (i : Int) (n1 n2 m : Nat) (d v : List Int) (q : List (Ty.den wp)) (h : pre_as n l i n1 n2 m d v q) : SemL Try.prog Γ (lp 9 0) (st_as n l i n1 n2 m d v q) (rs_as n l i n1 n2 m d v q).1.to (rs_as n l i n1 n2 m d v q).2 := by
  obtain ⟨rfl, rfl, rfl, rfl, h1, h2, hd, rfl, hq, hl⟩ := h
  obtain rfl : q = [] := List.length_eq_zero_iff.1 hq
  exact as_go0 n l v h1 h2 hd hl
def hp_al : HP := { n := 127, lv := [0, 5, 6, 10, 11, 12, 13], sp := [.ty ity, .cb true, .ptr 0 0, .ty .str, .ty ity, .bz 0, .ty ity], op := [.cells [.cb false, .ci 0, .bz 1, .bz 2, .bz 3]], bp := [.arr ity, .arr bty, .arr bty, .arr wp], bv := [(5, ity)] }
def lve_al : Ex → List Nat
  | .normal => [0, 5, 6, 10, 11, 12, 13]
  | .exit 2 => [0, 5, 6, 10, 11, 12]
  | _ => []
theorem bd_al : Try.f9.body = some (root 9) := by kernel_rfl
theorem le_al : (loops (root 9))[1]? = some (lp 9 1) := by kernel_rfl
theorem li_al : Lies (root 9) 2 (lp 9 1) := Lies.of_take (n := 0) (by kernel_rfl)
def st_al (n : Int) (s : ByteArray) (f i : Int) (j : Nat) (n1 n2 m : Nat) (d v : List Int) (q : List (Ty.den wp)) (c : List Int) : St := hp_al.st ⟨(n, (), (), s, f, j, i, ()), (((), (), n1, n2, m, ()), ()), (c, d, v, q, ())⟩
noncomputable def rn_al (n : Int) (s : ByteArray) (f i : Int) (j : Nat) (n1 n2 m : Nat) (d v : List Int) (q : List (Ty.den wp)) (c : List Int) := outa lve_al (evCK Try.prog Γ (cfM Try.prog Γ cfgL 30) (cfgL.lo 9) [] 60 2 (lp 9 1) (st_al n s f i j n1 n2 m d v q c))
theorem rn_al_eq (n : Int) (s : ByteArray) (f i : Int) (j : Nat) (n1 n2 m : Nat) (d v : List Int) (q : List (Ty.den wp)) (c : List Int) : (rn_al n s f i j n1 n2 m d v q c).run = (bif decide (i < (Nat.cast ((List.take m (List.drop (0) q)).length) : Int)) then (bif decide ((j + 1) * 2 * 8 ≤ 281474976710656) then (some (Ex.normal, [V.si IntKind.i64 n, V.b true, V.ptr (0 : Nat) (0 : Nat), V.ss s, V.si IntKind.i64 f, V.bs true (0 : Nat) (0 : Nat) (j + (1 : Nat)), V.si IntKind.i64 (IntKind.i64.wrap (i + (1 : Int)))], [some [V.b false, V.i IntKind.i64 (0 : Int), V.bs true (1 : Nat) (0 : Nat) n1, V.bs true (2 : Nat) (0 : Nat) n2, V.bs true (3 : Nat) (0 : Nat) m]], [some (Bf.live (BC.arr ity (List.take j (List.drop (0) c) ++ [i]))), some (Bf.live (BC.arr bty d)), some (Bf.live (BC.arr bty v)), some (Bf.live (BC.arr wp q))], (127 : Nat), (0 : Nat), (0 : Nat))) else none) else (some (Ex.exit (2 : Nat), [V.si IntKind.i64 n, V.b true, V.ptr (0 : Nat) (0 : Nat), V.ss s, V.si IntKind.i64 f, V.bs true (0 : Nat) (0 : Nat) j], [some [V.b false, V.i IntKind.i64 (0 : Int), V.bs true (1 : Nat) (0 : Nat) n1, V.bs true (2 : Nat) (0 : Nat) n2, V.bs true (3 : Nat) (0 : Nat) m]], [some (Bf.live (BC.arr ity c)), some (Bf.live (BC.arr bty d)), some (Bf.live (BC.arr bty v)), some (Bf.live (BC.arr wp q))], (127 : Nat), (0 : Nat), (0 : Nat)))) := by kernel_rfl
theorem rn_al_c (n : Int) (s : ByteArray) (f i : Int) (j : Nat) (n1 n2 m : Nat) (d v : List Int) (q : List (Ty.den wp)) (c : List Int) {e : Ex} {vs : List V} {ob : Ob} {nm : Nm} {n' kh kt : Nat} (h : (rn_al n s f i j n1 n2 m d v q c).run = some (e, vs, ob, nm, n', kh, kt)) : SemC Try.prog Γ (lp 9 1) (st_al n s f i j n1 n2 m d v q c) e.to (St.of n' (lve_al e) vs ob nm kh kt) := SemC.of_evM cfgL_ok Try.func9 bd_al li_al h
/-- The numbers below m. -/
def upto (m : Nat) : List Int := (List.range m).map (fun k : Nat => (k : Int))
abbrev pre_al (n : Int) (s : ByteArray) (f i : Int) (j : Nat) (n1 n2 m : Nat) (d v : List Int) (q : List (Ty.den wp)) (c : List Int) : Prop := i = 0 ∧ j = 0 ∧ c.length = 0 ∧ m ≤ q.length ∧ m ≤ 1000
def rs_al (n : Int) (s : ByteArray) (f i : Int) (j : Nat) (n1 n2 m : Nat) (d v : List Int) (q : List (Ty.den wp)) (c : List Int) : Ex × St := (.exit 2, St.of 127 (lve_al (.exit 2)) [.si .i64 n, .b true, .ptr 0 0, .ss s, .si .i64 f, .bs true 0 0 m] [some [.b false, .i .i64 0, .bs true 1 0 n1, .bs true 2 0 n2, .bs true 3 0 m]] [some (.live (.arr ity (upto m))), some (.live (.arr bty d)), some (.live (.arr bty v)), some (.live (.arr wp q))] hp_al.kh hp_al.kt)
def res_al (n : Int) (s : ByteArray) (f i : Int) (j : Nat) (n1 n2 m : Nat) (d v : List Int) (q : List (Ty.den wp)) (c : List Int) : Tr (Ex × St) := .br (decide (pre_al n s f i j n1 n2 m d v q c)) (.leaf (some (.exit 2, St.of 127 (lve_al (.exit 2)) [.si .i64 n, .b true, .ptr 0 0, .ss s, .si .i64 f, .bs true 0 0 m] [some [.b false, .i .i64 0, .bs true 1 0 n1, .bs true 2 0 n2, .bs true 3 0 m]] [some (.live (.arr ity (upto m))), some (.live (.arr bty d)), some (.live (.arr bty v)), some (.live (.arr wp q))] hp_al.kh hp_al.kt))) (.leaf none)
theorem res_al_run (n : Int) (s : ByteArray) (f i : Int) (j : Nat) (n1 n2 m : Nat) (d v : List Int) (q : List (Ty.den wp)) (c : List Int) (h : pre_al n s f i j n1 n2 m d v q c) : (res_al n s f i j n1 n2 m d v q c).run = some (rs_al n s f i j n1 n2 m d v q c) := by
  unfold res_al rs_al
  rw [decide_eq_true h]
  exact rfl
theorem res_al_no (n : Int) (s : ByteArray) (f i : Int) (j : Nat) (n1 n2 m : Nat) (d v : List Int) (q : List (Ty.den wp)) (c : List Int) (h : ¬ pre_al n s f i j n1 n2 m d v q c) : (res_al n s f i j n1 n2 m d v q c).run = none := Tr.run_no h
def ent_al : LEnt := LEnt.by hp_al fun ⟨(n, _, _, s, f, j, i, _), ((_, _, n1, n2, m, _), _), (c, d, v, q, _)⟩ => res_al n s f i j n1 n2 m d v q c
theorem ent_al_ok (hgo : ∀ (n : Int) (s : ByteArray) (f i : Int) (j : Nat) (n1 n2 m : Nat) (d v : List Int) (q : List (Ty.den wp)) (c : List Int), pre_al n s f i j n1 n2 m d v q c → SemL Try.prog Γ (lp 9 1) (st_al n s f i j n1 n2 m d v q c) (rs_al n s f i j n1 n2 m d v q c).1.to (rs_al n s f i j n1 n2 m d v q c).2) : EntOk Try.prog Γ (lp 9 1) ent_al := LEnt.by_ok fun ⟨(n, _, _, s, f, j, i, _), ((_, _, n1, n2, m, _), _), (c, d, v, q, _)⟩ ex_ s_ h_ => by
  have h_ : (res_al n s f i j n1 n2 m d v q c).run = some (ex_, s_) := h_
  by_cases hp_ : pre_al n s f i j n1 n2 m d v q c
  · rw [res_al_run n s f i j n1 n2 m d v q c hp_] at h_
    obtain ⟨rfl, rfl⟩ := Prod.mk.inj (Option.some.inj h_)
    exact hgo n s f i j n1 n2 m d v q c hp_
  · rw [res_al_no n s f i j n1 n2 m d v q c hp_] at h_
    cases h_
theorem al_go (n : Int) (s : ByteArray) (f i : Int) (j : Nat) (n1 n2 m : Nat) (d v : List Int) (q : List (Ty.den wp)) (c : List Int) (h : pre_al n s f i j n1 n2 m d v q c) : SemL Try.prog Γ (lp 9 1) (st_al n s f i j n1 n2 m d v q c) (rs_al n s f i j n1 n2 m d v q c).1.to (rs_al n s f i j n1 n2 m d v q c).2 := by
  obtain ⟨rfl, rfl, hc, hm, hm2⟩ := h
  obtain rfl : c = [] := List.length_eq_zero_iff.1 hc
  have hq : (List.take m (List.drop 0 q)).length = m := by rw [List.drop_zero, List.length_take]; omega
  show SemL Try.prog Γ (lp 9 1) (st_al n s f ((0 : Nat) : Int) 0 n1 n2 m d v q (upto 0)) _ _
  refine SemL.scan m 0 (Nat.zero_le _) (fun i => st_al n s f (i : Nat) i n1 n2 m d v q (upto i)) (fun _ => true) _ ?_ ?_ ?_
  · intro i _ hi _ _
    refine rn_al_c n s f i i n1 n2 m d v q (upto i) (e := .normal) ?_
    have hw : IntKind.i64.wrap ((i : Int) + 1) = ((i + 1 : Nat) : Int) := by rw [wrap_in (by omega) (by omega)]; rfl
    have hu : List.take i (List.drop 0 (upto i)) ++ [(i : Int)] = upto (i + 1) := by
      have : (upto i).length = i := by simp [upto]
      rw [List.drop_zero, List.take_of_length_le (by omega)]
      simp [upto, List.range_succ]
    rw [rn_al_eq, hq, hw, hu, decide_eq_true (by omega : (i : Int) < m), decide_eq_true (by omega)]
    rfl
  · intro i _ _ _ h; cases h
  · intro _
    refine ⟨by simp [rs_al, Ex.to], rn_al_c n s f m m n1 n2 m d v q (upto m) (e := .exit 2) ?_⟩
    rw [rn_al_eq, hq, decide_eq_false (by omega)]
    rfl
def loA : LOrc := (LOrc.add (LOrc.add (fun _ _ => none) 9 0 ent_as) 9 1 ent_al)
theorem loA_ok : LOrcOk Try.prog Γ loA := (LOrcOk.add (LOrcOk.add LOrcOk.none 9 0 Try.func9 bd_as le_as (ent_as_ok as_go)) 9 1 Try.func9 bd_al le_al (ent_al_ok al_go))
noncomputable def cfgA : Cfg := { cfgL with lo := loA, wy := wy7 }
theorem cfgA_ok : CfgOk Try.prog Γ cfgA := { cfgL_ok with lo := loA_ok }
abbrev z9 (n : Int) (l : List (Ty.den wt)) : DZ := zA (sz n 300) l 0 (rep (sz n 300)) (rep (sz n 300)) []
-- 
-- 
-- 
-- 
-- 
-- 
-- 
-- 
-- 
-- 
theorem law9_run (n : Int) (l : List (Ty.den wt)) : run cfgA 9 [.si .i64 n, .slst .ro wt l] = .ok (some (inr n && decide ((300 : Int) ≠ (0 : Int)) && (!decide (sz n 300 < (1 : Int)) && (some (!decide (sz n 300 > (4194304 : Int)) && (some (decide ((0 : Int) ≤ sz n 300 ∧ sz n 300 ≤ sz n 300 ∧ (1 : Int) * sz n 300 ≤ (281474976710656 : Int) ∧ sz n 300 ≤ (9223372036854775807 : Int)) && (some (decide ((0 : Int) ≤ sz n 300 ∧ sz n 300 ≤ sz n 300 ∧ (1 : Int) * sz n 300 ≤ (281474976710656 : Int) ∧ sz n 300 ≤ (9223372036854775807 : Int)) && true)).getD true)).getD true)).getD true && (decide (pre_as (sz n 300) l 0 (sz n 300).toNat (sz n 300).toNat 0 (rep (sz n 300)) (rep (sz n 300)) []) && (decide ((0 : Int) ≤ sz n 300 ∧ sz n 300 ≤ (Nat.cast ((List.take (sz n 300).toNat (List.drop (0) (z9 n l).d)).length) : Int) ∧ sz n 300 ≤ (Nat.cast ((List.take (sz n 300).toNat (List.drop (0) (z9 n l).v)).length) : Int) ∧ (List.take (sz n 300).toNat (List.drop (0) (z9 n l).d)).length ≤ 4194304) && (decide (pre_al (sz n 300) (strOfNums (List.take (sz n 300).toNat (List.take (sz n 300).toNat (List.drop (0) (z9 n l).v)))) (0 : Int) (0 : Int) (0) (sz n 300).toNat (sz n 300).toNat (z9 n l).m (z9 n l).d (z9 n l).v (z9 n l).q []) && (decide (cn_g25a (-1 : Int) (0 : Int) false (z9 n l).m (sz n 300).toNat (sz n 300).toNat (z9 n l).m (upto (z9 n l).m) ((z9 n l).d) ((z9 n l).v) ((z9 n l).q)) && (decide ((0 : Int) ≤ sz n 300 ∧ sz n 300 ≤ (Nat.cast ((List.take (sz n 300).toNat (List.drop (0) (crd (-1 : Int) ((z9 n l).q) (z9 n l).m (List.take (z9 n l).m (upto (z9 n l).m)) ((z9 n l).d)))).length) : Int) ∧ sz n 300 ≤ (Nat.cast ((List.take (sz n 300).toNat (List.drop (0) (crd (-1 : Int) ((z9 n l).q) (z9 n l).m (List.take (z9 n l).m (upto (z9 n l).m)) ((z9 n l).d)))).length) : Int) ∧ (List.take (sz n 300).toNat (List.drop (0) (crd (-1 : Int) ((z9 n l).q) (z9 n l).m (List.take (z9 n l).m (upto (z9 n l).m)) ((z9 n l).d)))).length ≤ 4194304) && (decide (cn_g25b (0 : Int) (0 : Int) false (sz n 300).toNat (sz n 300).toNat (0) [] (crd (-1 : Int) ((z9 n l).q) (z9 n l).m (List.take (z9 n l).m (upto (z9 n l).m)) ((z9 n l).d)) (crd (-1 : Int) ((z9 n l).q) (z9 n l).m (List.take (z9 n l).m (upto (z9 n l).m)) ((z9 n l).d)) (qS ((z9 n l).q) (z9 n l).m)) && decide ((0 : Int) ≤ sz n 300 ∧ sz n 300 ≤ (Nat.cast ((List.take (sz n 300).toNat (List.drop (0) (crd (0 : Int) (qS ((z9 n l).q) (z9 n l).m) (0) [] (crd (-1 : Int) ((z9 n l).q) (z9 n l).m (List.take (z9 n l).m (upto (z9 n l).m)) ((z9 n l).d))))).length) : Int) ∧ sz n 300 ≤ (Nat.cast ((List.take (sz n 300).toNat (List.drop (0) (crd (0 : Int) (qS ((z9 n l).q) (z9 n l).m) (0) [] (crd (-1 : Int) ((z9 n l).q) (z9 n l).m (List.take (z9 n l).m (upto (z9 n l).m)) ((z9 n l).d))))).length) : Int) ∧ (List.take (sz n 300).toNat (List.drop (0) (crd (0 : Int) (qS ((z9 n l).q) (z9 n l).m) (0) [] (crd (-1 : Int) ((z9 n l).q) (z9 n l).m (List.take (z9 n l).m (upto (z9 n l).m)) ((z9 n l).d))))).length ≤ 4194304)))))))))) (V.sb (bif true then bif true then bif true then bif (strOfNums (List.take (sz n 300).toNat (List.take (sz n 300).toNat (List.drop (0) (z9 n l).v)))).toList == (strOfNums (List.take (sz n 300).toNat (List.take (sz n 300).toNat (List.drop (0) (crd (-1 : Int) ((z9 n l).q) (z9 n l).m (List.take (z9 n l).m (upto (z9 n l).m)) ((z9 n l).d)))))).toList then (strOfNums (List.take (sz n 300).toNat (List.take (sz n 300).toNat (List.drop (0) (z9 n l).v)))).toList == (strOfNums (List.take (sz n 300).toNat (List.take (sz n 300).toNat (List.drop (0) (crd (0 : Int) (qS ((z9 n l).q) (z9 n l).m) (0) [] (crd (-1 : Int) ((z9 n l).q) (z9 n l).m (List.take (z9 n l).m (upto (z9 n l).m)) ((z9 n l).d))))))).toList else false else false else false else false)) := by kernel_rfl
end D
end Go.Proofs.Ytnjjkobijjdnbaa

/- Package disk: put's loop in any surroundings, where its buffer is the first one. -/
set_option linter.unusedVariables false
set_option linter.unusedSimpArgs false
set_option maxRecDepth 100000
set_option maxHeartbeats 4000000
namespace Go.Proofs.Ytnjjkobijjdnbaa
open Go
namespace D
def u8 (l : List Int) : Option Bf := some (.live (.arr (.int .u8) l))
noncomputable def pstG (len : Nat) (off i : Int) (s : ByteArray) (l : List Int) (ob : Ob) (nm : Nm) (kh kt : Nat) : St := St.of 21 [0, 1, 2, 6] [.bs true 0 0 len, .si .i64 off, .ss s, .si .i64 i] ob (u8 l :: nm) kh kt
noncomputable def prdG (len : Nat) (off i : Int) (s : ByteArray) (l : List Int) (ob : Ob) (nm : Nm) (kh kt : Nat) := outs lvp (evCK Try.prog G0 (cfM Try.prog G0 (cfg orc2 fun _ _ => none) 30) ((cfg orc2 fun _ _ => none).lo 27) [] 60 1 (lp 27 0) (pstG len off i s l ob nm kh kt))
section
variable (len : Nat) (off i : Int) (s : ByteArray) (l : List Int) (ob : Ob) (nm : Nm) (kh kt : Nat)
theorem prdG_go : (prdG len off i s l ob nm kh kt).path [true, true, true, true] = some (.normal, [.bs true 0 0 len, .si .i64 off, .ss s, .si .i64 (IntKind.i64.wrap (i + 1))], ob, u8 (l.set (0 + (IntKind.i64.wrap (off + i)).toNat) (byteAt s i.toNat)) :: nm, 21, kh, kt) := by kernel_rfl
theorem prdG_goC : (prdG len off i s l ob nm kh kt).conds [true, true, true, true] = [decide (i < (s.size : Int)), decide (0 ≤ i ∧ i < (s.size : Int)), decide (0 ≤ IntKind.i64.wrap (off + i) ∧ IntKind.i64.wrap (off + i) < (len : Int)), decide (0 + (IntKind.i64.wrap (off + i)).toNat < l.length)] := by kernel_rfl
theorem prdG_out : (prdG len off i s l ob nm kh kt).path [false] = some (.exit 0, [], ob, u8 l :: nm, 21, kh, kt) := by kernel_rfl
theorem prdG_outC : (prdG len off i s l ob nm kh kt).conds [false] = [decide (i < (s.size : Int))] := by kernel_rfl
end
theorem putG_loop (len : Nat) (off : Int) (s : ByteArray) (l : List Int) (ob : Ob) (nm : Nm) (kh kt : Nat) (h0 : 0 ≤ off) (h1 : off + s.size ≤ len) (h2 : len ≤ l.length) (h3 : len ≤ 4194304) :
    SemL Try.prog G0 (lp 27 0) (pstG len off 0 s l ob nm kh kt) (.exit 0) (St.of 21 [] [] ob (u8 (putN l off.toNat s s.size) :: nm) kh kt) := by
  have hC := cfg_ok (wy := fun _ _ => none) orc2_ok
  have key := SemL.ind (P := Try.prog) (Γ := G0) (b := lp 27 0) (fun i : Nat => pstG len off i s (putN l off.toNat s i) ob nm kh kt) (fun i => s.size - i) (fun _ => (.exit 0, St.of 21 [] [] ob (u8 (putN l off.toNat s s.size) :: nm) kh kt)) (fun i => i ≤ s.size) (fun i hi => by
    by_cases hlt : i < s.size
    · refine .inl ⟨i + 1, ?_, hlt, by omega, rfl⟩
      have hw : IntKind.i64.wrap (off + (i : Int)) = off + i := wrap_in (by omega) (by omega)
      have hw2 : IntKind.i64.wrap ((i : Int) + 1) = ((i + 1 : Nat) : Int) := by rw [wrap_in (by omega) (by omega)]; rfl
      have hr := Tr.run_path _ _ _ (prdG_go len off i s (putN l off.toNat s i) ob nm kh kt) (by
        rw [prdG_goC, hw]
        simp only [List.cons.injEq, and_true, decide_eq_true_eq, putN_len (l := l) (o := off.toNat) (s := s) (i := i) (by omega) hi]
        omega)
      have := SemC.of_evS hC Try.func27 body27 lies27 hr
      rw [hw, hw2, show 0 + (off + (i : Int)).toNat = off.toNat + i by omega, Int.toNat_natCast, putN_step (by omega) hlt] at this
      exact this
    · have e : i = s.size := by omega
      subst e
      refine .inr ⟨by simp [Ex.to], ?_⟩
      have hr := Tr.run_path _ _ _ (prdG_out len off s.size s (putN l off.toNat s s.size) ob nm kh kt) (by rw [prdG_outC]; simp)
      exact SemC.of_evS hC Try.func27 body27 lies27 hr) 0 (Nat.zero_le _)
  rw [putN_zero] at key
  exact key
/-- The entry of put's loop. -/
def putG : LEnt := ⟨21, [0, 1, 2, 6], fun kh kt vs ob nm =>
  match vs, nm with
  | [.bs true 0 0 len, .si .i64 off, .ss s, .i .i64 z], some (.live (.arr (.int .u8) l)) :: nm =>
    match decide (z = 0) with
    | true => some (.br (decide (0 ≤ off ∧ off + s.size ≤ len ∧ len ≤ l.length ∧ len ≤ 4194304)) (.leaf (some (.exit 0, St.of 21 [] [] ob (u8 (putN l off.toNat s s.size) :: nm) kh kt))) (.leaf none))
    | _ => none
  | _, _ => none⟩
theorem putG_ok {kh kt : Nat} {vs : List V} {ob : Ob} {nm : Nm} {t : Tr (Ex × St)} {ex : Ex} {x : St} (h : putG.go kh kt vs ob nm = some t) (ht : t.run = some (ex, x)) : SemL Try.prog G0 (lp 27 0) (St.of putG.n putG.lv vs ob nm kh kt) ex.to x := by
  simp only [putG] at h
  split at h
  · rename_i len off s z l nm
    split at h
    · rename_i e3
      obtain rfl := of_decide_eq_true e3
      cases h
      simp only [Tr.run] at ht
      split at ht
      · rename_i hc
        obtain ⟨h0, h1, h2, h3⟩ := of_decide_eq_true hc
        cases ht
        refine (putG_loop len off s l ob nm kh kt h0 h1 h2 h3).pre (St.of_imp rfl ?_)
        intro G j v v' a b cv hv
        match j, a, b with
        | 0, a, b => simp at a b; subst a; subst b; exact hv
        | 1, a, b => simp at a b; subst a; subst b; exact hv
        | 2, a, b => simp at a b; subst a; subst b; exact hv
        | 3, a, b => simp at a b; subst a; subst b; cases hv; exact .si _ _
        | n + 4, a, b => simp at a
      · cases ht
    · cases h
  · cases h
def loG : LOrc := fun f i => match Nat.beq f 27, i with | true, 0 => some putG | _, _ => none
theorem loG_ok : LOrcOk Try.prog G0 loG := fun f i e h => by
  simp only [loG] at h
  split at h
  · rename_i hf
    obtain rfl := Nat.eq_of_beq_eq_true hf
    cases h
    exact ⟨Try.f27, root 27, lp 27 0, Try.func27, body27, lp27, fun kh kt vs ob nm t ex s h1 h2 => putG_ok h1 h2⟩
  · cases h
noncomputable def cfgG (wy : FuncId → List V → Option (List Bool)) : Cfg := { cfg orc2 wy with lo := loG, mem := fun f => (27 :: mems).any (Nat.beq f) }
theorem cfgG_ok (wy : FuncId → List V → Option (List Bool)) : CfgOk Try.prog G0 (cfgG wy) := { cfg_ok (wy := wy) orc2_ok with lo := loG_ok }
end D
end Go.Proofs.Ytnjjkobijjdnbaa

/- Package disk: DiskCrashBytes: its loops. -/
set_option linter.unusedVariables false
set_option linter.unusedSimpArgs false
set_option maxRecDepth 100000
set_option maxHeartbeats 4000000
namespace Go.Proofs.Ytnjjkobijjdnbaa
open Go
namespace D
-- 
-- 
-- 
def fp_g21n : FP := ⟨[.ptr 0 0, .ty ity, .ty .str], [.cells [.cb false, .ci 0, .bz 0, .bz 1, .nl]], [.arr bty, .arr bty]⟩
abbrev cn_g21n (off : Int) (s : ByteArray) (n1 n2 : Nat) (d v : List Int) : Prop := preD n1 n2 0 d v [] ∧ preW off s n1 0
noncomputable def cr_g21n (off : Int) (s : ByteArray) (n1 n2 : Nat) (d v : List Int) : Option Bool × V × Ob × Nm := (some (decide (cn_g21n off s n1 n2 d v)), .i .i64 0, [some [.b false, .i .i64 0, .bs true 0 0 n1, .bs true 1 0 n2, .bs false 2 0 1]], [some (.live (.arr bty d)), some (.live (.arr bty (cpy v off.toNat n2 (bytesOf s)))), some (.live (.cs 2 [.agg [.si .i64 off, .ss s]]))])
noncomputable def ct_g21n := Ct.by fp_g21n fun ⟨(_, off, s, _), ((_, _, n1, n2, _, _), _), (d, v, _)⟩ => cr_g21n off s n1 n2 d v
abbrev sf_g21n (off : Int) (s : ByteArray) (n1 n2 : Nat) (d v : List Int) : Prop := SemF Try.prog Γ 21 (SP.vals fp_g21n.sp ((), off, s, ())) (OP.vals fp_g21n.op (((), (), n1, n2, (), ()), ())) (BP.vals fp_g21n.bp (d, v, ())) (.i .i64 0) ([some [.b false, .i .i64 0, .bs true 0 0 n1, .bs true 1 0 n2, .bs false 2 0 1]]) ([some (.live (.arr bty d)), some (.live (.arr bty (cpy v off.toNat n2 (bytesOf s)))), some (.live (.cs 2 [.agg [.si .i64 off, .ss s]]))])
noncomputable def ev_g21n (C : Cfg) (lv : List Nat) (off : Int) (s : ByteArray) (n1 n2 : Nat) (d v : List Int) := evV Try.prog Γ C lv 21 (SP.vals fp_g21n.sp ((), off, s, ())) (OP.vals fp_g21n.op (((), (), n1, n2, (), ()), ())) (BP.vals fp_g21n.bp (d, v, ()))
theorem cr_g21n_ok (off : Int) (s : ByteArray) (n1 n2 : Nat) (d v : List Int) (h : (cr_g21n off s n1 n2 d v).1.getD true = true) : cn_g21n off s n1 n2 d v := of_decide_eq_true h
theorem ct_g21n_ok (H : ∀ (off : Int) (s : ByteArray) (n1 n2 : Nat) (d v : List Int), cn_g21n off s n1 n2 d v → sf_g21n off s n1 n2 d v) : ∀ args ob nm c v ob1 nm1, ct_g21n args ob nm = some (c, v, ob1, nm1) → c.getD true = true → SemF Try.prog Γ 21 args ob nm v ob1 nm1 := Ct.by_ok fun ⟨(_, off, s, _), ((_, _, n1, n2, _, _), _), (d, v, _)⟩ h => H off s n1 n2 d v (cr_g21n_ok off s n1 n2 d v h)
theorem t21n_eq (off : Int) (s : ByteArray) (n1 n2 : Nat) (d v : List Int) : (ev_g21n cfgP [] off s n1 n2 d v).run = (bif !bif decide (off ≥ (0 : Int)) then bif decide ((Nat.cast (s.size) : Int) ≥ (0 : Int)) then bif decide (off ≤ (Nat.cast ((List.take n1 (List.drop (0) d)).length) : Int)) then decide ((Nat.cast (s.size) : Int) ≤ IntKind.i64.wrap ((Nat.cast ((List.take n1 (List.drop (0) d)).length) : Int) - off)) else false else false else false then (some (V.i IntKind.i64 (330 : Int), [some [V.b false, V.i IntKind.i64 (0 : Int), V.bs true (0 : Nat) (0 : Nat) n1, V.bs true (1 : Nat) (0 : Nat) n2, V.lst Tag.full []]], [some (Bf.live (BC.arr bty d)), some (Bf.live (BC.arr bty v))])) else (bif decide ((0 : Int) ≤ off ∧ off ≤ (Nat.cast (n2) : Int) ∧ (Nat.cast (n2) : Int) ≤ (Nat.cast (n2) : Int)) && true then (some (V.i IntKind.i64 (0 : Int), [some [V.b false, V.i IntKind.i64 (0 : Int), V.bs true (0 : Nat) (0 : Nat) n1, V.bs true (1 : Nat) (0 : Nat) n2, V.bs false (2 : Nat) (0 : Nat) (1 : Nat)]], [some (Bf.live (BC.arr bty d)), some (Bf.live (BC.arr bty (cpy v off.toNat n2 (bytesOf s)))), some (Bf.live (BC.cs (2 : Nat) [V.agg [V.si IntKind.i64 off, V.ss s]]))])) else none)) := by kernel_rfl
theorem g21n_go (off : Int) (s : ByteArray) (n1 n2 : Nat) (d v : List Int) (h : cn_g21n off s n1 n2 d v) : sf_g21n off s n1 n2 d v := by
  obtain ⟨⟨hm, hd, hv, rfl, hq⟩, hm2, hn, h0, h1⟩ := h
  refine SemF.of_tree cfgP_ok (lv := []) (Eq.trans (t21n_eq off s n1 n1 d v) ?_)
  have ht : (List.take n1 (List.drop 0 d)).length = n1 := by rw [List.drop_zero, List.length_take]; omega
  have hw : IntKind.i64.wrap ((n1 : Int) - off) = n1 - off := wrap_in (by omega) (by omega)
  rw [ht, hw, decide_eq_true h0, decide_eq_true (by omega : (s.size : Int) ≥ 0), decide_eq_true (by omega : off ≤ (n1 : Int)), decide_eq_true (by omega : (s.size : Int) ≤ n1 - off), decide_eq_true (by omega)]
  rfl
noncomputable def T6_0 : CallT := fun f args ob nm => match Nat.beq f 21 with | true => (Ct.or ct_g21 ct_g21n) args ob nm | false => T4 f args ob nm
theorem T6_0_ok : CtOk Try.prog Γ T6_0 := CtOk.cons T4_ok 21 (Ct.or ct_g21 ct_g21n) (by decide) Try.f21 Try.func21 (by kernel_rfl) (by kernel_rfl) (Ct.or_ok (ct_g21_ok g21_go) (ct_g21n_ok g21n_go))
noncomputable def T6 : CallT := fun f args ob nm => match Nat.beq f 23 with | true => ct_g23 args ob nm | false => T6_0 f args ob nm
theorem T6_ok : CtOk Try.prog Γ T6 := CtOk.cons T6_0_ok 23 ct_g23 (by decide) Try.f23 Try.func23 (by kernel_rfl) (by kernel_rfl) (ct_g23_ok g23_go)
noncomputable def cfgN : Cfg := { cfgL with om := callC T6, lo := loG }
theorem cfgN_ok : CfgOk Try.prog Γ cfgN := { cfgL_ok with om := callC_calls T6_ok, fit := callC_fit T6_ok, lo := loG_ok }
-- 
-- 
-- 
-- 
-- 
-- 
def hp_ba : HP := { n := 158, lv := [0, 1, 2, 3, 9, 10, 12, 13], sp := [.ty ity, .ty (.slice wt), .ty (.slice .bool), .ty ity, .cb true, .ptr 0 0, .bz 0, .ty ity], op := [.cells [.cb false, .ci 0, .bz 1, .bz 2, .nl]], bp := [.arr bty, .arr bty, .arr bty] }
def lve_ba : Ex → List Nat
  | .normal => [0, 1, 2, 3, 9, 10, 12, 13]
  | .exit 0 => [0, 1, 2, 3, 9, 10, 12]
  | _ => []
theorem bd_ba : Try.f8.body = some (root 8) := by kernel_rfl
theorem le_ba : (loops (root 8))[0]? = some (lp 8 0) := by kernel_rfl
theorem li_ba : Lies (root 8) 1 (lp 8 0) := Lies.of_take (n := 0) (by kernel_rfl)
def st_ba (n : Int) (l : List (Ty.den wt)) (ks : List Bool) (torn i : Int) (j n1 n2 : Nat) (w d v : List Int) : St := hp_ba.st ⟨(n, l, ks, torn, (), (), j, i, ()), (((), (), n1, n2, (), ()), ()), (w, d, v, ())⟩
noncomputable def rn_ba (n : Int) (l : List (Ty.den wt)) (ks : List Bool) (torn i : Int) (j n1 n2 : Nat) (w d v : List Int) := outa lve_ba (evCK Try.prog Γ (cfM Try.prog Γ cfgN 30) (cfgN.lo 8) [] 60 1 (lp 8 0) (st_ba n l ks torn i j n1 n2 w d v))
theorem rn_ba_eq (n : Int) (l : List (Ty.den wt)) (ks : List Bool) (torn i : Int) (j n1 n2 : Nat) (w d v : List Int) : (rn_ba n l ks torn i j n1 n2 w d v).run = (bif decide (i < n) then (bif decide ((0 : Int) ≤ i ∧ i < (Nat.cast (j) : Int)) then (bif decide (0 + i.toNat < w.length) then (some (Ex.normal, [V.si IntKind.i64 n, V.slst Tag.ro wt l, V.slst Tag.ro Ty.bool ks, V.si IntKind.i64 torn, V.b true, V.ptr (0 : Nat) (0 : Nat), V.bs true (0 : Nat) (0 : Nat) j, V.si IntKind.i64 (IntKind.i64.wrap (i + (1 : Int)))], [some [V.b false, V.i IntKind.i64 (0 : Int), V.bs true (1 : Nat) (0 : Nat) n1, V.bs true (2 : Nat) (0 : Nat) n2, V.lst Tag.full []]], [some (Bf.live (BC.arr bty (w.set (0 + i.toNat) (IntKind.u8.wrap (IntKind.i64.wrap ((48 : Int) + i.tmod (10 : Int))))))), some (Bf.live (BC.arr bty d)), some (Bf.live (BC.arr bty v))], (158 : Nat), (0 : Nat), (0 : Nat))) else none) else none) else (some (Ex.exit (0 : Nat), [V.si IntKind.i64 n, V.slst Tag.ro wt l, V.slst Tag.ro Ty.bool ks, V.si IntKind.i64 torn, V.b true, V.ptr (0 : Nat) (0 : Nat), V.bs true (0 : Nat) (0 : Nat) j], [some [V.b false, V.i IntKind.i64 (0 : Int), V.bs true (1 : Nat) (0 : Nat) n1, V.bs true (2 : Nat) (0 : Nat) n2, V.lst Tag.full []]], [some (Bf.live (BC.arr bty w)), some (Bf.live (BC.arr bty d)), some (Bf.live (BC.arr bty v))], (158 : Nat), (0 : Nat), (0 : Nat)))) := by kernel_rfl
theorem rn_ba_c (n : Int) (l : List (Ty.den wt)) (ks : List Bool) (torn i : Int) (j n1 n2 : Nat) (w d v : List Int) {e : Ex} {vs : List V} {ob : Ob} {nm : Nm} {n' kh kt : Nat} (h : (rn_ba n l ks torn i j n1 n2 w d v).run = some (e, vs, ob, nm, n', kh, kt)) : SemC Try.prog Γ (lp 8 0) (st_ba n l ks torn i j n1 n2 w d v) e.to (St.of n' (lve_ba e) vs ob nm kh kt) := SemC.of_evM cfgN_ok Try.func8 bd_ba li_ba h
/-- The bytes of a fresh content. -/
def wv (i : Nat) : Int := 48 + ((i % 10 : Nat) : Int)
def wn (n : Nat) : List Int := (List.range n).map wv
theorem wn_len (n : Nat) : (wn n).length = n := by simp [wn]
theorem wv_eq (i : Nat) (h : i ≤ 1000) : IntKind.u8.wrap (IntKind.i64.wrap ((48 : Int) + (i : Int).tmod 10)) = wv i := by
  have e : (i : Int).tmod 10 = ((i % 10 : Nat) : Int) := by rw [Int.tmod_eq_emod_of_nonneg (by omega)]; rfl
  rw [e, wrap_in (by omega) (by omega)]
  have hb : i % 10 < 10 := Nat.mod_lt _ (by decide)
  have e1 : (2 : Int) ^ 8 = 256 := rfl
  simp only [IntKind.wrap, IntKind.signed, IntKind.bits, Bool.false_and, e1]
  unfold wv
  simp
  omega
abbrev pre_ba (n : Int) (l : List (Ty.den wt)) (ks : List Bool) (torn i : Int) (j n1 n2 : Nat) (w d v : List Int) : Prop := i = 0 ∧ j = n.toNat ∧ 1 ≤ n ∧ n ≤ 100 ∧ w.length = n.toNat
def rs_ba (n : Int) (l : List (Ty.den wt)) (ks : List Bool) (torn i : Int) (j n1 n2 : Nat) (w d v : List Int) : Ex × St := (.exit 0, St.of 158 (lve_ba (.exit 0)) [.si .i64 n, .slst .ro wt l, .slst .ro .bool ks, .si .i64 torn, .b true, .ptr 0 0, .bs true 0 0 j] [some [.b false, .i .i64 0, .bs true 1 0 n1, .bs true 2 0 n2, .lst .full []]] [some (.live (.arr bty (wn j))), some (.live (.arr bty d)), some (.live (.arr bty v))] hp_ba.kh hp_ba.kt)
def res_ba (n : Int) (l : List (Ty.den wt)) (ks : List Bool) (torn i : Int) (j n1 n2 : Nat) (w d v : List Int) : Tr (Ex × St) := .br (decide (pre_ba n l ks torn i j n1 n2 w d v)) (.leaf (some (.exit 0, St.of 158 (lve_ba (.exit 0)) [.si .i64 n, .slst .ro wt l, .slst .ro .bool ks, .si .i64 torn, .b true, .ptr 0 0, .bs true 0 0 j] [some [.b false, .i .i64 0, .bs true 1 0 n1, .bs true 2 0 n2, .lst .full []]] [some (.live (.arr bty (wn j))), some (.live (.arr bty d)), some (.live (.arr bty v))] hp_ba.kh hp_ba.kt))) (.leaf none)
theorem res_ba_run (n : Int) (l : List (Ty.den wt)) (ks : List Bool) (torn i : Int) (j n1 n2 : Nat) (w d v : List Int) (h : pre_ba n l ks torn i j n1 n2 w d v) : (res_ba n l ks torn i j n1 n2 w d v).run = some (rs_ba n l ks torn i j n1 n2 w d v) := by
  unfold res_ba rs_ba
  rw [decide_eq_true h]
  exact rfl
theorem res_ba_no (n : Int) (l : List (Ty.den wt)) (ks : List Bool) (torn i : Int) (j n1 n2 : Nat) (w d v : List Int) (h : ¬ pre_ba n l ks torn i j n1 n2 w d v) : (res_ba n l ks torn i j n1 n2 w d v).run = none := Tr.run_no h
def ent_ba : LEnt := LEnt.by hp_ba fun ⟨(n, l, ks, torn, _, _, j, i, _), ((_, _, n1, n2, _, _), _), (w, d, v, _)⟩ => res_ba n l ks torn i j n1 n2 w d v
theorem ent_ba_ok (hgo : ∀ (n : Int) (l : List (Ty.den wt)) (ks : List Bool) (torn i : Int) (j n1 n2 : Nat) (w d v : List Int), pre_ba n l ks torn i j n1 n2 w d v → SemL Try.prog Γ (lp 8 0) (st_ba n l ks torn i j n1 n2 w d v) (rs_ba n l ks torn i j n1 n2 w d v).1.to (rs_ba n l ks torn i j n1 n2 w d v).2) : EntOk Try.prog Γ (lp 8 0) ent_ba := LEnt.by_ok fun ⟨(n, l, ks, torn, _, _, j, i, _), ((_, _, n1, n2, _, _), _), (w, d, v, _)⟩ ex_ s_ h_ => by
  have h_ : (res_ba n l ks torn i j n1 n2 w d v).run = some (ex_, s_) := h_
  by_cases hp_ : pre_ba n l ks torn i j n1 n2 w d v
  · rw [res_ba_run n l ks torn i j n1 n2 w d v hp_] at h_
    obtain ⟨rfl, rfl⟩ := Prod.mk.inj (Option.some.inj h_)
    exact hgo n l ks torn i j n1 n2 w d v hp_
  · rw [res_ba_no n l ks torn i j n1 n2 w d v hp_] at h_
    cases h_
theorem ba_go (n : Int) (l : List (Ty.den wt)) (ks : List Bool) (torn i : Int) (j n1 n2 : Nat) (w d v : List Int) (h : pre_ba n l ks torn i j n1 n2 w d v) : SemL Try.prog Γ (lp 8 0) (st_ba n l ks torn i j n1 n2 w d v) (rs_ba n l ks torn i j n1 n2 w d v).1.to (rs_ba n l ks torn i j n1 n2 w d v).2 := by
  obtain ⟨rfl, rfl, h1, h2, hw⟩ := h
  have e0 : w = wn 0 ++ w.drop 0 := by simp [wn]
  have key := SemL.scan (P := Try.prog) (Γ := Γ) (b := lp 8 0) n.toNat 0 (Nat.zero_le _) (fun i => st_ba n l ks torn (i : Nat) n.toNat n1 n2 (wn i ++ w.drop i) d v) (fun _ => true) (rs_ba n l ks torn 0 n.toNat n1 n2 w d v) ?_ ?_ ?_
  · rw [← e0] at key
    exact key
  · intro i _ hi _ _
    refine rn_ba_c n l ks torn i n.toNat n1 n2 (wn i ++ w.drop i) d v (e := .normal) ?_
    have hw1 : IntKind.i64.wrap ((i : Int) + 1) = ((i + 1 : Nat) : Int) := by rw [wrap_in (by omega) (by omega)]; rfl
    have hl : (wn i ++ w.drop i).length = n.toNat := by rw [List.length_append, wn_len, List.length_drop]; omega
    have hs : (wn i ++ w.drop i).set i (wv i) = wn (i + 1) ++ w.drop (i + 1) := by
      have := set_app (D := wn i) (c := w) (x := wv i) (by rw [wn_len]; omega)
      rw [wn_len] at this
      rw [this]
      simp [wn, List.range_succ]
    rw [rn_ba_eq, Int.toNat_natCast, wv_eq i (by omega), Nat.zero_add, hs, hl, hw1, decide_eq_true (by omega : (i : Int) < n), decide_eq_true (by omega : (0 : Int) ≤ i ∧ (i : Int) < (n.toNat : Int)), decide_eq_true hi]
    rfl
  · intro i _ _ _ h; cases h
  · intro _
    refine ⟨by simp [rs_ba, Ex.to], ?_⟩
    have e : wn n.toNat ++ w.drop n.toNat = wn n.toNat := by rw [List.drop_eq_nil_of_le (by omega), List.append_nil]
    rw [e]
    refine rn_ba_c n l ks torn n.toNat n.toNat n1 n2 (wn n.toNat) d v (e := .exit 0) ?_
    rw [rn_ba_eq, decide_eq_false (by omega)]
    rfl
def hp_bb : HP := { n := 158, lv := [0, 1, 2, 3, 9, 10, 12, 14, 15], sp := [.ty ity, .ty (.slice wt), .ty (.slice .bool), .ty ity, .cb true, .ptr 0 0, .bz 0, .ty ity, .ty ity], op := [.cells [.cb false, .ci 0, .bz 1, .bz 2, .bz 3]], bp := [.arr bty, .arr bty, .arr bty, .arr wp] }
def lve_bb : Ex → List Nat
  | .normal => [0, 1, 2, 3, 9, 10, 12, 14, 15]
  | .exit 2 => [0, 1, 2, 3, 9, 10, 12, 14]
  | _ => []
theorem bd_bb : Try.f8.body = some (root 8) := by kernel_rfl
theorem le_bb : (loops (root 8))[1]? = some (lp 8 1) := by kernel_rfl
theorem li_bb : Lies (root 8) 2 (lp 8 1) := Lies.of_take (n := 0) (by kernel_rfl)
def st_bb (n : Int) (l : List (Ty.den wt)) (ks : List Bool) (torn last i : Int) (j n1 n2 m : Nat) (w d v : List Int) (q : List (Ty.den wp)) : St := hp_bb.st ⟨(n, l, ks, torn, (), (), j, last, i, ()), (((), (), n1, n2, m, ()), ()), (w, d, v, q, ())⟩
noncomputable def rn_bb (n : Int) (l : List (Ty.den wt)) (ks : List Bool) (torn last i : Int) (j n1 n2 m : Nat) (w d v : List Int) (q : List (Ty.den wp)) := outa lve_bb (evCK Try.prog Γ (cfM Try.prog Γ cfgN 30) (cfgN.lo 8) [] 60 2 (lp 8 1) (st_bb n l ks torn last i j n1 n2 m w d v q))
theorem rn_bb_eq (n : Int) (l : List (Ty.den wt)) (ks : List Bool) (torn last i : Int) (j n1 n2 m : Nat) (w d v : List Int) (q : List (Ty.den wp)) : (rn_bb n l ks torn last i j n1 n2 m w d v q).run = (bif decide (i < (Nat.cast (l.length) : Int)) then (bif decide (i < (20 : Int)) then (bif decide (i < (Nat.cast (ks.length) : Int)) then (bif decide ((0 : Int) ≤ i ∧ i < (Nat.cast (ks.length) : Int)) then (bif ks.getD i.toNat false then (some (Ex.normal, [V.si IntKind.i64 n, V.slst Tag.ro wt l, V.slst Tag.ro Ty.bool ks, V.si IntKind.i64 torn, V.b true, V.ptr (0 : Nat) (0 : Nat), V.bs true (0 : Nat) (0 : Nat) j, V.si IntKind.i64 i, V.si IntKind.i64 (IntKind.i64.wrap (i + (1 : Int)))], [some [V.b false, V.i IntKind.i64 (0 : Int), V.bs true (1 : Nat) (0 : Nat) n1, V.bs true (2 : Nat) (0 : Nat) n2, V.bs true (3 : Nat) (0 : Nat) m]], [some (Bf.live (BC.arr bty w)), some (Bf.live (BC.arr bty d)), some (Bf.live (BC.arr bty v)), some (Bf.live (BC.arr wp q))], (158 : Nat), (0 : Nat), (0 : Nat))) else (some (Ex.normal, [V.si IntKind.i64 n, V.slst Tag.ro wt l, V.slst Tag.ro Ty.bool ks, V.si IntKind.i64 torn, V.b true, V.ptr (0 : Nat) (0 : Nat), V.bs true (0 : Nat) (0 : Nat) j, V.si IntKind.i64 last, V.si IntKind.i64 (IntKind.i64.wrap (i + (1 : Int)))], [some [V.b false, V.i IntKind.i64 (0 : Int), V.bs true (1 : Nat) (0 : Nat) n1, V.bs true (2 : Nat) (0 : Nat) n2, V.bs true (3 : Nat) (0 : Nat) m]], [some (Bf.live (BC.arr bty w)), some (Bf.live (BC.arr bty d)), some (Bf.live (BC.arr bty v)), some (Bf.live (BC.arr wp q))], (158 : Nat), (0 : Nat), (0 : Nat)))) else none) else (some (Ex.normal, [V.si IntKind.i64 n, V.slst Tag.ro wt l, V.slst Tag.ro Ty.bool ks, V.si IntKind.i64 torn, V.b true, V.ptr (0 : Nat) (0 : Nat), V.bs true (0 : Nat) (0 : Nat) j, V.si IntKind.i64 last, V.si IntKind.i64 (IntKind.i64.wrap (i + (1 : Int)))], [some [V.b false, V.i IntKind.i64 (0 : Int), V.bs true (1 : Nat) (0 : Nat) n1, V.bs true (2 : Nat) (0 : Nat) n2, V.bs true (3 : Nat) (0 : Nat) m]], [some (Bf.live (BC.arr bty w)), some (Bf.live (BC.arr bty d)), some (Bf.live (BC.arr bty v)), some (Bf.live (BC.arr wp q))], (158 : Nat), (0 : Nat), (0 : Nat)))) else (some (Ex.exit (2 : Nat), [V.si IntKind.i64 n, V.slst Tag.ro wt l, V.slst Tag.ro Ty.bool ks, V.si IntKind.i64 torn, V.b true, V.ptr (0 : Nat) (0 : Nat), V.bs true (0 : Nat) (0 : Nat) j, V.si IntKind.i64 last], [some [V.b false, V.i IntKind.i64 (0 : Int), V.bs true (1 : Nat) (0 : Nat) n1, V.bs true (2 : Nat) (0 : Nat) n2, V.bs true (3 : Nat) (0 : Nat) m]], [some (Bf.live (BC.arr bty w)), some (Bf.live (BC.arr bty d)), some (Bf.live (BC.arr bty v)), some (Bf.live (BC.arr wp q))], (158 : Nat), (0 : Nat), (0 : Nat)))) else (some (Ex.exit (2 : Nat), [V.si IntKind.i64 n, V.slst Tag.ro wt l, V.slst Tag.ro Ty.bool ks, V.si IntKind.i64 torn, V.b true, V.ptr (0 : Nat) (0 : Nat), V.bs true (0 : Nat) (0 : Nat) j, V.si IntKind.i64 last], [some [V.b false, V.i IntKind.i64 (0 : Int), V.bs true (1 : Nat) (0 : Nat) n1, V.bs true (2 : Nat) (0 : Nat) n2, V.bs true (3 : Nat) (0 : Nat) m]], [some (Bf.live (BC.arr bty w)), some (Bf.live (BC.arr bty d)), some (Bf.live (BC.arr bty v)), some (Bf.live (BC.arr wp q))], (158 : Nat), (0 : Nat), (0 : Nat)))) := by kernel_rfl
theorem rn_bb_c (n : Int) (l : List (Ty.den wt)) (ks : List Bool) (torn last i : Int) (j n1 n2 m : Nat) (w d v : List Int) (q : List (Ty.den wp)) {e : Ex} {vs : List V} {ob : Ob} {nm : Nm} {n' kh kt : Nat} (h : (rn_bb n l ks torn last i j n1 n2 m w d v q).run = some (e, vs, ob, nm, n', kh, kt)) : SemC Try.prog Γ (lp 8 1) (st_bb n l ks torn last i j n1 n2 m w d v q) e.to (St.of n' (lve_bb e) vs ob nm kh kt) := SemC.of_evM cfgN_ok Try.func8 bd_bb li_bb h
/-- Which writes are kept; the last of the first i that is. -/
def kb (ks : List Bool) (i : Nat) : Bool := decide (i < ks.length) && ks.getD i false
def lastK (ks : List Bool) : Nat → Int
  | 0 => -1
  | i + 1 => if kb ks i = true then (i : Int) else lastK ks i
abbrev pre_bb (n : Int) (l : List (Ty.den wt)) (ks : List Bool) (torn last i : Int) (j n1 n2 m : Nat) (w d v : List Int) (q : List (Ty.den wp)) : Prop := i = 0 ∧ last = -1
def rs_bb (n : Int) (l : List (Ty.den wt)) (ks : List Bool) (torn last i : Int) (j n1 n2 m : Nat) (w d v : List Int) (q : List (Ty.den wp)) : Ex × St := (.exit 2, St.of 158 (lve_bb (.exit 2)) [.si .i64 n, .slst .ro wt l, .slst .ro .bool ks, .si .i64 torn, .b true, .ptr 0 0, .bs true 0 0 j, .si .i64 (lastK ks (min 20 l.length))] [some [.b false, .i .i64 0, .bs true 1 0 n1, .bs true 2 0 n2, .bs true 3 0 m]] [some (.live (.arr bty w)), some (.live (.arr bty d)), some (.live (.arr bty v)), some (.live (.arr wp q))] hp_bb.kh hp_bb.kt)
def res_bb (n : Int) (l : List (Ty.den wt)) (ks : List Bool) (torn last i : Int) (j n1 n2 m : Nat) (w d v : List Int) (q : List (Ty.den wp)) : Tr (Ex × St) := .br (decide (pre_bb n l ks torn last i j n1 n2 m w d v q)) (.leaf (some (.exit 2, St.of 158 (lve_bb (.exit 2)) [.si .i64 n, .slst .ro wt l, .slst .ro .bool ks, .si .i64 torn, .b true, .ptr 0 0, .bs true 0 0 j, .si .i64 (lastK ks (min 20 l.length))] [some [.b false, .i .i64 0, .bs true 1 0 n1, .bs true 2 0 n2, .bs true 3 0 m]] [some (.live (.arr bty w)), some (.live (.arr bty d)), some (.live (.arr bty v)), some (.live (.arr wp q))] hp_bb.kh hp_bb.kt))) (.leaf none)
theorem res_bb_run (n : Int) (l : List (Ty.den wt)) (ks : List Bool) (torn last i : Int) (j n1 n2 m : Nat) (w d v : List Int) (q : List (Ty.den wp)) (h : pre_bb n l ks torn last i j n1 n2 m w d v q) : (res_bb n l ks torn last i j n1 n2 m w d v q).run = some (rs_bb n l ks torn last i j n1 n2 m w d v q) := by
  unfold res_bb rs_bb
  rw [decide_eq_true h]
  exact rfl
theorem res_bb_no (n : Int) (l : List (Ty.den wt)) (ks : List Bool) (torn last i : Int) (j n1 n2 m : Nat) (w d v : List Int) (q : List (Ty.den wp)) (h : ¬ pre_bb n l ks torn last i j n1 n2 m w d v q) : (res_bb n l ks torn last i j n1 n2 m w d v q).run = none := Tr.run_no h
def ent_bb : LEnt := LEnt.by hp_bb fun ⟨(n, l, ks, torn, _, _, j, last, i, _), ((_, _, n1, n2, m, _), _), (w, d, v, q, _)⟩ => res_bb n l ks torn last i j n1 n2 m w d v q
theorem ent_bb_ok (hgo : ∀ (n : Int) (l : List (Ty.den wt)) (ks : List Bool) (torn last i : Int) (j n1 n2 m : Nat) (w d v : List Int) (q : List (Ty.den wp)), pre_bb n l ks torn last i j n1 n2 m w d v q → SemL Try.prog Γ (lp 8 1) (st_bb n l ks torn last i j n1 n2 m w d v q) (rs_bb n l ks torn last i j n1 n2 m w d v q).1.to (rs_bb n l ks torn last i j n1 n2 m w d v q).2) : EntOk Try.prog Γ (lp 8 1) ent_bb := LEnt.by_ok fun ⟨(n, l, ks, torn, _, _, j, last, i, _), ((_, _, n1, n2, m, _), _), (w, d, v, q, _)⟩ ex_ s_ h_ => by
  have h_ : (res_bb n l ks torn last i j n1 n2 m w d v q).run = some (ex_, s_) := h_
  by_cases hp_ : pre_bb n l ks torn last i j n1 n2 m w d v q
  · rw [res_bb_run n l ks torn last i j n1 n2 m w d v q hp_] at h_
    obtain ⟨rfl, rfl⟩ := Prod.mk.inj (Option.some.inj h_)
    exact hgo n l ks torn last i j n1 n2 m w d v q hp_
  · rw [res_bb_no n l ks torn last i j n1 n2 m w d v q hp_] at h_
    cases h_
theorem bb_go (n : Int) (l : List (Ty.den wt)) (ks : List Bool) (torn last i : Int) (j n1 n2 m : Nat) (w d v : List Int) (q : List (Ty.den wp)) (h : pre_bb n l ks torn last i j n1 n2 m w d v q) : SemL Try.prog Γ (lp 8 1) (st_bb n l ks torn last i j n1 n2 m w d v q) (rs_bb n l ks torn last i j n1 n2 m w d v q).1.to (rs_bb n l ks torn last i j n1 n2 m w d v q).2 := by
  obtain ⟨rfl, rfl⟩ := h
  refine SemL.scan (P := Try.prog) (Γ := Γ) (b := lp 8 1) (min 20 l.length) 0 (Nat.zero_le _) (fun i => st_bb n l ks torn (lastK ks i) (i : Nat) j n1 n2 m w d v q) (fun _ => true) _ ?_ ?_ ?_
  · intro i _ hi _ _
    refine rn_bb_c n l ks torn (lastK ks i) i j n1 n2 m w d v q (e := .normal) ?_
    have hw1 : IntKind.i64.wrap ((i : Int) + 1) = ((i + 1 : Nat) : Int) := by rw [wrap_in (by omega) (by omega)]; rfl
    rw [rn_bb_eq, Int.toNat_natCast, hw1, decide_eq_true (by omega : (i : Int) < (l.length : Int)), decide_eq_true (by omega : (i : Int) < 20)]
    by_cases hk : i < ks.length
    · rw [decide_eq_true (by omega : (i : Int) < (ks.length : Int)), decide_eq_true (by omega : (0 : Int) ≤ i ∧ (i : Int) < (ks.length : Int))]
      have hkb : kb ks i = ks.getD i false := by unfold kb; rw [decide_eq_true hk, Bool.true_and]
      cases hg : ks.getD i false with
      | true => rw [show lastK ks (i + 1) = i by show (if _ then _ else _) = _; rw [hkb, hg, if_pos rfl]]; rfl
      | false => rw [show lastK ks (i + 1) = lastK ks i by show (if _ then _ else _) = _; rw [hkb, hg, if_neg (by decide)]]; rfl
    · have hkb : kb ks i = false := by unfold kb; rw [decide_eq_false hk, Bool.false_and]
      rw [decide_eq_false (by omega : ¬ (i : Int) < (ks.length : Int)), show lastK ks (i + 1) = lastK ks i by show (if _ then _ else _) = _; rw [hkb, if_neg (by decide)]]
      rfl
  · intro i _ _ _ h; cases h
  · intro _
    refine ⟨by simp [rs_bb, Ex.to], rn_bb_c n l ks torn (lastK ks (min 20 l.length)) (min 20 l.length : Nat) j n1 n2 m w d v q (e := .exit 2) ?_⟩
    rw [rn_bb_eq]
    by_cases h60 : l.length < 20
    · rw [decide_eq_false (by omega)]; rfl
    · rw [decide_eq_false (p := (((min 20 l.length : Nat) : Int) < 20)) (by omega)]
      cases decide (((min 20 l.length : Nat) : Int) < (l.length : Int)) <;> rfl
def tm (torn : Int) (s : ByteArray) : Int := if torn < (s.size : Int) then torn else s.size
def fW (n : Int) (w : Ty.den wt) : ByteArray := fs (wS w) (wO w) n
def oW (n : Int) (w : Ty.den wt) : Int := fo (wO w) n
def tW (torn n : Int) (w : Ty.den wt) : ByteArray := (fW n w).extract 0 (tm torn (fW n w)).toNat
-- 
-- 
-- 
-- 
-- 
def hp_bc : HP := { n := 158, lv := [0, 1, 2, 3, 9, 10, 12, 14, 16, 17], sp := [.ty ity, .ty (.slice wt), .ty (.slice .bool), .ty ity, .cb true, .ptr 0 0, .bz 0, .ty ity, .ty (.slice ity), .ty ity], op := [.cells [.cb false, .ci 0, .bz 1, .bz 2, .bz 3]], bp := [.arr bty, .arr bty, .arr bty, .arr wp] }
def lve_bc : Ex → List Nat
  | .normal => [0, 1, 2, 3, 9, 10, 12, 14, 16, 17]
  | .ret => [8]
  | .exit 4 => [0, 3, 9, 10, 12, 16]
  | _ => []
theorem bd_bc : Try.f8.body = some (root 8) := by kernel_rfl
theorem le_bc : (loops (root 8))[2]? = some (lp 8 2) := by kernel_rfl
theorem li_bc : Lies (root 8) 3 (lp 8 2) := Lies.of_take (n := 0) (by kernel_rfl)
def st_bc (n : Int) (l : List (Ty.den wt)) (ks : List Bool) (torn last i : Int) (c : List Int) (j n1 n2 m : Nat) (w d v : List Int) (q : List (Ty.den wp)) : St := hp_bc.st ⟨(n, l, ks, torn, (), (), j, last, c, i, ()), (((), (), n1, n2, m, ()), ()), (w, d, v, q, ())⟩
noncomputable def rn_bc (n : Int) (l : List (Ty.den wt)) (ks : List Bool) (torn last i : Int) (c : List Int) (j n1 n2 m : Nat) (w d v : List Int) (q : List (Ty.den wp)) := outa lve_bc (evCK Try.prog Γ (cfM Try.prog Γ cfgN 30) (cfgN.lo 8) [] 60 3 (lp 8 2) (st_bc n l ks torn last i c j n1 n2 m w d v q))
theorem rn_bc_eq (n : Int) (l : List (Ty.den wt)) (ks : List Bool) (torn last i : Int) (c : List Int) (j n1 n2 m : Nat) (w d v : List Int) (q : List (Ty.den wp)) : (rn_bc n l ks torn last i c j n1 n2 m w d v q).run = (bif decide (i < (Nat.cast (l.length) : Int)) then (bif decide (i < (20 : Int)) then (bif decide ((0 : Int) ≤ i ∧ i < (Nat.cast (l.length) : Int)) then (bif inr (wO (l.getD i.toNat wt.dflt)) && decide ((0 : Int) ≤ n ∧ n ≤ (4194304 : Int)) then (bif decide (cn_g21 (oW n (l.getD i.toNat wt.dflt)) (fW n (l.getD i.toNat wt.dflt)) n1 n2 m d v q) then (bif decide (i < (Nat.cast (ks.length) : Int)) then (bif decide ((0 : Int) ≤ i ∧ i < (Nat.cast (ks.length) : Int)) then (bif ks.getD i.toNat false then (bif decide ((1 + c.length) * 2 * 8 ≤ 281474976710656) then (bif i == last then (bif decide (torn ≥ (0 : Int)) then (bif decide ((0 : Int) ≤ (0 : Int) ∧ ((0 : Int) ≤ tm torn (fW n (l.getD i.toNat wt.dflt))) ∧ (tm torn (fW n (l.getD i.toNat wt.dflt))) ≤ (Nat.cast ((fW n (l.getD i.toNat wt.dflt)).size) : Int)) then (bif decide ((0 : Int) ≤ oW n (l.getD i.toNat wt.dflt) ∧ oW n (l.getD i.toNat wt.dflt) + (Nat.cast ((tW torn n (l.getD i.toNat wt.dflt)).size) : Int) ≤ (Nat.cast (j) : Int) ∧ j ≤ w.length ∧ j ≤ 4194304) && true then (some (Ex.normal, [V.si IntKind.i64 n, V.slst Tag.ro wt l, V.slst Tag.ro Ty.bool ks, V.si IntKind.i64 torn, V.b true, V.ptr (0 : Nat) (0 : Nat), V.bs true (0 : Nat) (0 : Nat) j, V.si IntKind.i64 last, V.slst Tag.ro ity ([i] ++ c), V.si IntKind.i64 (IntKind.i64.wrap (i + (1 : Int)))], [some [V.b false, V.i IntKind.i64 (0 : Int), V.bs true (1 : Nat) (0 : Nat) n1, V.bs true (2 : Nat) (0 : Nat) n2, V.bs true (3 : Nat) (0 : Nat) (m + 1)]], [some (Bf.live (BC.arr (Ty.int IntKind.u8) (putN w (oW n (l.getD i.toNat wt.dflt)).toNat (tW torn n (l.getD i.toNat wt.dflt)) (tW torn n (l.getD i.toNat wt.dflt)).size))), some (Bf.live (BC.arr bty d)), some (Bf.live (BC.arr bty (cpy v (oW n (l.getD i.toNat wt.dflt)).toNat n2 (bytesOf (fW n (l.getD i.toNat wt.dflt)))))), some (Bf.live (BC.arr wp (List.take m q ++ [mkP (oW n (l.getD i.toNat wt.dflt)) (fW n (l.getD i.toNat wt.dflt))])))], (158 : Nat), (0 : Nat), (0 : Nat))) else none) else none) else (bif decide ((0 : Int) ≤ oW n (l.getD i.toNat wt.dflt) ∧ oW n (l.getD i.toNat wt.dflt) + (Nat.cast ((fW n (l.getD i.toNat wt.dflt)).size) : Int) ≤ (Nat.cast (j) : Int) ∧ j ≤ w.length ∧ j ≤ 4194304) && true then (some (Ex.normal, [V.si IntKind.i64 n, V.slst Tag.ro wt l, V.slst Tag.ro Ty.bool ks, V.si IntKind.i64 torn, V.b true, V.ptr (0 : Nat) (0 : Nat), V.bs true (0 : Nat) (0 : Nat) j, V.si IntKind.i64 last, V.slst Tag.ro ity ([i] ++ c), V.si IntKind.i64 (IntKind.i64.wrap (i + (1 : Int)))], [some [V.b false, V.i IntKind.i64 (0 : Int), V.bs true (1 : Nat) (0 : Nat) n1, V.bs true (2 : Nat) (0 : Nat) n2, V.bs true (3 : Nat) (0 : Nat) (m + 1)]], [some (Bf.live (BC.arr (Ty.int IntKind.u8) (putN w (oW n (l.getD i.toNat wt.dflt)).toNat (fW n (l.getD i.toNat wt.dflt)) (fW n (l.getD i.toNat wt.dflt)).size))), some (Bf.live (BC.arr bty d)), some (Bf.live (BC.arr bty (cpy v (oW n (l.getD i.toNat wt.dflt)).toNat n2 (bytesOf (fW n (l.getD i.toNat wt.dflt)))))), some (Bf.live (BC.arr wp (List.take m q ++ [mkP (oW n (l.getD i.toNat wt.dflt)) (fW n (l.getD i.toNat wt.dflt))])))], (158 : Nat), (0 : Nat), (0 : Nat))) else none)) else (bif decide ((0 : Int) ≤ oW n (l.getD i.toNat wt.dflt) ∧ oW n (l.getD i.toNat wt.dflt) + (Nat.cast ((fW n (l.getD i.toNat wt.dflt)).size) : Int) ≤ (Nat.cast (j) : Int) ∧ j ≤ w.length ∧ j ≤ 4194304) && true then (some (Ex.normal, [V.si IntKind.i64 n, V.slst Tag.ro wt l, V.slst Tag.ro Ty.bool ks, V.si IntKind.i64 torn, V.b true, V.ptr (0 : Nat) (0 : Nat), V.bs true (0 : Nat) (0 : Nat) j, V.si IntKind.i64 last, V.slst Tag.ro ity ([i] ++ c), V.si IntKind.i64 (IntKind.i64.wrap (i + (1 : Int)))], [some [V.b false, V.i IntKind.i64 (0 : Int), V.bs true (1 : Nat) (0 : Nat) n1, V.bs true (2 : Nat) (0 : Nat) n2, V.bs true (3 : Nat) (0 : Nat) (m + 1)]], [some (Bf.live (BC.arr (Ty.int IntKind.u8) (putN w (oW n (l.getD i.toNat wt.dflt)).toNat (fW n (l.getD i.toNat wt.dflt)) (fW n (l.getD i.toNat wt.dflt)).size))), some (Bf.live (BC.arr bty d)), some (Bf.live (BC.arr bty (cpy v (oW n (l.getD i.toNat wt.dflt)).toNat n2 (bytesOf (fW n (l.getD i.toNat wt.dflt)))))), some (Bf.live (BC.arr wp (List.take m q ++ [mkP (oW n (l.getD i.toNat wt.dflt)) (fW n (l.getD i.toNat wt.dflt))])))], (158 : Nat), (0 : Nat), (0 : Nat))) else none)) else none) else (some (Ex.normal, [V.si IntKind.i64 n, V.slst Tag.ro wt l, V.slst Tag.ro Ty.bool ks, V.si IntKind.i64 torn, V.b true, V.ptr (0 : Nat) (0 : Nat), V.bs true (0 : Nat) (0 : Nat) j, V.si IntKind.i64 last, V.slst Tag.ro ity c, V.si IntKind.i64 (IntKind.i64.wrap (i + (1 : Int)))], [some [V.b false, V.i IntKind.i64 (0 : Int), V.bs true (1 : Nat) (0 : Nat) n1, V.bs true (2 : Nat) (0 : Nat) n2, V.bs true (3 : Nat) (0 : Nat) (m + 1)]], [some (Bf.live (BC.arr bty w)), some (Bf.live (BC.arr bty d)), some (Bf.live (BC.arr bty (cpy v (oW n (l.getD i.toNat wt.dflt)).toNat n2 (bytesOf (fW n (l.getD i.toNat wt.dflt)))))), some (Bf.live (BC.arr wp (List.take m q ++ [mkP (oW n (l.getD i.toNat wt.dflt)) (fW n (l.getD i.toNat wt.dflt))])))], (158 : Nat), (0 : Nat), (0 : Nat)))) else none) else (some (Ex.normal, [V.si IntKind.i64 n, V.slst Tag.ro wt l, V.slst Tag.ro Ty.bool ks, V.si IntKind.i64 torn, V.b true, V.ptr (0 : Nat) (0 : Nat), V.bs true (0 : Nat) (0 : Nat) j, V.si IntKind.i64 last, V.slst Tag.ro ity c, V.si IntKind.i64 (IntKind.i64.wrap (i + (1 : Int)))], [some [V.b false, V.i IntKind.i64 (0 : Int), V.bs true (1 : Nat) (0 : Nat) n1, V.bs true (2 : Nat) (0 : Nat) n2, V.bs true (3 : Nat) (0 : Nat) (m + 1)]], [some (Bf.live (BC.arr bty w)), some (Bf.live (BC.arr bty d)), some (Bf.live (BC.arr bty (cpy v (oW n (l.getD i.toNat wt.dflt)).toNat n2 (bytesOf (fW n (l.getD i.toNat wt.dflt)))))), some (Bf.live (BC.arr wp (List.take m q ++ [mkP (oW n (l.getD i.toNat wt.dflt)) (fW n (l.getD i.toNat wt.dflt))])))], (158 : Nat), (0 : Nat), (0 : Nat)))) else none) else none) else none) else (some (Ex.exit (4 : Nat), [V.si IntKind.i64 n, V.si IntKind.i64 torn, V.b true, V.ptr (0 : Nat) (0 : Nat), V.bs true (0 : Nat) (0 : Nat) j, V.slst Tag.ro ity c], [some [V.b false, V.i IntKind.i64 (0 : Int), V.bs true (1 : Nat) (0 : Nat) n1, V.bs true (2 : Nat) (0 : Nat) n2, V.bs true (3 : Nat) (0 : Nat) m]], [some (Bf.live (BC.arr bty w)), some (Bf.live (BC.arr bty d)), some (Bf.live (BC.arr bty v)), some (Bf.live (BC.arr wp q))], (158 : Nat), (0 : Nat), (0 : Nat)))) else (some (Ex.exit (4 : Nat), [V.si IntKind.i64 n, V.si IntKind.i64 torn, V.b true, V.ptr (0 : Nat) (0 : Nat), V.bs true (0 : Nat) (0 : Nat) j, V.slst Tag.ro ity c], [some [V.b false, V.i IntKind.i64 (0 : Int), V.bs true (1 : Nat) (0 : Nat) n1, V.bs true (2 : Nat) (0 : Nat) n2, V.bs true (3 : Nat) (0 : Nat) m]], [some (Bf.live (BC.arr bty w)), some (Bf.live (BC.arr bty d)), some (Bf.live (BC.arr bty v)), some (Bf.live (BC.arr wp q))], (158 : Nat), (0 : Nat), (0 : Nat)))) := by kernel_rfl
theorem rn_bc_c (n : Int) (l : List (Ty.den wt)) (ks : List Bool) (torn last i : Int) (c : List Int) (j n1 n2 m : Nat) (w d v : List Int) (q : List (Ty.den wp)) {e : Ex} {vs : List V} {ob : Ob} {nm : Nm} {n' kh kt : Nat} (h : (rn_bc n l ks torn last i c j n1 n2 m w d v q).run = some (e, vs, ob, nm, n', kh, kt)) : SemC Try.prog Γ (lp 8 2) (st_bc n l ks torn last i c j n1 n2 m w d v q) e.to (St.of n' (lve_bc e) vs ob nm kh kt) := SemC.of_evM cfgN_ok Try.func8 bd_bc li_bc h
/-- What the rounds make of the pending writes, the visible content, the expected one, and the list of numbers. -/
def qB (n : Int) (l : List (Ty.den wt)) (q : List (Ty.den wp)) : Nat → List (Ty.den wp)
  | 0 => q
  | i + 1 => List.take i (qB n l q i) ++ [mkP (oW n (l.getD i wt.dflt)) (fW n (l.getD i wt.dflt))]
def vB (n : Int) (l : List (Ty.den wt)) (v : List Int) : Nat → List Int
  | 0 => v
  | i + 1 => cpy (vB n l v i) (oW n (l.getD i wt.dflt)).toNat n.toNat (bytesOf (fW n (l.getD i wt.dflt)))
def sW (torn last n : Int) (i : Nat) (w : Ty.den wt) : ByteArray := if (i : Int) = last ∧ torn ≥ 0 then tW torn n w else fW n w
def wB (n : Int) (l : List (Ty.den wt)) (ks : List Bool) (torn last : Int) (w : List Int) : Nat → List Int
  | 0 => w
  | i + 1 => if kb ks i = true then putN (wB n l ks torn last w i) (oW n (l.getD i wt.dflt)).toNat (sW torn last n i (l.getD i wt.dflt)) (sW torn last n i (l.getD i wt.dflt)).size else wB n l ks torn last w i
def cB (ks : List Bool) : Nat → List Int
  | 0 => []
  | i + 1 => if kb ks i = true then (i : Int) :: cB ks i else cB ks i
theorem qB_len (n : Int) (l : List (Ty.den wt)) (q : List (Ty.den wp)) : ∀ i, i ≤ (qB n l q i).length
  | 0 => Nat.zero_le _
  | i + 1 => by have := qB_len n l q i; simp only [qB, List.length_append, List.length_take, List.length_singleton]; omega
theorem cB_len (ks : List Bool) : ∀ i, (cB ks i).length ≤ i
  | 0 => Nat.le_refl _
  | i + 1 => by have := cB_len ks i; simp only [cB]; split <;> simp <;> omega
theorem fW_fit {w : Ty.den wt} {n : Int} (hn : 0 ≤ n) : 0 ≤ oW n w ∧ oW n w + ((fW n w).size : Int) ≤ n := fs_fit hn
theorem tm_in (torn : Int) (s : ByteArray) (h : torn ≥ 0) : 0 ≤ tm torn s ∧ tm torn s ≤ s.size := by unfold tm; split <;> omega
theorem tW_size {torn n : Int} {w : Ty.den wt} (h : torn ≥ 0) : (tW torn n w).size ≤ (fW n w).size := by
  have := tm_in torn (fW n w) h
  unfold tW
  rw [ByteArray.size_extract]
  omega
theorem sW_size {torn last n : Int} {i : Nat} {w : Ty.den wt} : (sW torn last n i w).size ≤ (fW n w).size := by
  unfold sW
  split
  · rename_i h; exact tW_size h.2
  · exact Nat.le_refl _
theorem wB_len {n : Int} {l : List (Ty.den wt)} {ks : List Bool} {torn last : Int} {w : List Int} (hn : 0 ≤ n) (hw : w.length = n.toNat) : ∀ i, (wB n l ks torn last w i).length = n.toNat
  | 0 => hw
  | i + 1 => by
    have ih := wB_len (l := l) (ks := ks) (torn := torn) (last := last) hn hw i
    have hf := fW_fit (w := l.getD i wt.dflt) hn
    have hs := sW_size (torn := torn) (last := last) (n := n) (i := i) (w := l.getD i wt.dflt)
    simp only [wB]
    split
    · rw [putN_len (by omega) (Nat.le_refl _), ih]
    · exact ih
theorem vB_len {n : Int} {l : List (Ty.den wt)} {v : List Int} (hn : 0 ≤ n) (hv : v.length = n.toNat) : ∀ i, (vB n l v i).length = n.toNat
  | 0 => hv
  | i + 1 => by
    have ih := vB_len (l := l) hn hv i
    have hf := fW_fit (w := l.getD i wt.dflt) hn
    simp only [vB]
    rw [cpy_len (by omega) (by omega), ih]
theorem qB_off {n : Int} {l : List (Ty.den wt)} {q : List (Ty.den wp)} (hn : 0 ≤ n) (hq : ∀ x ∈ q, 0 ≤ offs x ∧ offs x ≤ n) : ∀ i, ∀ x ∈ qB n l q i, 0 ≤ offs x ∧ offs x ≤ n
  | 0 => hq
  | i + 1 => by
    intro x hx
    simp only [qB] at hx
    rw [List.mem_append, List.mem_singleton] at hx
    rcases hx with hx | rfl
    · exact qB_off hn hq i x (List.mem_of_mem_take hx)
    · have hf := fW_fit (w := l.getD i wt.dflt) hn
      exact ⟨hf.1, by show oW n _ ≤ n; omega⟩
abbrev pre_bc (n : Int) (l : List (Ty.den wt)) (ks : List Bool) (torn last i : Int) (c : List Int) (j n1 n2 m : Nat) (w d v : List Int) (q : List (Ty.den wp)) : Prop := i = 0 ∧ m = 0 ∧ c.length = 0 ∧ n1 = n.toNat ∧ n2 = n.toNat ∧ j = n.toNat ∧ 1 ≤ n ∧ n ≤ 100 ∧ w.length = n.toNat ∧ d.length = n.toNat ∧ v.length = n.toNat ∧ (∀ x ∈ q, 0 ≤ offs x ∧ offs x ≤ n) ∧ ∀ w ∈ l, inr (wO w) = true
def rs_bc (n : Int) (l : List (Ty.den wt)) (ks : List Bool) (torn last i : Int) (c : List Int) (j n1 n2 m : Nat) (w d v : List Int) (q : List (Ty.den wp)) : Ex × St := (.exit 4, St.of 158 (lve_bc (.exit 4)) [.si .i64 n, .si .i64 torn, .b true, .ptr 0 0, .bs true 0 0 j, .slst .ro ity (cB ks (min 20 l.length))] [some [.b false, .i .i64 0, .bs true 1 0 n1, .bs true 2 0 n2, .bs true 3 0 (min 20 l.length)]] [some (.live (.arr bty (wB n l ks torn last w (min 20 l.length)))), some (.live (.arr bty d)), some (.live (.arr bty (vB n l v (min 20 l.length)))), some (.live (.arr wp (qB n l q (min 20 l.length))))] hp_bc.kh hp_bc.kt)
def res_bc (n : Int) (l : List (Ty.den wt)) (ks : List Bool) (torn last i : Int) (c : List Int) (j n1 n2 m : Nat) (w d v : List Int) (q : List (Ty.den wp)) : Tr (Ex × St) := .br (decide (pre_bc n l ks torn last i c j n1 n2 m w d v q)) (.leaf (some (.exit 4, St.of 158 (lve_bc (.exit 4)) [.si .i64 n, .si .i64 torn, .b true, .ptr 0 0, .bs true 0 0 j, .slst .ro ity (cB ks (min 20 l.length))] [some [.b false, .i .i64 0, .bs true 1 0 n1, .bs true 2 0 n2, .bs true 3 0 (min 20 l.length)]] [some (.live (.arr bty (wB n l ks torn last w (min 20 l.length)))), some (.live (.arr bty d)), some (.live (.arr bty (vB n l v (min 20 l.length)))), some (.live (.arr wp (qB n l q (min 20 l.length))))] hp_bc.kh hp_bc.kt))) (.leaf none)
theorem res_bc_run (n : Int) (l : List (Ty.den wt)) (ks : List Bool) (torn last i : Int) (c : List Int) (j n1 n2 m : Nat) (w d v : List Int) (q : List (Ty.den wp)) (h : pre_bc n l ks torn last i c j n1 n2 m w d v q) : (res_bc n l ks torn last i c j n1 n2 m w d v q).run = some (rs_bc n l ks torn last i c j n1 n2 m w d v q) := by
  unfold res_bc rs_bc
  rw [decide_eq_true h]
  exact rfl
theorem res_bc_no (n : Int) (l : List (Ty.den wt)) (ks : List Bool) (torn last i : Int) (c : List Int) (j n1 n2 m : Nat) (w d v : List Int) (q : List (Ty.den wp)) (h : ¬ pre_bc n l ks torn last i c j n1 n2 m w d v q) : (res_bc n l ks torn last i c j n1 n2 m w d v q).run = none := Tr.run_no h
def ent_bc : LEnt := LEnt.by hp_bc fun ⟨(n, l, ks, torn, _, _, j, last, c, i, _), ((_, _, n1, n2, m, _), _), (w, d, v, q, _)⟩ => res_bc n l ks torn last i c j n1 n2 m w d v q
theorem ent_bc_ok (hgo : ∀ (n : Int) (l : List (Ty.den wt)) (ks : List Bool) (torn last i : Int) (c : List Int) (j n1 n2 m : Nat) (w d v : List Int) (q : List (Ty.den wp)), pre_bc n l ks torn last i c j n1 n2 m w d v q → SemL Try.prog Γ (lp 8 2) (st_bc n l ks torn last i c j n1 n2 m w d v q) (rs_bc n l ks torn last i c j n1 n2 m w d v q).1.to (rs_bc n l ks torn last i c j n1 n2 m w d v q).2) : EntOk Try.prog Γ (lp 8 2) ent_bc := LEnt.by_ok fun ⟨(n, l, ks, torn, _, _, j, last, c, i, _), ((_, _, n1, n2, m, _), _), (w, d, v, q, _)⟩ ex_ s_ h_ => by
  have h_ : (res_bc n l ks torn last i c j n1 n2 m w d v q).run = some (ex_, s_) := h_
  by_cases hp_ : pre_bc n l ks torn last i c j n1 n2 m w d v q
  · rw [res_bc_run n l ks torn last i c j n1 n2 m w d v q hp_] at h_
    obtain ⟨rfl, rfl⟩ := Prod.mk.inj (Option.some.inj h_)
    exact hgo n l ks torn last i c j n1 n2 m w d v q hp_
  · rw [res_bc_no n l ks torn last i c j n1 n2 m w d v q hp_] at h_
    cases h_
theorem bc_go (n : Int) (l : List (Ty.den wt)) (ks : List Bool) (torn last i : Int) (c : List Int) (j n1 n2 m : Nat) (w d v : List Int) (q : List (Ty.den wp)) (h : pre_bc n l ks torn last i c j n1 n2 m w d v q) : SemL Try.prog Γ (lp 8 2) (st_bc n l ks torn last i c j n1 n2 m w d v q) (rs_bc n l ks torn last i c j n1 n2 m w d v q).1.to (rs_bc n l ks torn last i c j n1 n2 m w d v q).2 := by
  obtain ⟨rfl, rfl, hc, rfl, rfl, rfl, h1, h2, hw, hd, hv, hq, hl⟩ := h
  obtain rfl : c = [] := List.length_eq_zero_iff.1 hc
  refine SemL.scan (P := Try.prog) (Γ := Γ) (b := lp 8 2) (min 20 l.length) 0 (Nat.zero_le _) (fun i => st_bc n l ks torn last (i : Nat) (cB ks i) n.toNat n.toNat n.toNat i (wB n l ks torn last w i) d (vB n l v i) (qB n l q i)) (fun _ => true) _ ?_ ?_ ?_
  · intro i _ hi _ _
    refine rn_bc_c n l ks torn last i (cB ks i) n.toNat n.toNat n.toNat i (wB n l ks torn last w i) d (vB n l v i) (qB n l q i) (e := .normal) ?_
    have hw1 : IntKind.i64.wrap ((i : Int) + 1) = ((i + 1 : Nat) : Int) := by rw [wrap_in (by omega) (by omega)]; rfl
    have hin : inr (wO (l.getD i wt.dflt)) = true := by
      have : l.getD i wt.dflt = l[i]'(by omega) := by rw [List.getD_eq_getElem?_getD, List.getElem?_eq_getElem (by omega), Option.getD_some]
      rw [this]; exact hl _ (List.getElem_mem _)
    have hf := fW_fit (w := l.getD i wt.dflt) (n := n) (by omega)
    have hnn : ((n.toNat : Nat) : Int) = n := by omega
    have hqo := qB_off (l := l) (by omega) hq i
    have hwl := wB_len (l := l) (ks := ks) (torn := torn) (last := last) (by omega) hw i
    have hcl := cB_len ks i
    have c1 : cn_g21 (oW n (l.getD i wt.dflt)) (fW n (l.getD i wt.dflt)) n.toNat n.toNat i d (vB n l v i) (qB n l q i) :=
      ⟨⟨qB_len n l q i, hd, vB_len (by omega) hv i, rfl, by rw [hnn]; exact hqo⟩, by omega, by omega, hf.1, by omega⟩
    have ev : vB n l v (i + 1) = cpy (vB n l v i) (oW n (l.getD i wt.dflt)).toNat n.toNat (bytesOf (fW n (l.getD i wt.dflt))) := rfl
    have eq : qB n l q (i + 1) = List.take i (qB n l q i) ++ [mkP (oW n (l.getD i wt.dflt)) (fW n (l.getD i wt.dflt))] := rfl
    rw [rn_bc_eq, hw1, Int.toNat_natCast, decide_eq_true (by omega : (i : Int) < l.length), decide_eq_true (by omega : (i : Int) < 20), decide_eq_true (by omega : (0 : Int) ≤ i ∧ (i : Int) < l.length), hin, decide_eq_true (by omega : 0 ≤ n ∧ n ≤ 4194304), decide_eq_true c1, ev, eq]
    by_cases hk : i < ks.length
    · rw [decide_eq_true (by omega : (i : Int) < (ks.length : Int)), decide_eq_true (by omega : (0 : Int) ≤ i ∧ (i : Int) < (ks.length : Int))]
      have hkb : kb ks i = ks.getD i false := by unfold kb; rw [decide_eq_true hk, Bool.true_and]
      cases hg : ks.getD i false with
      | true =>
        rw [hg] at hkb
        have ec : cB ks (i + 1) = [(i : Int)] ++ cB ks i := if_pos hkb
        have ew : wB n l ks torn last w (i + 1) = putN (wB n l ks torn last w i) (oW n (l.getD i wt.dflt)).toNat (sW torn last n i (l.getD i wt.dflt)) (sW torn last n i (l.getD i wt.dflt)).size := if_pos hkb
        rw [ec, ew, decide_eq_true (by omega : (1 + (cB ks i).length) * 2 * 8 ≤ 281474976710656)]
        by_cases hla : (i : Int) = last
        · by_cases ht : torn ≥ 0
          · have hs : sW torn last n i (l.getD i wt.dflt) = tW torn n (l.getD i wt.dflt) := if_pos ⟨hla, ht⟩
            have htm := tm_in torn (fW n (l.getD i wt.dflt)) ht
            have hts := tW_size (n := n) (w := l.getD i wt.dflt) ht
            rw [hs, show ((i : Int) == last) = true from beq_iff_eq.2 hla, decide_eq_true ht, decide_eq_true (by omega), decide_eq_true (by omega)]
            rfl
          · have hs : sW torn last n i (l.getD i wt.dflt) = fW n (l.getD i wt.dflt) := if_neg (fun h => ht h.2)
            rw [hs, show ((i : Int) == last) = true from beq_iff_eq.2 hla, decide_eq_false ht, decide_eq_true (by omega : 0 ≤ oW n (l.getD i wt.dflt) ∧ oW n (l.getD i wt.dflt) + ((fW n (l.getD i wt.dflt)).size : Int) ≤ ((n.toNat : Nat) : Int) ∧ n.toNat ≤ (wB n l ks torn last w i).length ∧ n.toNat ≤ 4194304)]
            rfl
        · have hs : sW torn last n i (l.getD i wt.dflt) = fW n (l.getD i wt.dflt) := if_neg (fun h => hla h.1)
          rw [hs, show ((i : Int) == last) = false from beq_eq_false_iff_ne.2 hla, decide_eq_true (by omega : 0 ≤ oW n (l.getD i wt.dflt) ∧ oW n (l.getD i wt.dflt) + ((fW n (l.getD i wt.dflt)).size : Int) ≤ ((n.toNat : Nat) : Int) ∧ n.toNat ≤ (wB n l ks torn last w i).length ∧ n.toNat ≤ 4194304)]
          rfl
      | false =>
        rw [hg] at hkb
        have ec : cB ks (i + 1) = cB ks i := if_neg (by rw [hkb]; decide)
        have ew : wB n l ks torn last w (i + 1) = wB n l ks torn last w i := if_neg (by rw [hkb]; decide)
        rw [ec, ew]
        rfl
    · have hkb : kb ks i = false := by unfold kb; rw [decide_eq_false hk, Bool.false_and]
      have ec : cB ks (i + 1) = cB ks i := if_neg (by rw [hkb]; decide)
      have ew : wB n l ks torn last w (i + 1) = wB n l ks torn last w i := if_neg (by rw [hkb]; decide)
      rw [decide_eq_false (by omega : ¬ (i : Int) < (ks.length : Int)), ec, ew]
      rfl
  · intro i _ _ _ h; cases h
  · intro _
    refine ⟨by simp [rs_bc, Ex.to], rn_bc_c n l ks torn last (min 20 l.length : Nat) (cB ks (min 20 l.length)) n.toNat n.toNat n.toNat (min 20 l.length) _ d _ _ (e := .exit 4) ?_⟩
    rw [rn_bc_eq]
    by_cases h60 : l.length < 20
    · rw [decide_eq_false (by omega)]; rfl
    · rw [decide_eq_false (p := (((min 20 l.length : Nat) : Int) < 20)) (by omega)]
      cases decide (((min 20 l.length : Nat) : Int) < (l.length : Int)) <;> rfl
def loB : LOrc := (LOrc.add (LOrc.add (LOrc.add loG 8 0 ent_ba) 8 1 ent_bb) 8 2 ent_bc)
theorem loB_ok : LOrcOk Try.prog Γ loB := (LOrcOk.add (LOrcOk.add (LOrcOk.add loG_ok 8 0 Try.func8 bd_ba le_ba (ent_ba_ok ba_go)) 8 1 Try.func8 bd_bb le_bb (ent_bb_ok bb_go)) 8 2 Try.func8 bd_bc le_bc (ent_bc_ok bc_go))
noncomputable def cfgB : Cfg := { cfgN with lo := loB, wy := wy7 }
theorem cfgB_ok : CfgOk Try.prog Γ cfgB := { cfgN_ok with lo := loB_ok }
-- 
-- 
-- 
theorem law8_run (n : Int) (l : List (Ty.den wt)) (ks : List Bool) (torn : Int) : run cfgB 8 [.si .i64 n, .slst .ro wt l, .slst .ro .bool ks, .si .i64 torn] = .ok (some (inr n && decide ((100 : Int) ≠ (0 : Int)) && (!decide (sz n 100 < (1 : Int)) && (some (!decide (sz n 100 > (4194304 : Int)) && (some (decide ((0 : Int) ≤ sz n 100 ∧ sz n 100 ≤ sz n 100 ∧ (1 : Int) * sz n 100 ≤ (281474976710656 : Int) ∧ sz n 100 ≤ (9223372036854775807 : Int)) && (some (decide ((0 : Int) ≤ sz n 100 ∧ sz n 100 ≤ sz n 100 ∧ (1 : Int) * sz n 100 ≤ (281474976710656 : Int) ∧ sz n 100 ≤ (9223372036854775807 : Int)) && true)).getD true)).getD true)).getD true && (decide ((0 : Int) ≤ sz n 100 ∧ sz n 100 ≤ sz n 100 ∧ (1 : Int) * sz n 100 ≤ (281474976710656 : Int) ∧ sz n 100 ≤ (9223372036854775807 : Int)) && (decide (pre_ba (sz n 100) l ks torn (0 : Int) (sz n 100).toNat (sz n 100).toNat (sz n 100).toNat (rep (sz n 100)) (rep (sz n 100)) (rep (sz n 100))) && (decide (cn_g21n (0 : Int) (strOfNums (List.take (sz n 100).toNat (List.drop (0) (wn (sz n 100).toNat)))) (sz n 100).toNat (sz n 100).toNat (rep (sz n 100)) (rep (sz n 100))) && (decide (cn_g23 (sz n 100).toNat (sz n 100).toNat (1) (rep (sz n 100)) (cpy (rep (sz n 100)) (0 : Nat) (sz n 100).toNat (bytesOf (strOfNums (List.take (sz n 100).toNat (List.drop (0) (wn (sz n 100).toNat)))))) [mkP 0 (strOfNums (List.take (sz n 100).toNat (List.drop (0) (wn (sz n 100).toNat))))]) && (decide (pre_bb (sz n 100) l ks torn (-1 : Int) (0 : Int) (sz n 100).toNat (sz n 100).toNat (sz n 100).toNat (0) (wn (sz n 100).toNat) (cpy (rep (sz n 100)) (0 : Nat) (sz n 100).toNat (bytesOf (strOfNums (List.take (sz n 100).toNat (List.drop (0) (wn (sz n 100).toNat)))))) (cpy (rep (sz n 100)) (0 : Nat) (sz n 100).toNat (bytesOf (strOfNums (List.take (sz n 100).toNat (List.drop (0) (wn (sz n 100).toNat)))))) (qS [mkP 0 (strOfNums (List.take (sz n 100).toNat (List.drop (0) (wn (sz n 100).toNat))))] (1))) && (decide (pre_bc (sz n 100) l ks torn (lastK ks (min (20) l.length)) (0 : Int) [] (sz n 100).toNat (sz n 100).toNat (sz n 100).toNat (0) (wn (sz n 100).toNat) (cpy (rep (sz n 100)) (0 : Nat) (sz n 100).toNat (bytesOf (strOfNums (List.take (sz n 100).toNat (List.drop (0) (wn (sz n 100).toNat)))))) (cpy (rep (sz n 100)) (0 : Nat) (sz n 100).toNat (bytesOf (strOfNums (List.take (sz n 100).toNat (List.drop (0) (wn (sz n 100).toNat)))))) (qS [mkP 0 (strOfNums (List.take (sz n 100).toNat (List.drop (0) (wn (sz n 100).toNat))))] (1))) && (decide (cn_g25b torn (0 : Int) false (sz n 100).toNat (sz n 100).toNat (min (20) l.length) (cB ks (min (20) l.length)) (cpy (rep (sz n 100)) (0 : Nat) (sz n 100).toNat (bytesOf (strOfNums (List.take (sz n 100).toNat (List.drop (0) (wn (sz n 100).toNat)))))) (vB (sz n 100) l (cpy (rep (sz n 100)) (0 : Nat) (sz n 100).toNat (bytesOf (strOfNums (List.take (sz n 100).toNat (List.drop (0) (wn (sz n 100).toNat)))))) (min (20) l.length)) (qB (sz n 100) l (qS [mkP 0 (strOfNums (List.take (sz n 100).toNat (List.drop (0) (wn (sz n 100).toNat))))] (1)) (min (20) l.length))) && decide ((0 : Int) ≤ sz n 100 ∧ sz n 100 ≤ (Nat.cast ((List.take (sz n 100).toNat (List.drop (0) (crd torn (qB (sz n 100) l (qS [mkP 0 (strOfNums (List.take (sz n 100).toNat (List.drop (0) (wn (sz n 100).toNat))))] (1)) (min (20) l.length)) (min (20) l.length) (cB ks (min (20) l.length)) (cpy (rep (sz n 100)) (0 : Nat) (sz n 100).toNat (bytesOf (strOfNums (List.take (sz n 100).toNat (List.drop (0) (wn (sz n 100).toNat))))))))).length) : Int) ∧ sz n 100 ≤ (Nat.cast ((List.take (sz n 100).toNat (List.drop (0) (crd torn (qB (sz n 100) l (qS [mkP 0 (strOfNums (List.take (sz n 100).toNat (List.drop (0) (wn (sz n 100).toNat))))] (1)) (min (20) l.length)) (min (20) l.length) (cB ks (min (20) l.length)) (cpy (rep (sz n 100)) (0 : Nat) (sz n 100).toNat (bytesOf (strOfNums (List.take (sz n 100).toNat (List.drop (0) (wn (sz n 100).toNat))))))))).length) : Int) ∧ (List.take (sz n 100).toNat (List.drop (0) (crd torn (qB (sz n 100) l (qS [mkP 0 (strOfNums (List.take (sz n 100).toNat (List.drop (0) (wn (sz n 100).toNat))))] (1)) (min (20) l.length)) (min (20) l.length) (cB ks (min (20) l.length)) (cpy (rep (sz n 100)) (0 : Nat) (sz n 100).toNat (bytesOf (strOfNums (List.take (sz n 100).toNat (List.drop (0) (wn (sz n 100).toNat))))))))).length ≤ 4194304))))))))))) (V.sb (bif true then (strOfNums (List.take (sz n 100).toNat (List.take (sz n 100).toNat (List.drop (0) (crd torn (qB (sz n 100) l (qS [mkP 0 (strOfNums (List.take (sz n 100).toNat (List.drop (0) (wn (sz n 100).toNat))))] (1)) (min (20) l.length)) (min (20) l.length) (cB ks (min (20) l.length)) (cpy (rep (sz n 100)) (0 : Nat) (sz n 100).toNat (bytesOf (strOfNums (List.take (sz n 100).toNat (List.drop (0) (wn (sz n 100).toNat))))))))))).toList == (strOfNums (List.take (sz n 100).toNat (List.drop (0) (wB (sz n 100) l ks torn (lastK ks (min (20) l.length)) (wn (sz n 100).toNat) (min (20) l.length))))).toList else false)) := by kernel_rfl
end D
end Go.Proofs.Ytnjjkobijjdnbaa

/- Package disk: DiskAllSurvive, the law. -/
set_option linter.unusedVariables false
set_option linter.unusedSimpArgs false
set_option maxRecDepth 100000
set_option maxHeartbeats 4000000
namespace Go.Proofs.Ytnjjkobijjdnbaa
open Go
namespace D
theorem upto_len (m : Nat) : (upto m).length = m := by simp [upto]
theorem upto_get {m r : Nat} (h : r < m) : (upto m).getD r 0 = (r : Int) := by
  rw [List.getD_eq_getElem?_getD]
  simp [upto, h]
theorem upto_sorted (m : Nat) : (upto m).Pairwise (fun a b => decide (a ≤ b) = true) := by
  unfold upto
  rw [List.pairwise_map]
  exact List.pairwise_lt_range.imp (fun h => decide_eq_true (by omega))
theorem sort_upto (m : Nat) : sortI (upto m) = upto m := List.mergeSort_of_pairwise (upto_sorted m)
theorem dd_upto (m : Nat) : ∀ p, p ≤ m → dd (upto m) p = (upto m).take p
  | 0, _ => by simp [dd]
  | p + 1, hp => by
    have h1 : (upto m).getD p 0 = (p : Int) := upto_get (by omega)
    have hc : p = 0 ∨ (upto m).getD p 0 ≠ (upto m).getD (p - 1) 0 := by
      by_cases h0 : p = 0
      · exact .inl h0
      · right
        rw [h1, upto_get (by omega)]
        omega
    show (if _ then _ else _) = _
    rw [if_pos hc, dd_upto m p (by omega), List.take_add_one]
    congr 1
    rw [List.getD_eq_getElem?_getD] at h1
    have hlt : p < (upto m).length := by rw [upto_len]; omega
    rw [List.getElem?_eq_getElem hlt]
    simp [List.getD, hlt]
theorem ord_upto (m : Nat) : ordO m (upto m) = upto m := by
  unfold ordO
  rw [sort_upto, upto_len, dd_upto m m (Nat.le_refl _), List.take_of_length_le (by rw [upto_len]; exact Nat.le_refl _), List.filter_eq_self]
  intro x hx
  unfold upto at hx
  rw [List.mem_map] at hx
  obtain ⟨k, hk, rfl⟩ := hx
  rw [List.mem_range] at hk
  unfold out
  rw [decide_eq_false (by omega), decide_eq_false (by omega)]
  rfl
theorem crs_upto {torn : Int} (ht : ¬ torn ≥ 0) {q : List (Ty.den wp)} {m n1 j : Nat} {d : List Int} : ∀ i, i ≤ m → crs torn q (upto m) n1 j i d = app q n1 i d
  | 0, _ => rfl
  | i + 1, hi => by
    have e : Int.toNat ((upto m).getD (0 + (i : Int).toNat) 0) = i := by rw [Int.toNat_natCast, Nat.zero_add, upto_get (by omega)]; rfl
    simp only [crs, app]
    rw [crs_upto ht i (by omega), if_neg (fun h => ht h.2)]
    unfold peO peS offs pS'
    rw [e, Nat.zero_add]
theorem crd_upto {torn : Int} (ht : ¬ torn ≥ 0) {q : List (Ty.den wp)} {m : Nat} {d : List Int} : crd torn q m (upto m) d = app q d.length m d := by
  unfold crd
  rw [ord_upto, upto_len, crs_upto ht m (Nat.le_refl _)]
theorem crd_nil (torn : Int) (q : List (Ty.den wp)) (m : Nat) (d : List Int) : crd torn q m [] d = d := by
  have : ordO m [] = [] := by unfold ordO; rfl
  unfold crd
  rw [this]
  rfl
theorem law9 (n : Int) (l : List (Ty.den wt)) (hn : inr n = true) (hl : ∀ w ∈ l, inr (wO w) = true) : SemF Try.prog G0 9 [.si .i64 n, .slst .ro wt l] [] [] (.sb true) [] [] := by
  obtain ⟨h1, h2⟩ := sz_in (n := n) (m := 300) (by decide) (by decide)
  have hz : (z9 n l).ok (sz n 300) (min 60 l.length) := DZ.at_ok (l := l) h1 (as_ok0 (rep_len _)) _
  obtain ⟨mi, mq, dl, vl, qo, ap⟩ := hz
  generalize hZ : z9 n l = z at *
  generalize hN : sz n 300 = N at *
  have hnn : ((N.toNat : Nat) : Int) = N := by omega
  have hu : List.take z.m (upto z.m) = upto z.m := List.take_of_length_le (by rw [upto_len]; exact Nat.le_refl _)
  have hc : crd (-1) z.q z.m (upto z.m) z.d = z.v := by rw [crd_upto (by decide), dl, ← ap]
  have run := law9_run n l
  rw [hZ, hN, hu, hc, crd_nil] at run
  have tv : List.take N.toNat z.v = z.v := List.take_of_length_le (by omega)
  have td : List.take N.toNat z.d = z.d := List.take_of_length_le (by omega)
  simp only [List.drop_zero, tv, td, vl, dl, hnn] at run
  have p1 : pre_as N l 0 N.toNat N.toNat 0 (rep N) (rep N) [] := ⟨rfl, rfl, rfl, rfl, h1, h2, rep_len _, rfl, rfl, hl⟩
  have p2 : pre_al N (strOfNums z.v) 0 0 0 N.toNat N.toNat z.m z.d z.v z.q [] := ⟨rfl, rfl, rfl, mq, by omega⟩
  have p3 : cn_g25a (-1) 0 false z.m N.toNat N.toNat z.m (upto z.m) z.d z.v z.q := ⟨by rw [upto_len]; exact Nat.le_refl _, by omega, mq, dl, vl, rfl, by rw [hnn]; exact qo⟩
  have p4 : cn_g25b 0 0 false N.toNat N.toNat 0 [] z.v z.v (qS z.q z.m) := ⟨Nat.zero_le _, Nat.zero_le _, vl, vl, rfl, fun x hx => by
    rw [hnn]
    exact (qS_mem hx).elim (qo x) (fun e => by subst e; exact ⟨Int.le_refl 0, by show (0 : Int) ≤ N; omega⟩)⟩
  refine of_run cfgA_ok run ?_ ?_
  · rw [hn, decide_eq_true p1, decide_eq_true p2, decide_eq_true p3, decide_eq_true p4, decide_eq_false (by omega : ¬ N < 1), decide_eq_false (by omega : ¬ N > 4194304), decide_eq_true (by omega : (0 : Int) ≤ N ∧ N ≤ N ∧ 1 * N ≤ 281474976710656 ∧ N ≤ 9223372036854775807), decide_eq_true (by omega : (0 : Int) ≤ N ∧ N ≤ N ∧ N ≤ N ∧ N.toNat ≤ 4194304)]
    rfl
  · simp
end D
end Go.Proofs.Ytnjjkobijjdnbaa

/- Package disk: DiskCrashBytes, the law. -/
set_option linter.unusedVariables false
set_option linter.unusedSimpArgs false
set_option maxRecDepth 100000
set_option maxHeartbeats 4000000
namespace Go.Proofs.Ytnjjkobijjdnbaa
open Go
namespace D
theorem bytes_nums {l : List Int} (h : ∀ x ∈ l, 0 ≤ x ∧ x < 256) : bytesOf (strOfNums l) = l := by
  unfold bytesOf strOfNums
  simp only [List.map_map]
  conv => rhs; rw [← List.map_id l]
  apply List.map_congr_left
  intro x hx
  obtain ⟨h1, h2⟩ := h x hx
  simp only [Function.comp, id]
  have : (UInt8.ofNat x.toNat).toNat = x.toNat := by
    rw [UInt8.toNat_ofNat']
    exact Nat.mod_eq_of_lt (by omega)
  rw [this]
  omega
/-- The kept writes' numbers. -/
def kpt (ks : List Bool) (i : Nat) : List Nat := (List.range i).filter (kb ks)
theorem kpt_succ (ks : List Bool) (i : Nat) : kpt ks (i + 1) = kpt ks i ++ (if kb ks i = true then [i] else []) := by
  unfold kpt
  rw [List.range_succ, List.filter_append]
  cases h : kb ks i <;> simp [h]
theorem kpt_lt {ks : List Bool} {i k : Nat} (h : k ∈ kpt ks i) : k < i := by
  unfold kpt at h
  rw [List.mem_filter, List.mem_range] at h
  exact h.1
theorem kpt_sorted (ks : List Bool) (i : Nat) : (kpt ks i).Pairwise (· < ·) := List.pairwise_lt_range.filter _
theorem cB_eq (ks : List Bool) : ∀ i, cB ks i = ((kpt ks i).map (fun k : Nat => (k : Int))).reverse
  | 0 => rfl
  | i + 1 => by
    rw [kpt_succ]
    simp only [cB]
    rw [cB_eq ks i]
    split <;> simp
theorem last_iff (ks : List Bool) : ∀ i r, (hr : r < (kpt ks i).length) → ((((kpt ks i)[r] : Nat) : Int) = lastK ks i ↔ r + 1 = (kpt ks i).length)
  | 0, r, hr => by simp [kpt] at hr
  | i + 1, r, hr => by
    have e := kpt_succ ks i
    have key : ∀ (L : List Nat) (hL : L = kpt ks (i + 1)) (hr : r < L.length), ((L[r] : Nat) : Int) = lastK ks (i + 1) ↔ r + 1 = L.length := by
      intro L hL hr
      rw [e] at hL
      simp only [lastK]
      split at hL
      · rename_i hk
        rw [if_pos hk]
        subst hL
        rw [List.getElem_append]
        split
        · rename_i h
          have := kpt_lt (List.getElem_mem h)
          simp
          omega
        · rename_i h
          simp at hr ⊢
          omega
      · rename_i hk
        rw [if_neg hk]
        rw [List.append_nil] at hL
        subst hL
        exact last_iff ks i r hr
    exact key _ rfl hr
theorem dd_strict {c : List Int} (h : ∀ r, r + 1 < c.length → c.getD (r + 1) 0 ≠ c.getD r 0) : ∀ p, p ≤ c.length → dd c p = c.take p
  | 0, _ => by simp [dd]
  | p + 1, hp => by
    have hc : p = 0 ∨ c.getD p 0 ≠ c.getD (p - 1) 0 := by
      by_cases h0 : p = 0
      · exact .inl h0
      · right
        have := h (p - 1) (by omega)
        rwa [show p - 1 + 1 = p by omega] at this
    show (if _ then _ else _) = _
    rw [if_pos hc, dd_strict h p (by omega), List.take_add_one, List.getElem?_eq_getElem (by omega)]
    simp [List.getD, show p < c.length by omega]
theorem ord_cB (ks : List Bool) (m : Nat) : ordO m (cB ks m) = (kpt ks m).map (fun k : Nat => (k : Int)) := by
  have hs : sortI (cB ks m) = (kpt ks m).map (fun k : Nat => (k : Int)) := by
    refine List.Perm.eq_of_pairwise (le := fun a b => decide (a ≤ b) = true) ?_ ?_ ?_ ?_
    · intro a b _ _ h1 h2
      have := of_decide_eq_true h1
      have := of_decide_eq_true h2
      omega
    · exact List.pairwise_mergeSort (fun a b c h1 h2 => by
        have := of_decide_eq_true h1
        have := of_decide_eq_true h2
        exact decide_eq_true (by omega)) (fun a b => by
        rw [Bool.or_eq_true, decide_eq_true_eq, decide_eq_true_eq]; omega) _
    · rw [List.pairwise_map]
      exact (kpt_sorted ks m).imp (fun h => decide_eq_true (by omega))
    · refine (List.mergeSort_perm _ _).trans ?_
      rw [cB_eq]
      exact List.reverse_perm _
  have hl : (cB ks m).length = ((kpt ks m).map (fun k : Nat => (k : Int))).length := by rw [cB_eq, List.length_reverse]
  unfold ordO
  rw [hs, hl, dd_strict ?_ _ (Nat.le_refl _), List.take_length, List.filter_eq_self]
  · intro x hx
    rw [List.mem_map] at hx
    obtain ⟨k, hk, rfl⟩ := hx
    have := kpt_lt hk
    unfold out
    rw [decide_eq_false (by omega), decide_eq_false (by omega)]
    rfl
  · intro r hr
    rw [List.length_map] at hr
    have h1 := List.pairwise_iff_getElem.1 (kpt_sorted ks m) r (r + 1) (by omega) hr (by omega)
    rw [List.getD_eq_getElem?_getD, List.getD_eq_getElem?_getD, List.getElem?_map, List.getElem?_map, List.getElem?_eq_getElem hr, List.getElem?_eq_getElem (by omega : r < (kpt ks m).length)]
    simp
    omega
theorem qB_get (n : Int) (l : List (Ty.den wt)) (q : List (Ty.den wp)) : ∀ i k, k < i → (qB n l q i).getD k wp.dflt = mkP (oW n (l.getD k wt.dflt)) (fW n (l.getD k wt.dflt))
  | 0, k, h => by omega
  | i + 1, k, h => by
    obtain ⟨g1, g2⟩ := take_app_get (qB_len n l q i) (mkP (oW n (l.getD i wt.dflt)) (fW n (l.getD i wt.dflt)))
    simp only [qB]
    by_cases hk : k < i
    · rw [g1 k hk, qB_get n l q i k hk]
    · obtain rfl : k = i := by omega
      exact g2
/-- What some writes make of a content. -/
def fo' (n : Int) (l : List (Ty.den wt)) (torn last : Int) (w : List Int) (L : List Nat) : List Int :=
  L.foldl (fun w k => putN w (oW n (l.getD k wt.dflt)).toNat (sW torn last n k (l.getD k wt.dflt)) (sW torn last n k (l.getD k wt.dflt)).size) w
theorem wB_fo {n : Int} {l : List (Ty.den wt)} {ks : List Bool} {torn last : Int} {w : List Int} : ∀ i, wB n l ks torn last w i = fo' n l torn last w (kpt ks i)
  | 0 => rfl
  | i + 1 => by
    rw [kpt_succ]
    simp only [wB]
    split
    · unfold fo'
      rw [List.foldl_append, wB_fo i]
      rfl
    · rw [List.append_nil]
      exact wB_fo i
theorem fo_len {n : Int} {l : List (Ty.den wt)} {torn last : Int} (hn : 0 ≤ n) : ∀ (L : List Nat) {w : List Int}, w.length = n.toNat → (fo' n l torn last w L).length = n.toNat
  | [], w, hw => hw
  | k :: L, w, hw => by
    have hf := fW_fit (w := l.getD k wt.dflt) hn
    have hs := sW_size (torn := torn) (last := last) (n := n) (i := k) (w := l.getD k wt.dflt)
    exact fo_len hn L (by rw [putN_len (by omega) (Nat.le_refl _), hw])
theorem crs_fo {n : Int} {l : List (Ty.den wt)} {ks : List Bool} {torn : Int} {w : List Int} {q : List (Ty.den wp)} {N : Nat} (hn : 0 ≤ n) (hw : w.length = n.toNat) :
    ∀ r, r ≤ (kpt ks N).length → crs torn (qB n l q N) ((kpt ks N).map (fun k : Nat => (k : Int))) n.toNat (kpt ks N).length r w = fo' n l torn (lastK ks N) w ((kpt ks N).take r)
  | 0, _ => by simp [crs, fo']
  | r + 1, hr => by
    have ih := crs_fo (l := l) (ks := ks) (N := N) (torn := torn) (q := q) hn hw r (by omega)
    have hlt : r < (kpt ks N).length := by omega
    have hk := kpt_lt (List.getElem_mem hlt)
    have hget : Int.toNat (((kpt ks N).map (fun k : Nat => (k : Int))).getD (0 + (r : Int).toNat) 0) = (kpt ks N)[r] := by
      rw [Int.toNat_natCast, Nat.zero_add, List.getD_eq_getElem?_getD, List.getElem?_map, List.getElem?_eq_getElem hlt]
      rfl
    have hq := qB_get n l q N _ hk
    have hO : peO (qB n l q N) ((kpt ks N).map (fun k : Nat => (k : Int))) r = oW n (l.getD (kpt ks N)[r] wt.dflt) := by unfold peO; rw [hget, Nat.zero_add, hq]; rfl
    have hS : peS (qB n l q N) ((kpt ks N).map (fun k : Nat => (k : Int))) r = fW n (l.getD (kpt ks N)[r] wt.dflt) := by unfold peS; rw [hget, Nat.zero_add, hq]; rfl
    have hT : peT torn (qB n l q N) ((kpt ks N).map (fun k : Nat => (k : Int))) r = tW torn n (l.getD (kpt ks N)[r] wt.dflt) := by
      unfold peT tW
      rw [hS]
      congr 2
      unfold tmin tm
      split <;> split <;> omega
    have hif : (if r + 1 = (kpt ks N).length ∧ torn ≥ 0 then peT torn (qB n l q N) ((kpt ks N).map (fun k : Nat => (k : Int))) r else peS (qB n l q N) ((kpt ks N).map (fun k : Nat => (k : Int))) r) = sW torn (lastK ks N) n (kpt ks N)[r] (l.getD (kpt ks N)[r] wt.dflt) := by
      have hi := last_iff ks N r hlt
      unfold sW
      rw [hT, hS]
      by_cases h : r + 1 = (kpt ks N).length ∧ torn ≥ 0
      · rw [if_pos h, if_pos ⟨hi.2 h.1, h.2⟩]
      · rw [if_neg h, if_neg (fun g => h ⟨hi.1 g.1, g.2⟩)]
    simp only [crs]
    rw [ih, hO, hif, List.take_add_one, List.getElem?_eq_getElem hlt]
    have hf := fW_fit (w := l.getD (kpt ks N)[r] wt.dflt) hn
    have hs := sW_size (torn := torn) (last := lastK ks N) (n := n) (i := (kpt ks N)[r]) (w := l.getD (kpt ks N)[r] wt.dflt)
    rw [cpy_putN (by omega) (by rw [fo_len hn _ hw]; exact Nat.le_refl _)]
    unfold fo'
    rw [Option.toList_some, List.foldl_append]
    rfl
theorem wn_bytes (n : Nat) : ∀ x ∈ wn n, 0 ≤ x ∧ x < 256 := by
  intro x hx
  unfold wn at hx
  rw [List.mem_map] at hx
  obtain ⟨i, _, rfl⟩ := hx
  unfold wv
  omega
theorem law8 (n : Int) (l : List (Ty.den wt)) (ks : List Bool) (torn : Int) (hn : inr n = true) (hl : ∀ w ∈ l, inr (wO w) = true) : SemF Try.prog G0 8 [.si .i64 n, .slst .ro wt l, .slst .ro .bool ks, .si .i64 torn] [] [] (.sb true) [] [] := by
  obtain ⟨h1, h2⟩ := sz_in (n := n) (m := 100) (by decide) (by decide)
  have run := law8_run n l ks torn
  generalize hN : sz n 100 = N at *
  have hnn : ((N.toNat : Nat) : Int) = N := by omega
  have hwl := wn_len N.toNat
  have tw : List.take N.toNat (wn N.toNat) = wn N.toNat := List.take_of_length_le (by omega)
  have hC : cpy (rep N) 0 N.toNat (bytesOf (strOfNums (wn N.toNat))) = wn N.toNat := by rw [bytes_nums (wn_bytes _)]; exact cpy_all (rep_len _) hwl
  generalize hM : min 20 l.length = M at *
  have hq0 : ∀ x ∈ qS [mkP 0 (strOfNums (wn N.toNat))] 1, 0 ≤ offs x ∧ offs x ≤ N := by
    intro x hx
    rcases qS_mem hx with hx | rfl
    · rw [List.mem_singleton] at hx
      subst hx
      exact ⟨Int.le_refl 0, by show (0 : Int) ≤ N; omega⟩
    · exact ⟨Int.le_refl 0, by show (0 : Int) ≤ N; omega⟩
  have hcr : crd torn (qB N l (qS [mkP 0 (strOfNums (wn N.toNat))] 1) M) M (cB ks M) (wn N.toNat) = wB N l ks torn (lastK ks M) (wn N.toNat) M := by
    unfold crd
    rw [ord_cB, hwl, List.length_map, crs_fo (by omega) hwl _ (Nat.le_refl _), List.take_length, wB_fo]
  have hwB := wB_len (l := l) (ks := ks) (torn := torn) (last := lastK ks M) (by omega : (0 : Int) ≤ N) hwl M
  have tB : List.take N.toNat (wB N l ks torn (lastK ks M) (wn N.toNat) M) = wB N l ks torn (lastK ks M) (wn N.toNat) M := List.take_of_length_le (by omega)
  have hs0 : (strOfNums (wn N.toNat)).size = N.toNat := by rw [← bytesOf_len, bytes_nums (wn_bytes _), hwl]
  simp only [List.drop_zero, tw, hC] at run
  have p1 : pre_ba N l ks torn 0 N.toNat N.toNat N.toNat (rep N) (rep N) (rep N) := ⟨rfl, rfl, h1, h2, rep_len _⟩
  have p2 : cn_g21n 0 (strOfNums (wn N.toNat)) N.toNat N.toNat (rep N) (rep N) := ⟨⟨Nat.zero_le _, rep_len _, rep_len _, rfl, fun w h => (nomatch h)⟩, Nat.zero_le _, by omega, Int.le_refl _, by rw [hs0]; omega⟩
  have p3 : cn_g23 N.toNat N.toNat 1 (rep N) (wn N.toNat) [mkP 0 (strOfNums (wn N.toNat))] := ⟨Nat.le_refl _, rep_len _, hwl, rfl, fun x hx => by
    rw [List.mem_singleton] at hx
    subst hx
    exact ⟨Int.le_refl 0, by show (0 : Int) ≤ _; omega⟩⟩
  have p4 : pre_bb N l ks torn (-1) 0 N.toNat N.toNat N.toNat 0 (wn N.toNat) (wn N.toNat) (wn N.toNat) (qS [mkP 0 (strOfNums (wn N.toNat))] 1) := ⟨rfl, rfl⟩
  have p5 : pre_bc N l ks torn (lastK ks M) 0 [] N.toNat N.toNat N.toNat 0 (wn N.toNat) (wn N.toNat) (wn N.toNat) (qS [mkP 0 (strOfNums (wn N.toNat))] 1) := ⟨rfl, rfl, rfl, rfl, rfl, rfl, h1, h2, hwl, hwl, hwl, hq0, hl⟩
  have p6 : cn_g25b torn 0 false N.toNat N.toNat M (cB ks M) (wn N.toNat) (vB N l (wn N.toNat) M) (qB N l (qS [mkP 0 (strOfNums (wn N.toNat))] 1) M) := ⟨by have := cB_len ks M; omega, qB_len _ _ _ _, hwl, vB_len (by omega) hwl M, rfl, by rw [hnn]; exact qB_off (by omega) hq0 M⟩
  refine of_run cfgB_ok run ?_ ?_
  · rw [hcr, tB, hwB, hn, decide_eq_true p1, decide_eq_true p2, decide_eq_true p3, decide_eq_true p4, decide_eq_true p5, decide_eq_true p6, hnn, decide_eq_false (by omega : ¬ N < 1), decide_eq_false (by omega : ¬ N > 4194304), decide_eq_true (by omega : (0 : Int) ≤ N ∧ N ≤ N ∧ 1 * N ≤ 281474976710656 ∧ N ≤ 9223372036854775807), decide_eq_true (by omega : (0 : Int) ≤ N ∧ N ≤ N ∧ N ≤ N ∧ N.toNat ≤ 4194304)]
    rfl
  · rw [hcr, tB, tB]
    simp
end D
end Go.Proofs.Ytnjjkobijjdnbaa

/- Package disk: the reference's loops: apply, has, Visible. -/
set_option linter.unusedVariables false
set_option linter.unusedSimpArgs false
set_option maxRecDepth 100000
set_option maxHeartbeats 4000000
namespace Go.Proofs.Ytnjjkobijjdnbaa
open Go
namespace D
def hp_ap : HP := { n := 21, lv := [0, 1, 2, 6], sp := [.bz 0, .ty ity, .ty .str, .ty ity], op := [], bp := [.arr bty], kt := 1 }
def lve_ap : Ex → List Nat
  | .normal => [0, 1, 2, 6]
  | .exit 0 => []
  | _ => []
theorem bd_ap : Try.f44.body = some (root 44) := by kernel_rfl
theorem le_ap : (loops (root 44))[0]? = some (lp 44 0) := by kernel_rfl
theorem li_ap : Lies (root 44) 1 (lp 44 0) := Lies.of_take (n := 0) (by kernel_rfl)
def st_ap (j : Nat) (off : Int) (s : ByteArray) (i : Int) (l : List Int) : St := hp_ap.st ⟨(j, off, s, i, ()), (), (l, ())⟩
noncomputable def rn_ap (j : Nat) (off : Int) (s : ByteArray) (i : Int) (l : List Int) := outa lve_ap (evCK Try.prog Γ (cfM Try.prog Γ cfgP 30) (cfgP.lo 44) [] 60 1 (lp 44 0) (st_ap j off s i l))
theorem rn_ap_eq (j : Nat) (off : Int) (s : ByteArray) (i : Int) (l : List Int) : (rn_ap j off s i l).run = (bif decide (i < (Nat.cast (s.size) : Int)) then (bif decide ((0 : Int) ≤ i ∧ i < (Nat.cast (s.size) : Int)) then (bif decide ((0 : Int) ≤ IntKind.i64.wrap (off + i) ∧ IntKind.i64.wrap (off + i) < (Nat.cast (j) : Int)) then (bif decide (0 + (IntKind.i64.wrap (off + i)).toNat < l.length) then (some (Ex.normal, [V.bs true (0 : Nat) (0 : Nat) j, V.si IntKind.i64 off, V.ss s, V.si IntKind.i64 (IntKind.i64.wrap (i + (1 : Int)))], [], [some (Bf.live (BC.arr bty (l.set (0 + (IntKind.i64.wrap (off + i)).toNat) (byteAt s i.toNat))))], (21 : Nat), (0 : Nat), (1 : Nat))) else none) else none) else none) else (some (Ex.exit (0 : Nat), [], [], [some (Bf.live (BC.arr bty l))], (21 : Nat), (0 : Nat), (1 : Nat)))) := by kernel_rfl
theorem rn_ap_c (j : Nat) (off : Int) (s : ByteArray) (i : Int) (l : List Int) {e : Ex} {vs : List V} {ob : Ob} {nm : Nm} {n' kh kt : Nat} (h : (rn_ap j off s i l).run = some (e, vs, ob, nm, n', kh, kt)) : SemC Try.prog Γ (lp 44 0) (st_ap j off s i l) e.to (St.of n' (lve_ap e) vs ob nm kh kt) := SemC.of_evM cfgP_ok Try.func44 bd_ap li_ap h
abbrev pre_ap (j : Nat) (off : Int) (s : ByteArray) (i : Int) (l : List Int) : Prop := i = 0 ∧ 0 ≤ off ∧ off + (s.size : Int) ≤ (j : Int) ∧ j ≤ l.length ∧ j ≤ 4194304
def rs_ap (j : Nat) (off : Int) (s : ByteArray) (i : Int) (l : List Int) : Ex × St := (.exit 0, St.of 21 (lve_ap (.exit 0)) [] [] [some (.live (.arr bty (putN l off.toNat s s.size)))] hp_ap.kh hp_ap.kt)
def res_ap (j : Nat) (off : Int) (s : ByteArray) (i : Int) (l : List Int) : Tr (Ex × St) := .br (decide (pre_ap j off s i l)) (.leaf (some (.exit 0, St.of 21 (lve_ap (.exit 0)) [] [] [some (.live (.arr bty (putN l off.toNat s s.size)))] hp_ap.kh hp_ap.kt))) (.leaf none)
theorem res_ap_run (j : Nat) (off : Int) (s : ByteArray) (i : Int) (l : List Int) (h : pre_ap j off s i l) : (res_ap j off s i l).run = some (rs_ap j off s i l) := by
  unfold res_ap rs_ap
  rw [decide_eq_true h]
  exact rfl
theorem res_ap_no (j : Nat) (off : Int) (s : ByteArray) (i : Int) (l : List Int) (h : ¬ pre_ap j off s i l) : (res_ap j off s i l).run = none := Tr.run_no h
def ent_ap : LEnt := LEnt.by hp_ap fun ⟨(j, off, s, i, _), _, (l, _)⟩ => res_ap j off s i l
theorem ent_ap_ok (hgo : ∀ (j : Nat) (off : Int) (s : ByteArray) (i : Int) (l : List Int), pre_ap j off s i l → SemL Try.prog Γ (lp 44 0) (st_ap j off s i l) (rs_ap j off s i l).1.to (rs_ap j off s i l).2) : EntOk Try.prog Γ (lp 44 0) ent_ap := LEnt.by_ok fun ⟨(j, off, s, i, _), _, (l, _)⟩ ex_ s_ h_ => by
  have h_ : (res_ap j off s i l).run = some (ex_, s_) := h_
  by_cases hp_ : pre_ap j off s i l
  · rw [res_ap_run j off s i l hp_] at h_
    obtain ⟨rfl, rfl⟩ := Prod.mk.inj (Option.some.inj h_)
    exact hgo j off s i l hp_
  · rw [res_ap_no j off s i l hp_] at h_
    cases h_
theorem ap_go (j : Nat) (off : Int) (s : ByteArray) (i : Int) (l : List Int) (h : pre_ap j off s i l) : SemL Try.prog Γ (lp 44 0) (st_ap j off s i l) (rs_ap j off s i l).1.to (rs_ap j off s i l).2 := by
  obtain ⟨rfl, h0, h1, h2, h3⟩ := h
  have key := SemL.scan (P := Try.prog) (Γ := Γ) (b := lp 44 0) s.size 0 (Nat.zero_le _) (fun i => st_ap j off s (i : Nat) (putN l off.toNat s i)) (fun _ => true) (rs_ap j off s 0 l) ?_ ?_ ?_
  · rw [putN_zero] at key
    exact key
  · intro i _ hi _ _
    refine rn_ap_c j off s i (putN l off.toNat s i) (e := .normal) ?_
    have hw : IntKind.i64.wrap (off + (i : Int)) = off + i := wrap_in (by omega) (by omega)
    have hw2 : IntKind.i64.wrap ((i : Int) + 1) = ((i + 1 : Nat) : Int) := by rw [wrap_in (by omega) (by omega)]; rfl
    have hl : (putN l off.toNat s i).length = l.length := putN_len (by omega) (by omega)
    rw [rn_ap_eq, hw, hw2, Int.toNat_natCast, show 0 + (off + (i : Int)).toNat = off.toNat + i by omega, putN_step (by omega) hi, hl, decide_eq_true (by omega : (i : Int) < (s.size : Int)), decide_eq_true (by omega : (0 : Int) ≤ i ∧ (i : Int) < (s.size : Int)), decide_eq_true (by omega : (0 : Int) ≤ off + i ∧ off + (i : Int) < (j : Int)), decide_eq_true (by omega : off.toNat + i < l.length)]
    rfl
  · intro i _ _ _ h; cases h
  · intro _
    refine ⟨by simp [rs_ap, Ex.to], rn_ap_c j off s s.size (putN l off.toNat s s.size) (e := .exit 0) ?_⟩
    rw [rn_ap_eq, decide_eq_false (by omega)]
    rfl
def loQ : LOrc := (LOrc.add (fun _ _ => none) 44 0 ent_ap)
theorem loQ_ok : LOrcOk Try.prog Γ loQ := (LOrcOk.add LOrcOk.none 44 0 Try.func44 bd_ap le_ap (ent_ap_ok ap_go))
noncomputable def cfgQ : Cfg := { cfgP with lo := loQ }
theorem cfgQ_ok : CfgOk Try.prog Γ cfgQ := { cfgP_ok with lo := loQ_ok }
def fp_g44 : FP := ⟨[.bz 0, .ty ity, .ty .str], [], [.arr bty]⟩
abbrev cn_g44 (j : Nat) (off : Int) (s : ByteArray) (l : List Int) : Prop := 0 ≤ off ∧ off + (s.size : Int) ≤ (j : Int) ∧ j ≤ l.length ∧ j ≤ 4194304
noncomputable def cr_g44 (j : Nat) (off : Int) (s : ByteArray) (l : List Int) : Option Bool × V × Ob × Nm := (some (decide (cn_g44 j off s l)), .tup [], [], [some (.live (.arr bty (putN l off.toNat s s.size)))])
noncomputable def ct_g44 := Ct.by fp_g44 fun ⟨(j, off, s, _), _, (l, _)⟩ => cr_g44 j off s l
abbrev sf_g44 (j : Nat) (off : Int) (s : ByteArray) (l : List Int) : Prop := SemF Try.prog Γ 44 (SP.vals fp_g44.sp (j, off, s, ())) (OP.vals fp_g44.op ()) (BP.vals fp_g44.bp (l, ())) (.tup []) ([]) ([some (.live (.arr bty (putN l off.toNat s s.size)))])
noncomputable def ev_g44 (C : Cfg) (lv : List Nat) (j : Nat) (off : Int) (s : ByteArray) (l : List Int) := evV Try.prog Γ C lv 44 (SP.vals fp_g44.sp (j, off, s, ())) (OP.vals fp_g44.op ()) (BP.vals fp_g44.bp (l, ()))
theorem cr_g44_ok (j : Nat) (off : Int) (s : ByteArray) (l : List Int) (h : (cr_g44 j off s l).1.getD true = true) : cn_g44 j off s l := of_decide_eq_true h
theorem ct_g44_ok (H : ∀ (j : Nat) (off : Int) (s : ByteArray) (l : List Int), cn_g44 j off s l → sf_g44 j off s l) : ∀ args ob nm c v ob1 nm1, ct_g44 args ob nm = some (c, v, ob1, nm1) → c.getD true = true → SemF Try.prog Γ 44 args ob nm v ob1 nm1 := Ct.by_ok fun ⟨(j, off, s, _), _, (l, _)⟩ h => H j off s l (cr_g44_ok j off s l h)
theorem t44_eq (j : Nat) (off : Int) (s : ByteArray) (l : List Int) : (ev_g44 cfgQ [] j off s l).run = (bif decide (pre_ap j off s (0 : Int) l) then (some (V.tup [], [], [some (Bf.live (BC.arr bty (putN l off.toNat s s.size)))])) else none) := by kernel_rfl
theorem g44_go (j : Nat) (off : Int) (s : ByteArray) (l : List Int) (h : cn_g44 j off s l) : sf_g44 j off s l := by
  refine SemF.of_tree cfgQ_ok (lv := []) (Eq.trans (t44_eq j off s l) ?_)
  rw [decide_eq_true (⟨rfl, h⟩ : pre_ap j off s 0 l)]
  rfl
def hp_hs : HP := { n := 18, lv := [0, 1, 5], sp := [.ty (.slice ity), .ty ity, .ty ity], op := [], bp := [] }
def lve_hs : Ex → List Nat
  | .normal => [0, 1, 5]
  | .ret => [4]
  | .exit 0 => []
  | _ => []
theorem bd_hs : Try.f43.body = some (root 43) := by kernel_rfl
theorem le_hs : (loops (root 43))[0]? = some (lp 43 0) := by kernel_rfl
theorem li_hs : Lies (root 43) 1 (lp 43 0) := Lies.of_take (n := 0) (by kernel_rfl)
def st_hs (l : List Int) (n i : Int) : St := hp_hs.st ⟨(l, n, i, ()), (), ()⟩
noncomputable def rn_hs (l : List Int) (n i : Int) := outa lve_hs (evCK Try.prog Γ (cfM Try.prog Γ cfgP 30) (cfgP.lo 43) [] 60 1 (lp 43 0) (st_hs l n i))
theorem rn_hs_eq (l : List Int) (n i : Int) : (rn_hs l n i).run = (bif decide (i < (Nat.cast (l.length) : Int)) then (bif decide ((0 : Int) ≤ i ∧ i < (Nat.cast (l.length) : Int)) then (bif l.getD i.toNat (0 : Int) == n then (some (Ex.ret, [V.b true], [], [], (18 : Nat), (0 : Nat), (0 : Nat))) else (some (Ex.normal, [V.slst Tag.ro ity l, V.si IntKind.i64 n, V.si IntKind.i64 (IntKind.i64.wrap (i + (1 : Int)))], [], [], (18 : Nat), (0 : Nat), (0 : Nat)))) else none) else (some (Ex.exit (0 : Nat), [], [], [], (18 : Nat), (0 : Nat), (0 : Nat)))) := by kernel_rfl
theorem rn_hs_c (l : List Int) (n i : Int) {e : Ex} {vs : List V} {ob : Ob} {nm : Nm} {n' kh kt : Nat} (h : (rn_hs l n i).run = some (e, vs, ob, nm, n', kh, kt)) : SemC Try.prog Γ (lp 43 0) (st_hs l n i) e.to (St.of n' (lve_hs e) vs ob nm kh kt) := SemC.of_evM cfgP_ok Try.func43 bd_hs li_hs h
abbrev pre_hs (l : List Int) (n i : Int) : Prop := i = 0 ∧ l.length ≤ 1000000
def rs_hs (l : List Int) (n i : Int) : Ex × St := if l.findIdx (fun x => x == n) < l.length then (.ret, St.of 18 (lve_hs (.ret)) [.b true] [] [] hp_hs.kh hp_hs.kt) else (.exit 0, St.of 18 (lve_hs (.exit 0)) [] [] [] hp_hs.kh hp_hs.kt)
def res_hs (l : List Int) (n i : Int) : Tr (Ex × St) := .br (decide (pre_hs l n i)) (.br (decide (l.findIdx (fun x => x == n) < l.length)) (.leaf (some (.ret, St.of 18 (lve_hs (.ret)) [.b true] [] [] hp_hs.kh hp_hs.kt))) (.leaf (some (.exit 0, St.of 18 (lve_hs (.exit 0)) [] [] [] hp_hs.kh hp_hs.kt)))) (.leaf none)
theorem res_hs_run (l : List Int) (n i : Int) (h : pre_hs l n i) : (res_hs l n i).run = some (rs_hs l n i) := by
  unfold res_hs rs_hs
  rw [decide_eq_true h]
  exact (Tr.run_ite rfl rfl)
theorem res_hs_no (l : List Int) (n i : Int) (h : ¬ pre_hs l n i) : (res_hs l n i).run = none := Tr.run_no h
def ent_hs : LEnt := LEnt.by hp_hs fun ⟨(l, n, i, _), _, _⟩ => res_hs l n i
theorem ent_hs_ok (hgo : ∀ (l : List Int) (n i : Int), pre_hs l n i → SemL Try.prog Γ (lp 43 0) (st_hs l n i) (rs_hs l n i).1.to (rs_hs l n i).2) : EntOk Try.prog Γ (lp 43 0) ent_hs := LEnt.by_ok fun ⟨(l, n, i, _), _, _⟩ ex_ s_ h_ => by
  have h_ : (res_hs l n i).run = some (ex_, s_) := h_
  by_cases hp_ : pre_hs l n i
  · rw [res_hs_run l n i hp_] at h_
    obtain ⟨rfl, rfl⟩ := Prod.mk.inj (Option.some.inj h_)
    exact hgo l n i hp_
  · rw [res_hs_no l n i hp_] at h_
    cases h_
theorem hs_go (l : List Int) (n i : Int) (h : pre_hs l n i) : SemL Try.prog Γ (lp 43 0) (st_hs l n i) (rs_hs l n i).1.to (rs_hs l n i).2 := by
  obtain ⟨rfl, hl⟩ := h
  refine SemL.scan l.length 0 (Nat.zero_le _) (fun i => st_hs l n (i : Nat)) (fun i => !(l.getD i 0 == n)) _ ?_ ?_ ?_
  · intro i _ hi hb hp
    refine rn_hs_c l n i (e := .normal) ?_
    have hw : IntKind.i64.wrap ((i : Int) + 1) = ((i + 1 : Nat) : Int) := by rw [wrap_in (by omega) (by omega)]; rfl
    have hp' : (l.getD i 0 == n) = false := by simpa using hp
    rw [rn_hs_eq, hw, decide_eq_true (by omega : (i : Int) < l.length), decide_eq_true (by omega), Int.toNat_natCast, hp']
    rfl
  · intro i _ hi hb hp
    have hp' : (l.getD i 0 == n) = true := by simpa using hp
    have e : l.findIdx (fun x => x == n) = i := findIdx_at 0 hi (fun j hj => by simpa using hb j (Nat.zero_le _) hj) hp'
    unfold rs_hs
    rw [if_pos (by omega)]
    refine ⟨by simp [Ex.to], rn_hs_c l n i (e := .ret) ?_⟩
    rw [rn_hs_eq, decide_eq_true (by omega : (i : Int) < l.length), decide_eq_true (by omega), Int.toNat_natCast, hp']
    rfl
  · intro hb
    have e : l.findIdx (fun x => x == n) = l.length := findIdx_no 0 (fun j hj => by simpa using hb j (Nat.zero_le _) hj)
    unfold rs_hs
    rw [if_neg (by omega)]
    refine ⟨by simp [Ex.to], rn_hs_c l n l.length (e := .exit 0) ?_⟩
    rw [rn_hs_eq, decide_eq_false (by omega)]
    rfl
noncomputable def T7 : CallT := fun f args ob nm => match Nat.beq f 44 with | true => ct_g44 args ob nm | false => T6 f args ob nm
theorem T7_ok : CtOk Try.prog Γ T7 := CtOk.cons T6_ok 44 ct_g44 (by decide) Try.f44 Try.func44 (by kernel_rfl) (by kernel_rfl) (ct_g44_ok g44_go)
def loR1 : LOrc := (LOrc.add loQ 43 0 ent_hs)
theorem loR1_ok : LOrcOk Try.prog Γ loR1 := (LOrcOk.add loQ_ok 43 0 Try.func43 bd_hs le_hs (ent_hs_ok hs_go))
noncomputable def cfgV1 : Cfg := { cfgP with om := callC T7, omd := fun f => [46, 44].any (Nat.beq f), lo := loR1 }
theorem cfgV1_ok : CfgOk Try.prog Γ cfgV1 := { cfgP_ok with om := callC_calls T7_ok, fit := callC_fit T7_ok, lo := loR1_ok }
def hp_vi : HP := { n := 39, lv := [0, 3, 4], sp := [.ptr 0 0, .bz 2, .ty ity], op := [.cells [.bz 0, .bz 1, .ty .bool, .ty ity]], bp := [.arr bty, .arr wp, .arr bty], kh := 1, kt := 2 }
def lve_vi : Ex → List Nat
  | .normal => [0, 3, 4]
  | .exit 0 => [3]
  | _ => []
theorem bd_vi : Try.f34.body = some (root 34) := by kernel_rfl
theorem le_vi : (loops (root 34))[0]? = some (lp 34 0) := by kernel_rfl
theorem li_vi : Lies (root 34) 1 (lp 34 0) := Lies.of_take (n := 0) (by kernel_rfl)
-- 
-- 
def st_vi (j n3 m3 : Nat) (dn : Bool) (lf i : Int) (d : List Int) (q : List (Ty.den wp)) (b : List Int) : St := hp_vi.st ⟨((), j, i, ()), ((n3, m3, dn, lf, ()), ()), (d, q, b, ())⟩
noncomputable def rn_vi (j n3 m3 : Nat) (dn : Bool) (lf i : Int) (d : List Int) (q : List (Ty.den wp)) (b : List Int) := outa lve_vi (evCK Try.prog Γ (cfM Try.prog Γ cfgV1 30) (cfgV1.lo 34) [] 60 1 (lp 34 0) (st_vi j n3 m3 dn lf i d q b))
theorem rn_vi_eq (j n3 m3 : Nat) (dn : Bool) (lf i : Int) (d : List Int) (q : List (Ty.den wp)) (b : List Int) : (rn_vi j n3 m3 dn lf i d q b).run = (bif decide (i < (Nat.cast (m3) : Int)) then (bif decide ((0 : Int) ≤ i ∧ i < (Nat.cast (m3) : Int)) then (bif decide (0 + i.toNat < q.length) then (bif decide ((0 : Int) ≤ i ∧ i < (Nat.cast (m3) : Int)) then (bif decide (0 + i.toNat < q.length) then (bif decide (cn_g44 j (offs (q.getD (0 + i.toNat) wp.dflt)) (pS' (q.getD (0 + i.toNat) wp.dflt)) b) then (some (Ex.normal, [V.ptr (0 : Nat) (0 : Nat), V.bs true (2 : Nat) (0 : Nat) j, V.si IntKind.i64 (IntKind.i64.wrap (i + (1 : Int)))], [some [V.bs true (0 : Nat) (0 : Nat) n3, V.bs true (1 : Nat) (0 : Nat) m3, V.sb dn, V.si IntKind.i64 lf]], [some (Bf.live (BC.arr bty d)), some (Bf.live (BC.arr wp q)), some (Bf.live (BC.arr bty (putN b (Int.toNat (offs (q.getD (0 + i.toNat) wp.dflt))) (pS' (q.getD (0 + i.toNat) wp.dflt)) (ByteArray.size (pS' (q.getD (0 + i.toNat) wp.dflt))))))], (39 : Nat), (1 : Nat), (2 : Nat))) else none) else none) else none) else none) else none) else (some (Ex.exit (0 : Nat), [V.bs true (2 : Nat) (0 : Nat) j], [some [V.bs true (0 : Nat) (0 : Nat) n3, V.bs true (1 : Nat) (0 : Nat) m3, V.sb dn, V.si IntKind.i64 lf]], [some (Bf.live (BC.arr bty d)), some (Bf.live (BC.arr wp q)), some (Bf.live (BC.arr bty b))], (39 : Nat), (1 : Nat), (2 : Nat)))) := by kernel_rfl
theorem rn_vi_c (j n3 m3 : Nat) (dn : Bool) (lf i : Int) (d : List Int) (q : List (Ty.den wp)) (b : List Int) {e : Ex} {vs : List V} {ob : Ob} {nm : Nm} {n' kh kt : Nat} (h : (rn_vi j n3 m3 dn lf i d q b).run = some (e, vs, ob, nm, n', kh, kt)) : SemC Try.prog Γ (lp 34 0) (st_vi j n3 m3 dn lf i d q b) e.to (St.of n' (lve_vi e) vs ob nm kh kt) := SemC.of_evM cfgV1_ok Try.func34 bd_vi li_vi h
/-- What the writes of a list make of a content, byte by byte. -/
def apN (q : List (Ty.den wp)) : Nat → List Int → List Int
  | 0, d => d
  | i + 1, d => putN (apN q i d) (offs (q.getD i wp.dflt)).toNat (pS' (q.getD i wp.dflt)) (pS' (q.getD i wp.dflt)).size
abbrev fitW (n : Nat) (w : Ty.den wp) : Prop := 0 ≤ offs w ∧ offs w + ((pS' w).size : Int) ≤ (n : Int)
theorem fit_get {q : List (Ty.den wp)} {m n i : Nat} (hm : m ≤ q.length) (hf : ∀ w ∈ q.take m, fitW n w) (hi : i < m) : fitW n (q.getD i wp.dflt) := by
  have hl : i < q.length := by omega
  have e : q.getD i wp.dflt = (q.take m)[i]'(by rw [List.length_take]; omega) := by rw [List.getD_eq_getElem?_getD, List.getElem?_eq_getElem hl, Option.getD_some, List.getElem_take]
  rw [e]
  exact hf _ (List.getElem_mem _)
theorem apN_len {q : List (Ty.den wp)} {m : Nat} {d : List Int} (hm : m ≤ q.length) (hf : ∀ w ∈ q.take m, fitW d.length w) : ∀ i, i ≤ m → (apN q i d).length = d.length
  | 0, _ => rfl
  | i + 1, hi => by
    have ih := apN_len hm hf i (by omega)
    obtain ⟨h1, h2⟩ := fit_get hm hf (show i < m by omega)
    simp only [apN]
    rw [putN_len (by omega) (Nat.le_refl _), ih]
abbrev pre_vi (j n3 m3 : Nat) (dn : Bool) (lf i : Int) (d : List Int) (q : List (Ty.den wp)) (b : List Int) : Prop := i = 0 ∧ j = b.length ∧ m3 ≤ q.length ∧ j ≤ 4194304 ∧ m3 ≤ 1000 ∧ ∀ w ∈ q.take m3, fitW j w
def rs_vi (j n3 m3 : Nat) (dn : Bool) (lf i : Int) (d : List Int) (q : List (Ty.den wp)) (b : List Int) : Ex × St := (.exit 0, St.of 39 (lve_vi (.exit 0)) [.bs true 2 0 j] [some [.bs true 0 0 n3, .bs true 1 0 m3, .sb dn, .si .i64 lf]] [some (.live (.arr bty d)), some (.live (.arr wp q)), some (.live (.arr bty (apN q m3 b)))] hp_vi.kh hp_vi.kt)
def res_vi (j n3 m3 : Nat) (dn : Bool) (lf i : Int) (d : List Int) (q : List (Ty.den wp)) (b : List Int) : Tr (Ex × St) := .br (decide (pre_vi j n3 m3 dn lf i d q b)) (.leaf (some (.exit 0, St.of 39 (lve_vi (.exit 0)) [.bs true 2 0 j] [some [.bs true 0 0 n3, .bs true 1 0 m3, .sb dn, .si .i64 lf]] [some (.live (.arr bty d)), some (.live (.arr wp q)), some (.live (.arr bty (apN q m3 b)))] hp_vi.kh hp_vi.kt))) (.leaf none)
theorem res_vi_run (j n3 m3 : Nat) (dn : Bool) (lf i : Int) (d : List Int) (q : List (Ty.den wp)) (b : List Int) (h : pre_vi j n3 m3 dn lf i d q b) : (res_vi j n3 m3 dn lf i d q b).run = some (rs_vi j n3 m3 dn lf i d q b) := by
  unfold res_vi rs_vi
  rw [decide_eq_true h]
  exact rfl
theorem res_vi_no (j n3 m3 : Nat) (dn : Bool) (lf i : Int) (d : List Int) (q : List (Ty.den wp)) (b : List Int) (h : ¬ pre_vi j n3 m3 dn lf i d q b) : (res_vi j n3 m3 dn lf i d q b).run = none := Tr.run_no h
def ent_vi : LEnt := LEnt.by hp_vi fun ⟨(_, j, i, _), ((n3, m3, dn, lf, _), _), (d, q, b, _)⟩ => res_vi j n3 m3 dn lf i d q b
theorem ent_vi_ok (hgo : ∀ (j n3 m3 : Nat) (dn : Bool) (lf i : Int) (d : List Int) (q : List (Ty.den wp)) (b : List Int), pre_vi j n3 m3 dn lf i d q b → SemL Try.prog Γ (lp 34 0) (st_vi j n3 m3 dn lf i d q b) (rs_vi j n3 m3 dn lf i d q b).1.to (rs_vi j n3 m3 dn lf i d q b).2) : EntOk Try.prog Γ (lp 34 0) ent_vi := LEnt.by_ok fun ⟨(_, j, i, _), ((n3, m3, dn, lf, _), _), (d, q, b, _)⟩ ex_ s_ h_ => by
  have h_ : (res_vi j n3 m3 dn lf i d q b).run = some (ex_, s_) := h_
  by_cases hp_ : pre_vi j n3 m3 dn lf i d q b
  · rw [res_vi_run j n3 m3 dn lf i d q b hp_] at h_
    obtain ⟨rfl, rfl⟩ := Prod.mk.inj (Option.some.inj h_)
    exact hgo j n3 m3 dn lf i d q b hp_
  · rw [res_vi_no j n3 m3 dn lf i d q b hp_] at h_
    cases h_
theorem vi_go (j n3 m3 : Nat) (dn : Bool) (lf i : Int) (d : List Int) (q : List (Ty.den wp)) (b : List Int) (h : pre_vi j n3 m3 dn lf i d q b) : SemL Try.prog Γ (lp 34 0) (st_vi j n3 m3 dn lf i d q b) (rs_vi j n3 m3 dn lf i d q b).1.to (rs_vi j n3 m3 dn lf i d q b).2 := by
  obtain ⟨rfl, rfl, hm, hj, hm2, hf⟩ := h
  refine SemL.scan (P := Try.prog) (Γ := Γ) (b := lp 34 0) m3 0 (Nat.zero_le _) (fun i => st_vi b.length n3 m3 dn lf (i : Nat) d q (apN q i b)) (fun _ => true) _ ?_ ?_ ?_
  · intro i _ hi _ _
    refine rn_vi_c b.length n3 m3 dn lf i d q (apN q i b) (e := .normal) ?_
    have hw : IntKind.i64.wrap ((i : Int) + 1) = ((i + 1 : Nat) : Int) := by rw [wrap_in (by omega) (by omega)]; rfl
    have hl := apN_len hm hf i (by omega)
    obtain ⟨f1, f2⟩ := fit_get hm hf hi
    have c1 : cn_g44 b.length (offs (q.getD i wp.dflt)) (pS' (q.getD i wp.dflt)) (apN q i b) := ⟨f1, f2, by omega, hj⟩
    rw [rn_vi_eq, hw, Int.toNat_natCast, Nat.zero_add, decide_eq_true (by omega : (i : Int) < (m3 : Int)), decide_eq_true (by omega : (0 : Int) ≤ i ∧ (i : Int) < (m3 : Int)), decide_eq_true (by omega : i < q.length), decide_eq_true c1]
    rfl
  · intro i _ _ _ h; cases h
  · intro _
    refine ⟨by simp [rs_vi, Ex.to], rn_vi_c b.length n3 m3 dn lf m3 d q (apN q m3 b) (e := .exit 0) ?_⟩
    rw [rn_vi_eq, decide_eq_false (by omega)]
    rfl
def loR2 : LOrc := (LOrc.add loR1 34 0 ent_vi)
theorem loR2_ok : LOrcOk Try.prog Γ loR2 := (LOrcOk.add loR1_ok 34 0 Try.func34 bd_vi le_vi (ent_vi_ok vi_go))
noncomputable def cfgV2 : Cfg := { cfgV1 with lo := loR2 }
theorem cfgV2_ok : CfgOk Try.prog Γ cfgV2 := { cfgV1_ok with lo := loR2_ok }
def fp_g34 : FP := ⟨[.ptr 0 0], [.cells [.bz 0, .bz 1, .ty .bool, .ty ity]], [.arr bty, .arr wp]⟩
abbrev cn_g34 (n3 m3 : Nat) (dn : Bool) (lf : Int) (d : List Int) (q : List (Ty.den wp)) : Prop := n3 = d.length ∧ n3 ≤ 4194304 ∧ m3 ≤ q.length ∧ m3 ≤ 1000 ∧ ∀ w ∈ q.take m3, fitW n3 w
noncomputable def cr_g34 (n3 m3 : Nat) (dn : Bool) (lf : Int) (d : List Int) (q : List (Ty.den wp)) : Option Bool × V × Ob × Nm := (some (decide (cn_g34 n3 m3 dn lf d q)), .bs true 2 0 n3, [some [.bs true 0 0 n3, .bs true 1 0 m3, .sb dn, .si .i64 lf]], [some (.live (.arr bty d)), some (.live (.arr wp q)), some (.live (.arr bty (apN q m3 d)))])
noncomputable def ct_g34 := Ct.by fp_g34 fun ⟨(_, _), ((n3, m3, dn, lf, _), _), (d, q, _)⟩ => cr_g34 n3 m3 dn lf d q
abbrev sf_g34 (n3 m3 : Nat) (dn : Bool) (lf : Int) (d : List Int) (q : List (Ty.den wp)) : Prop := SemF Try.prog Γ 34 (SP.vals fp_g34.sp ((), ())) (OP.vals fp_g34.op ((n3, m3, dn, lf, ()), ())) (BP.vals fp_g34.bp (d, q, ())) (.bs true 2 0 n3) ([some [.bs true 0 0 n3, .bs true 1 0 m3, .sb dn, .si .i64 lf]]) ([some (.live (.arr bty d)), some (.live (.arr wp q)), some (.live (.arr bty (apN q m3 d)))])
noncomputable def ev_g34 (C : Cfg) (lv : List Nat) (n3 m3 : Nat) (dn : Bool) (lf : Int) (d : List Int) (q : List (Ty.den wp)) := evV Try.prog Γ C lv 34 (SP.vals fp_g34.sp ((), ())) (OP.vals fp_g34.op ((n3, m3, dn, lf, ()), ())) (BP.vals fp_g34.bp (d, q, ()))
theorem cr_g34_ok (n3 m3 : Nat) (dn : Bool) (lf : Int) (d : List Int) (q : List (Ty.den wp)) (h : (cr_g34 n3 m3 dn lf d q).1.getD true = true) : cn_g34 n3 m3 dn lf d q := of_decide_eq_true h
theorem ct_g34_ok (H : ∀ (n3 m3 : Nat) (dn : Bool) (lf : Int) (d : List Int) (q : List (Ty.den wp)), cn_g34 n3 m3 dn lf d q → sf_g34 n3 m3 dn lf d q) : ∀ args ob nm c v ob1 nm1, ct_g34 args ob nm = some (c, v, ob1, nm1) → c.getD true = true → SemF Try.prog Γ 34 args ob nm v ob1 nm1 := Ct.by_ok fun ⟨(_, _), ((n3, m3, dn, lf, _), _), (d, q, _)⟩ h => H n3 m3 dn lf d q (cr_g34_ok n3 m3 dn lf d q h)
theorem t34_eq (n3 m3 : Nat) (dn : Bool) (lf : Int) (d : List Int) (q : List (Ty.den wp)) : (ev_g34 cfgV2 [] n3 m3 dn lf d q).run = (bif decide ((List.take n3 (List.drop (0) d)).length * 2 * 1 ≤ 281474976710656) then (bif decide (pre_vi (List.take n3 (List.drop (0) d)).length n3 m3 dn lf (0 : Int) d q (List.take n3 (List.drop (0) d))) then (some (V.bs true (2 : Nat) (0 : Nat) (List.take n3 (List.drop (0) d)).length, [some [V.bs true (0 : Nat) (0 : Nat) n3, V.bs true (1 : Nat) (0 : Nat) m3, V.sb dn, V.si IntKind.i64 lf]], [some (Bf.live (BC.arr bty d)), some (Bf.live (BC.arr wp q)), some (Bf.live (BC.arr bty (apN q m3 (List.take n3 (List.drop (0) d)))))])) else none) else none) := by kernel_rfl
theorem g34_go (n3 m3 : Nat) (dn : Bool) (lf : Int) (d : List Int) (q : List (Ty.den wp)) (h : cn_g34 n3 m3 dn lf d q) : sf_g34 n3 m3 dn lf d q := by
  obtain ⟨rfl, hn, hm, hm2, hf⟩ := h
  refine SemF.of_tree cfgV2_ok (lv := []) (Eq.trans (t34_eq d.length m3 dn lf d q) ?_)
  have e : List.take d.length (List.drop 0 d) = d := by rw [List.drop_zero, List.take_length]
  rw [e]
  have p1 : pre_vi d.length d.length m3 dn lf 0 d q d := ⟨rfl, rfl, hm, hn, hm2, hf⟩
  rw [decide_eq_true p1, decide_eq_true (by omega)]
  rfl
-- 
def hp_ra : HP := { n := 81, lv := [0, 1, 2, 6, 7], sp := [.ptr 0 0, .ty (.slice ity), .ty ity, .bz 2, .ty ity], op := [.cells [.bz 0, .bz 1, .ty .bool, .ty ity]], bp := [.arr bty, .arr wp, .arr wp], bv := [(3, wp)], kh := 1, kt := 2 }
def lve_ra : Ex → List Nat
  | .normal => [0, 1, 2, 6, 7]
  | .exit 0 => [0, 2, 6]
  | _ => []
theorem bd_ra : Try.f33.body = some (root 33) := by kernel_rfl
theorem le_ra : (loops (root 33))[0]? = some (lp 33 0) := by kernel_rfl
theorem li_ra : Lies (root 33) 1 (lp 33 0) := Lies.of_take (n := 0) (by kernel_rfl)
def st_ra (k : List Int) (torn i : Int) (r n3 m3 : Nat) (dn : Bool) (lf : Int) (d : List Int) (q c : List (Ty.den wp)) : St := hp_ra.st ⟨((), k, torn, r, i, ()), ((n3, m3, dn, lf, ()), ()), (d, q, c, ())⟩
noncomputable def rn_ra (k : List Int) (torn i : Int) (r n3 m3 : Nat) (dn : Bool) (lf : Int) (d : List Int) (q c : List (Ty.den wp)) := outa lve_ra (evCK Try.prog Γ (cfM Try.prog Γ cfgV2 30) (cfgV2.lo 33) [] 60 1 (lp 33 0) (st_ra k torn i r n3 m3 dn lf d q c))
theorem rn_ra_eq (k : List Int) (torn i : Int) (r n3 m3 : Nat) (dn : Bool) (lf : Int) (d : List Int) (q c : List (Ty.den wp)) : (rn_ra k torn i r n3 m3 dn lf d q c).run = (bif decide (i < (Nat.cast (m3) : Int)) then (bif decide (pre_hs k i (0 : Int)) then (bif bif decide (List.findIdx (fun x => x == i) k < k.length) then true else false then (bif decide ((0 : Int) ≤ i ∧ i < (Nat.cast (m3) : Int)) then (bif decide (0 + i.toNat < q.length) then (bif decide ((r + 1) * 2 * 24 ≤ 281474976710656) then (some (Ex.normal, [V.ptr (0 : Nat) (0 : Nat), V.slst Tag.ro ity k, V.si IntKind.i64 torn, V.bs true (2 : Nat) (0 : Nat) (r + (1 : Nat)), V.si IntKind.i64 (IntKind.i64.wrap (i + (1 : Int)))], [some [V.bs true (0 : Nat) (0 : Nat) n3, V.bs true (1 : Nat) (0 : Nat) m3, V.sb dn, V.si IntKind.i64 lf]], [some (Bf.live (BC.arr bty d)), some (Bf.live (BC.arr wp q)), some (Bf.live (BC.arr wp (List.take r (List.drop (0) c) ++ [mkP (offs (q.getD (0 + i.toNat) wp.dflt)) (pS' (q.getD (0 + i.toNat) wp.dflt))])))], (81 : Nat), (1 : Nat), (2 : Nat))) else none) else none) else none) else (some (Ex.normal, [V.ptr (0 : Nat) (0 : Nat), V.slst Tag.ro ity k, V.si IntKind.i64 torn, V.bs true (2 : Nat) (0 : Nat) r, V.si IntKind.i64 (IntKind.i64.wrap (i + (1 : Int)))], [some [V.bs true (0 : Nat) (0 : Nat) n3, V.bs true (1 : Nat) (0 : Nat) m3, V.sb dn, V.si IntKind.i64 lf]], [some (Bf.live (BC.arr bty d)), some (Bf.live (BC.arr wp q)), some (Bf.live (BC.arr wp c))], (81 : Nat), (1 : Nat), (2 : Nat)))) else none) else (some (Ex.exit (0 : Nat), [V.ptr (0 : Nat) (0 : Nat), V.si IntKind.i64 torn, V.bs true (2 : Nat) (0 : Nat) r], [some [V.bs true (0 : Nat) (0 : Nat) n3, V.bs true (1 : Nat) (0 : Nat) m3, V.sb dn, V.si IntKind.i64 lf]], [some (Bf.live (BC.arr bty d)), some (Bf.live (BC.arr wp q)), some (Bf.live (BC.arr wp c))], (81 : Nat), (1 : Nat), (2 : Nat)))) := by kernel_rfl
theorem rn_ra_c (k : List Int) (torn i : Int) (r n3 m3 : Nat) (dn : Bool) (lf : Int) (d : List Int) (q c : List (Ty.den wp)) {e : Ex} {vs : List V} {ob : Ob} {nm : Nm} {n' kh kt : Nat} (h : (rn_ra k torn i r n3 m3 dn lf d q c).run = some (e, vs, ob, nm, n', kh, kt)) : SemC Try.prog Γ (lp 33 0) (st_ra k torn i r n3 m3 dn lf d q c) e.to (St.of n' (lve_ra e) vs ob nm kh kt) := SemC.of_evM cfgV2_ok Try.func33 bd_ra li_ra h
/-- Which of the first i pending writes are kept, in order. -/
def hasB (k : List Int) (x : Int) : Bool := decide (k.findIdx (fun y => y == x) < k.length)
def flt (k : List Int) (q : List (Ty.den wp)) (i : Nat) : List (Ty.den wp) := ((List.range i).filter (fun r : Nat => hasB k (r : Int))).map (fun r : Nat => q.getD r wp.dflt)
theorem flt_succ (k : List Int) (q : List (Ty.den wp)) (i : Nat) : flt k q (i + 1) = flt k q i ++ (bif hasB k i then [q.getD i wp.dflt] else []) := by
  unfold flt
  rw [List.range_succ, List.filter_append, List.map_append]
  cases h : hasB k i <;> simp [h]
theorem flt_len (k : List Int) (q : List (Ty.den wp)) (i : Nat) : (flt k q i).length ≤ i := by
  unfold flt
  rw [List.length_map]
  exact Nat.le_trans (List.length_filter_le _ _) (by rw [List.length_range]; exact Nat.le_refl _)
abbrev pre_ra (k : List Int) (torn i : Int) (r n3 m3 : Nat) (dn : Bool) (lf : Int) (d : List Int) (q c : List (Ty.den wp)) : Prop := i = 0 ∧ r = 0 ∧ c.length = 0 ∧ m3 ≤ q.length ∧ m3 ≤ 1000 ∧ k.length ≤ 1000000
def rs_ra (k : List Int) (torn i : Int) (r n3 m3 : Nat) (dn : Bool) (lf : Int) (d : List Int) (q c : List (Ty.den wp)) : Ex × St := (.exit 0, St.of 81 (lve_ra (.exit 0)) [.ptr 0 0, .si .i64 torn, .bs true 2 0 (flt k q m3).length] [some [.bs true 0 0 n3, .bs true 1 0 m3, .sb dn, .si .i64 lf]] [some (.live (.arr bty d)), some (.live (.arr wp q)), some (.live (.arr wp (flt k q m3)))] hp_ra.kh hp_ra.kt)
def res_ra (k : List Int) (torn i : Int) (r n3 m3 : Nat) (dn : Bool) (lf : Int) (d : List Int) (q c : List (Ty.den wp)) : Tr (Ex × St) := .br (decide (pre_ra k torn i r n3 m3 dn lf d q c)) (.leaf (some (.exit 0, St.of 81 (lve_ra (.exit 0)) [.ptr 0 0, .si .i64 torn, .bs true 2 0 (flt k q m3).length] [some [.bs true 0 0 n3, .bs true 1 0 m3, .sb dn, .si .i64 lf]] [some (.live (.arr bty d)), some (.live (.arr wp q)), some (.live (.arr wp (flt k q m3)))] hp_ra.kh hp_ra.kt))) (.leaf none)
theorem res_ra_run (k : List Int) (torn i : Int) (r n3 m3 : Nat) (dn : Bool) (lf : Int) (d : List Int) (q c : List (Ty.den wp)) (h : pre_ra k torn i r n3 m3 dn lf d q c) : (res_ra k torn i r n3 m3 dn lf d q c).run = some (rs_ra k torn i r n3 m3 dn lf d q c) := by
  unfold res_ra rs_ra
  rw [decide_eq_true h]
  exact rfl
theorem res_ra_no (k : List Int) (torn i : Int) (r n3 m3 : Nat) (dn : Bool) (lf : Int) (d : List Int) (q c : List (Ty.den wp)) (h : ¬ pre_ra k torn i r n3 m3 dn lf d q c) : (res_ra k torn i r n3 m3 dn lf d q c).run = none := Tr.run_no h
def ent_ra : LEnt := LEnt.by hp_ra fun ⟨(_, k, torn, r, i, _), ((n3, m3, dn, lf, _), _), (d, q, c, _)⟩ => res_ra k torn i r n3 m3 dn lf d q c
theorem ent_ra_ok (hgo : ∀ (k : List Int) (torn i : Int) (r n3 m3 : Nat) (dn : Bool) (lf : Int) (d : List Int) (q c : List (Ty.den wp)), pre_ra k torn i r n3 m3 dn lf d q c → SemL Try.prog Γ (lp 33 0) (st_ra k torn i r n3 m3 dn lf d q c) (rs_ra k torn i r n3 m3 dn lf d q c).1.to (rs_ra k torn i r n3 m3 dn lf d q c).2) : EntOk Try.prog Γ (lp 33 0) ent_ra := LEnt.by_ok fun ⟨(_, k, torn, r, i, _), ((n3, m3, dn, lf, _), _), (d, q, c, _)⟩ ex_ s_ h_ => by
  have h_ : (res_ra k torn i r n3 m3 dn lf d q c).run = some (ex_, s_) := h_
  by_cases hp_ : pre_ra k torn i r n3 m3 dn lf d q c
  · rw [res_ra_run k torn i r n3 m3 dn lf d q c hp_] at h_
    obtain ⟨rfl, rfl⟩ := Prod.mk.inj (Option.some.inj h_)
    exact hgo k torn i r n3 m3 dn lf d q c hp_
  · rw [res_ra_no k torn i r n3 m3 dn lf d q c hp_] at h_
    cases h_
theorem ra_go (k : List Int) (torn i : Int) (r n3 m3 : Nat) (dn : Bool) (lf : Int) (d : List Int) (q c : List (Ty.den wp)) (h : pre_ra k torn i r n3 m3 dn lf d q c) : SemL Try.prog Γ (lp 33 0) (st_ra k torn i r n3 m3 dn lf d q c) (rs_ra k torn i r n3 m3 dn lf d q c).1.to (rs_ra k torn i r n3 m3 dn lf d q c).2 := by
  obtain ⟨rfl, rfl, hc, hm, hm2, hk⟩ := h
  obtain rfl : c = [] := List.length_eq_zero_iff.1 hc
  show SemL Try.prog Γ (lp 33 0) (st_ra k torn ((0 : Nat) : Int) (flt k q 0).length n3 m3 dn lf d q (flt k q 0)) _ _
  refine SemL.scan (P := Try.prog) (Γ := Γ) (b := lp 33 0) m3 0 (Nat.zero_le _) (fun i => st_ra k torn (i : Nat) (flt k q i).length n3 m3 dn lf d q (flt k q i)) (fun _ => true) _ ?_ ?_ ?_
  · intro i _ hi _ _
    refine rn_ra_c k torn i (flt k q i).length n3 m3 dn lf d q (flt k q i) (e := .normal) ?_
    have hw : IntKind.i64.wrap ((i : Int) + 1) = ((i + 1 : Nat) : Int) := by rw [wrap_in (by omega) (by omega)]; rfl
    have p1 : pre_hs k i 0 := ⟨rfl, hk⟩
    have hfl := flt_len k q i
    have hs := flt_succ k q i
    have hh : decide (k.findIdx (fun y => y == (i : Int)) < k.length) = hasB k i := rfl
    rw [rn_ra_eq, hw, Int.toNat_natCast, Nat.zero_add, decide_eq_true (by omega : (i : Int) < (m3 : Int)), decide_eq_true p1, hh, decide_eq_true (by omega : (0 : Int) ≤ i ∧ (i : Int) < (m3 : Int)), decide_eq_true (by omega : i < q.length), decide_eq_true (by omega : ((flt k q i).length + 1) * 2 * 24 ≤ 281474976710656)]
    cases hb : hasB k i with
    | true =>
      rw [hb] at hs
      rw [show (flt k q (i + 1)).length = (flt k q i).length + 1 by rw [hs]; simp, hs, List.drop_zero, List.take_length]
      rfl
    | false =>
      rw [hb] at hs
      simp only [cond_false, List.append_nil] at hs
      rw [hs]
      rfl
  · intro i _ _ _ h; cases h
  · intro _
    refine ⟨by simp [rs_ra, Ex.to], rn_ra_c k torn m3 (flt k q m3).length n3 m3 dn lf d q (flt k q m3) (e := .exit 0) ?_⟩
    rw [rn_ra_eq, decide_eq_false (by omega)]
    rfl
def hp_rb : HP := { n := 81, lv := [0, 2, 6, 8], sp := [.ptr 0 0, .ty ity, .bz 2, .ty ity], op := [.cells [.bz 0, .bz 1, .ty .bool, .ty ity]], bp := [.arr bty, .arr wp, .arr wp], kh := 1, kt := 2 }
def lve_rb : Ex → List Nat
  | .normal => [0, 2, 6, 8]
  | .exit 2 => [0]
  | _ => []
theorem bd_rb : Try.f33.body = some (root 33) := by kernel_rfl
theorem le_rb : (loops (root 33))[1]? = some (lp 33 1) := by kernel_rfl
theorem li_rb : Lies (root 33) 2 (lp 33 1) := Lies.of_take (n := 0) (by kernel_rfl)
-- 
-- 
def st_rb (torn i : Int) (r n3 m3 : Nat) (dn : Bool) (lf : Int) (d : List Int) (q c : List (Ty.den wp)) : St := hp_rb.st ⟨((), torn, r, i, ()), ((n3, m3, dn, lf, ()), ()), (d, q, c, ())⟩
noncomputable def rn_rb (torn i : Int) (r n3 m3 : Nat) (dn : Bool) (lf : Int) (d : List Int) (q c : List (Ty.den wp)) := outa lve_rb (evCK Try.prog Γ (cfM Try.prog Γ cfgV2 30) (cfgV2.lo 33) [] 60 2 (lp 33 1) (st_rb torn i r n3 m3 dn lf d q c))
theorem rn_rb_eq (torn i : Int) (r n3 m3 : Nat) (dn : Bool) (lf : Int) (d : List Int) (q c : List (Ty.den wp)) : (rn_rb torn i r n3 m3 dn lf d q c).run = (bif decide (i < (Nat.cast (r) : Int)) then (bif decide ((0 : Int) ≤ i ∧ i < (Nat.cast (r) : Int)) then (bif decide (0 + i.toNat < c.length) then (bif i == IntKind.i64.wrap ((Nat.cast (r) : Int) - (1 : Int)) then (bif decide (torn ≥ (0 : Int)) then (bif decide (torn < (Nat.cast ((ByteArray.size (pS' (c.getD (0 + i.toNat) wp.dflt)))) : Int)) then (bif decide ((0 : Int) ≤ (0 : Int) ∧ (0 : Int) ≤ torn ∧ torn ≤ (Nat.cast ((ByteArray.size (pS' (c.getD (0 + i.toNat) wp.dflt)))) : Int)) then (bif decide ((0 : Int) ≤ i ∧ i < (Nat.cast (r) : Int)) then (bif decide (0 + i.toNat < c.length) then (bif decide (cn_g44 n3 (offs (c.getD (0 + i.toNat) wp.dflt)) (ByteArray.extract (pS' (c.getD (0 + i.toNat) wp.dflt)) (0) torn.toNat) d) then (some (Ex.normal, [V.ptr (0 : Nat) (0 : Nat), V.si IntKind.i64 torn, V.bs true (2 : Nat) (0 : Nat) r, V.si IntKind.i64 (IntKind.i64.wrap (i + (1 : Int)))], [some [V.bs true (0 : Nat) (0 : Nat) n3, V.bs true (1 : Nat) (0 : Nat) m3, V.sb dn, V.si IntKind.i64 lf]], [some (Bf.live (BC.arr bty (putN d (Int.toNat (offs (c.getD (0 + i.toNat) wp.dflt))) (ByteArray.extract (pS' (c.getD (0 + i.toNat) wp.dflt)) (0) torn.toNat) (ByteArray.extract (pS' (c.getD (0 + i.toNat) wp.dflt)) (0) torn.toNat).size))), some (Bf.live (BC.arr wp q)), some (Bf.live (BC.arr wp c))], (81 : Nat), (1 : Nat), (2 : Nat))) else none) else none) else none) else none) else (bif decide ((0 : Int) ≤ i ∧ i < (Nat.cast (r) : Int)) then (bif decide (0 + i.toNat < c.length) then (bif decide (cn_g44 n3 (offs (c.getD (0 + i.toNat) wp.dflt)) (pS' (c.getD (0 + i.toNat) wp.dflt)) d) then (some (Ex.normal, [V.ptr (0 : Nat) (0 : Nat), V.si IntKind.i64 torn, V.bs true (2 : Nat) (0 : Nat) r, V.si IntKind.i64 (IntKind.i64.wrap (i + (1 : Int)))], [some [V.bs true (0 : Nat) (0 : Nat) n3, V.bs true (1 : Nat) (0 : Nat) m3, V.sb dn, V.si IntKind.i64 lf]], [some (Bf.live (BC.arr bty (putN d (Int.toNat (offs (c.getD (0 + i.toNat) wp.dflt))) (pS' (c.getD (0 + i.toNat) wp.dflt)) (ByteArray.size (pS' (c.getD (0 + i.toNat) wp.dflt)))))), some (Bf.live (BC.arr wp q)), some (Bf.live (BC.arr wp c))], (81 : Nat), (1 : Nat), (2 : Nat))) else none) else none) else none)) else (bif decide ((0 : Int) ≤ i ∧ i < (Nat.cast (r) : Int)) then (bif decide (0 + i.toNat < c.length) then (bif decide (cn_g44 n3 (offs (c.getD (0 + i.toNat) wp.dflt)) (pS' (c.getD (0 + i.toNat) wp.dflt)) d) then (some (Ex.normal, [V.ptr (0 : Nat) (0 : Nat), V.si IntKind.i64 torn, V.bs true (2 : Nat) (0 : Nat) r, V.si IntKind.i64 (IntKind.i64.wrap (i + (1 : Int)))], [some [V.bs true (0 : Nat) (0 : Nat) n3, V.bs true (1 : Nat) (0 : Nat) m3, V.sb dn, V.si IntKind.i64 lf]], [some (Bf.live (BC.arr bty (putN d (Int.toNat (offs (c.getD (0 + i.toNat) wp.dflt))) (pS' (c.getD (0 + i.toNat) wp.dflt)) (ByteArray.size (pS' (c.getD (0 + i.toNat) wp.dflt)))))), some (Bf.live (BC.arr wp q)), some (Bf.live (BC.arr wp c))], (81 : Nat), (1 : Nat), (2 : Nat))) else none) else none) else none)) else (bif decide ((0 : Int) ≤ i ∧ i < (Nat.cast (r) : Int)) then (bif decide (0 + i.toNat < c.length) then (bif decide (cn_g44 n3 (offs (c.getD (0 + i.toNat) wp.dflt)) (pS' (c.getD (0 + i.toNat) wp.dflt)) d) then (some (Ex.normal, [V.ptr (0 : Nat) (0 : Nat), V.si IntKind.i64 torn, V.bs true (2 : Nat) (0 : Nat) r, V.si IntKind.i64 (IntKind.i64.wrap (i + (1 : Int)))], [some [V.bs true (0 : Nat) (0 : Nat) n3, V.bs true (1 : Nat) (0 : Nat) m3, V.sb dn, V.si IntKind.i64 lf]], [some (Bf.live (BC.arr bty (putN d (Int.toNat (offs (c.getD (0 + i.toNat) wp.dflt))) (pS' (c.getD (0 + i.toNat) wp.dflt)) (ByteArray.size (pS' (c.getD (0 + i.toNat) wp.dflt)))))), some (Bf.live (BC.arr wp q)), some (Bf.live (BC.arr wp c))], (81 : Nat), (1 : Nat), (2 : Nat))) else none) else none) else none)) else none) else none) else (some (Ex.exit (2 : Nat), [V.ptr (0 : Nat) (0 : Nat)], [some [V.bs true (0 : Nat) (0 : Nat) n3, V.bs true (1 : Nat) (0 : Nat) m3, V.sb dn, V.si IntKind.i64 lf]], [some (Bf.live (BC.arr bty d)), some (Bf.live (BC.arr wp q))], (81 : Nat), (1 : Nat), (2 : Nat)))) := by kernel_rfl
theorem rn_rb_c (torn i : Int) (r n3 m3 : Nat) (dn : Bool) (lf : Int) (d : List Int) (q c : List (Ty.den wp)) {e : Ex} {vs : List V} {ob : Ob} {nm : Nm} {n' kh kt : Nat} (h : (rn_rb torn i r n3 m3 dn lf d q c).run = some (e, vs, ob, nm, n', kh, kt)) : SemC Try.prog Γ (lp 33 1) (st_rb torn i r n3 m3 dn lf d q c) e.to (St.of n' (lve_rb e) vs ob nm kh kt) := SemC.of_evM cfgV2_ok Try.func33 bd_rb li_rb h
/-- What the kept writes make of a content; the last one may be torn. -/
def sR (torn : Int) (L : List (Ty.den wp)) (i : Nat) : ByteArray := if i + 1 = L.length ∧ torn ≥ 0 ∧ torn < ((pS' (L.getD i wp.dflt)).size : Int) then (pS' (L.getD i wp.dflt)).extract 0 torn.toNat else pS' (L.getD i wp.dflt)
def crR (torn : Int) (L : List (Ty.den wp)) : Nat → List Int → List Int
  | 0, d => d
  | i + 1, d => putN (crR torn L i d) (offs (L.getD i wp.dflt)).toNat (sR torn L i) (sR torn L i).size
theorem sR_size (torn : Int) (L : List (Ty.den wp)) (i : Nat) : (sR torn L i).size ≤ (pS' (L.getD i wp.dflt)).size := by
  unfold sR
  split
  · rw [ByteArray.size_extract]; omega
  · exact Nat.le_refl _
theorem crR_len {torn : Int} {L : List (Ty.den wp)} {d : List Int} (hf : ∀ w ∈ L.take L.length, fitW d.length w) : ∀ i, i ≤ L.length → (crR torn L i d).length = d.length
  | 0, _ => rfl
  | i + 1, hi => by
    have ih := crR_len (torn := torn) hf i (by omega)
    obtain ⟨h1, h2⟩ := fit_get (Nat.le_refl _) hf (show i < L.length by omega)
    have := sR_size torn L i
    simp only [crR]
    rw [putN_len (by omega) (Nat.le_refl _), ih]
abbrev pre_rb (torn i : Int) (r n3 m3 : Nat) (dn : Bool) (lf : Int) (d : List Int) (q c : List (Ty.den wp)) : Prop := i = 0 ∧ r = c.length ∧ r ≤ 1000 ∧ n3 = d.length ∧ n3 ≤ 4194304 ∧ ∀ w ∈ c.take r, fitW n3 w
def rs_rb (torn i : Int) (r n3 m3 : Nat) (dn : Bool) (lf : Int) (d : List Int) (q c : List (Ty.den wp)) : Ex × St := (.exit 2, St.of 81 (lve_rb (.exit 2)) [.ptr 0 0] [some [.bs true 0 0 n3, .bs true 1 0 m3, .sb dn, .si .i64 lf]] [some (.live (.arr bty (crR torn c r d))), some (.live (.arr wp q))] hp_rb.kh hp_rb.kt)
def res_rb (torn i : Int) (r n3 m3 : Nat) (dn : Bool) (lf : Int) (d : List Int) (q c : List (Ty.den wp)) : Tr (Ex × St) := .br (decide (pre_rb torn i r n3 m3 dn lf d q c)) (.leaf (some (.exit 2, St.of 81 (lve_rb (.exit 2)) [.ptr 0 0] [some [.bs true 0 0 n3, .bs true 1 0 m3, .sb dn, .si .i64 lf]] [some (.live (.arr bty (crR torn c r d))), some (.live (.arr wp q))] hp_rb.kh hp_rb.kt))) (.leaf none)
theorem res_rb_run (torn i : Int) (r n3 m3 : Nat) (dn : Bool) (lf : Int) (d : List Int) (q c : List (Ty.den wp)) (h : pre_rb torn i r n3 m3 dn lf d q c) : (res_rb torn i r n3 m3 dn lf d q c).run = some (rs_rb torn i r n3 m3 dn lf d q c) := by
  unfold res_rb rs_rb
  rw [decide_eq_true h]
  exact rfl
theorem res_rb_no (torn i : Int) (r n3 m3 : Nat) (dn : Bool) (lf : Int) (d : List Int) (q c : List (Ty.den wp)) (h : ¬ pre_rb torn i r n3 m3 dn lf d q c) : (res_rb torn i r n3 m3 dn lf d q c).run = none := Tr.run_no h
def ent_rb : LEnt := LEnt.by hp_rb fun ⟨(_, torn, r, i, _), ((n3, m3, dn, lf, _), _), (d, q, c, _)⟩ => res_rb torn i r n3 m3 dn lf d q c
theorem ent_rb_ok (hgo : ∀ (torn i : Int) (r n3 m3 : Nat) (dn : Bool) (lf : Int) (d : List Int) (q c : List (Ty.den wp)), pre_rb torn i r n3 m3 dn lf d q c → SemL Try.prog Γ (lp 33 1) (st_rb torn i r n3 m3 dn lf d q c) (rs_rb torn i r n3 m3 dn lf d q c).1.to (rs_rb torn i r n3 m3 dn lf d q c).2) : EntOk Try.prog Γ (lp 33 1) ent_rb := LEnt.by_ok fun ⟨(_, torn, r, i, _), ((n3, m3, dn, lf, _), _), (d, q, c, _)⟩ ex_ s_ h_ => by
  have h_ : (res_rb torn i r n3 m3 dn lf d q c).run = some (ex_, s_) := h_
  by_cases hp_ : pre_rb torn i r n3 m3 dn lf d q c
  · rw [res_rb_run torn i r n3 m3 dn lf d q c hp_] at h_
    obtain ⟨rfl, rfl⟩ := Prod.mk.inj (Option.some.inj h_)
    exact hgo torn i r n3 m3 dn lf d q c hp_
  · rw [res_rb_no torn i r n3 m3 dn lf d q c hp_] at h_
    cases h_
theorem rb_go (torn i : Int) (r n3 m3 : Nat) (dn : Bool) (lf : Int) (d : List Int) (q c : List (Ty.den wp)) (h : pre_rb torn i r n3 m3 dn lf d q c) : SemL Try.prog Γ (lp 33 1) (st_rb torn i r n3 m3 dn lf d q c) (rs_rb torn i r n3 m3 dn lf d q c).1.to (rs_rb torn i r n3 m3 dn lf d q c).2 := by
  obtain ⟨rfl, rfl, hr, rfl, hn, hf⟩ := h
  refine SemL.scan (P := Try.prog) (Γ := Γ) (b := lp 33 1) c.length 0 (Nat.zero_le _) (fun i => st_rb torn (i : Nat) c.length d.length m3 dn lf (crR torn c i d) q c) (fun _ => true) _ ?_ ?_ ?_
  · intro i _ hi _ _
    refine rn_rb_c torn i c.length d.length m3 dn lf (crR torn c i d) q c (e := .normal) ?_
    have hw : IntKind.i64.wrap ((i : Int) + 1) = ((i + 1 : Nat) : Int) := by rw [wrap_in (by omega) (by omega)]; rfl
    have hw2 : IntKind.i64.wrap ((c.length : Int) - 1) = (c.length : Int) - 1 := wrap_in (by omega) (by omega)
    obtain ⟨f1, f2⟩ := fit_get (Nat.le_refl _) hf hi
    have hl := crR_len (torn := torn) hf i (by omega)
    have hss := sR_size torn c i
    have c1 : cn_g44 d.length (offs (c.getD i wp.dflt)) (sR torn c i) (crR torn c i d) := ⟨f1, by omega, by omega, hn⟩
    have ec : crR torn c (i + 1) d = putN (crR torn c i d) (offs (c.getD i wp.dflt)).toNat (sR torn c i) (sR torn c i).size := rfl
    rw [rn_rb_eq, hw, hw2, Int.toNat_natCast, Nat.zero_add, decide_eq_true (by omega : (i : Int) < (c.length : Int)), decide_eq_true (by omega : (0 : Int) ≤ i ∧ (i : Int) < (c.length : Int)), decide_eq_true hi, ec]
    by_cases h1 : i + 1 = c.length
    · rw [show ((i : Int) == (c.length : Int) - 1) = true by rw [beq_iff_eq]; omega]
      by_cases h2 : torn ≥ 0
      · by_cases h3 : torn < ((pS' (c.getD i wp.dflt)).size : Int)
        · have hs : sR torn c i = (pS' (c.getD i wp.dflt)).extract 0 torn.toNat := if_pos ⟨h1, h2, h3⟩
          rw [hs] at c1
          rw [hs, decide_eq_true h2, decide_eq_true h3, decide_eq_true c1, decide_eq_true (by omega)]
          rfl
        · have hs : sR torn c i = pS' (c.getD i wp.dflt) := if_neg (fun h => h3 h.2.2)
          rw [hs] at c1
          rw [hs, decide_eq_true h2, decide_eq_false h3, decide_eq_true c1]
          rfl
      · have hs : sR torn c i = pS' (c.getD i wp.dflt) := if_neg (fun h => h2 h.2.1)
        rw [hs] at c1
        rw [hs, decide_eq_false h2, decide_eq_true c1]
        rfl
    · have hs : sR torn c i = pS' (c.getD i wp.dflt) := if_neg (fun h => h1 h.1)
      rw [hs] at c1
      rw [hs, show ((i : Int) == (c.length : Int) - 1) = false by rw [beq_eq_false_iff_ne]; omega, decide_eq_true c1]
      rfl
  · intro i _ _ _ h; cases h
  · intro _
    refine ⟨by simp [rs_rb, Ex.to], rn_rb_c torn c.length c.length d.length m3 dn lf (crR torn c c.length d) q c (e := .exit 2) ?_⟩
    rw [rn_rb_eq, decide_eq_false (by omega)]
    rfl
def loR3 : LOrc := (LOrc.add (LOrc.add loR2 33 0 ent_ra) 33 1 ent_rb)
theorem loR3_ok : LOrcOk Try.prog Γ loR3 := (LOrcOk.add (LOrcOk.add loR2_ok 33 0 Try.func33 bd_ra le_ra (ent_ra_ok ra_go)) 33 1 Try.func33 bd_rb le_rb (ent_rb_ok rb_go))
noncomputable def cfgV3 : Cfg := { cfgV1 with lo := loR3 }
theorem cfgV3_ok : CfgOk Try.prog Γ cfgV3 := { cfgV1_ok with lo := loR3_ok }
def fp_g33 : FP := ⟨[.ptr 0 0, .ty (.slice ity), .ty ity], [.cells [.bz 0, .bz 1, .ty .bool, .ty ity]], [.arr bty, .arr wp]⟩
abbrev cn_g33 (k : List Int) (torn : Int) (n3 m3 : Nat) (dn : Bool) (lf : Int) (d : List Int) (q : List (Ty.den wp)) : Prop := k.length ≤ 1000000 ∧ n3 = d.length ∧ n3 ≤ 4194304 ∧ m3 ≤ q.length ∧ m3 ≤ 1000 ∧ ∀ w ∈ q.take m3, fitW n3 w
noncomputable def cr_g33 (k : List Int) (torn : Int) (n3 m3 : Nat) (dn : Bool) (lf : Int) (d : List Int) (q : List (Ty.den wp)) : Option Bool × V × Ob × Nm := (some (decide (cn_g33 k torn n3 m3 dn lf d q)), .tup [], [some [.bs true 0 0 n3, .bs true 1 0 0, .b false, .i .i64 0]], [some (.live (.arr bty (crR torn (flt k q m3) (flt k q m3).length d))), some (.live (.arr wp q))])
noncomputable def ct_g33 := Ct.by fp_g33 fun ⟨(_, k, torn, _), ((n3, m3, dn, lf, _), _), (d, q, _)⟩ => cr_g33 k torn n3 m3 dn lf d q
abbrev sf_g33 (k : List Int) (torn : Int) (n3 m3 : Nat) (dn : Bool) (lf : Int) (d : List Int) (q : List (Ty.den wp)) : Prop := SemF Try.prog Γ 33 (SP.vals fp_g33.sp ((), k, torn, ())) (OP.vals fp_g33.op ((n3, m3, dn, lf, ()), ())) (BP.vals fp_g33.bp (d, q, ())) (.tup []) ([some [.bs true 0 0 n3, .bs true 1 0 0, .b false, .i .i64 0]]) ([some (.live (.arr bty (crR torn (flt k q m3) (flt k q m3).length d))), some (.live (.arr wp q))])
noncomputable def ev_g33 (C : Cfg) (lv : List Nat) (k : List Int) (torn : Int) (n3 m3 : Nat) (dn : Bool) (lf : Int) (d : List Int) (q : List (Ty.den wp)) := evV Try.prog Γ C lv 33 (SP.vals fp_g33.sp ((), k, torn, ())) (OP.vals fp_g33.op ((n3, m3, dn, lf, ()), ())) (BP.vals fp_g33.bp (d, q, ()))
theorem cr_g33_ok (k : List Int) (torn : Int) (n3 m3 : Nat) (dn : Bool) (lf : Int) (d : List Int) (q : List (Ty.den wp)) (h : (cr_g33 k torn n3 m3 dn lf d q).1.getD true = true) : cn_g33 k torn n3 m3 dn lf d q := of_decide_eq_true h
theorem ct_g33_ok (H : ∀ (k : List Int) (torn : Int) (n3 m3 : Nat) (dn : Bool) (lf : Int) (d : List Int) (q : List (Ty.den wp)), cn_g33 k torn n3 m3 dn lf d q → sf_g33 k torn n3 m3 dn lf d q) : ∀ args ob nm c v ob1 nm1, ct_g33 args ob nm = some (c, v, ob1, nm1) → c.getD true = true → SemF Try.prog Γ 33 args ob nm v ob1 nm1 := Ct.by_ok fun ⟨(_, k, torn, _), ((n3, m3, dn, lf, _), _), (d, q, _)⟩ h => H k torn n3 m3 dn lf d q (cr_g33_ok k torn n3 m3 dn lf d q h)
theorem t33_eq (k : List Int) (torn : Int) (n3 m3 : Nat) (dn : Bool) (lf : Int) (d : List Int) (q : List (Ty.den wp)) : (ev_g33 cfgV3 [] k torn n3 m3 dn lf d q).run = (bif decide (pre_ra k torn (0 : Int) (0) n3 m3 dn lf d q []) then (bif decide (pre_rb torn (0 : Int) (flt k q m3).length n3 m3 dn lf d q (flt k q m3)) then (some (V.tup [], [some [V.bs true (0 : Nat) (0 : Nat) n3, V.lst Tag.full [], V.b false, V.i IntKind.i64 (0 : Int)]], [some (Bf.live (BC.arr bty (crR torn (flt k q m3) (flt k q m3).length d))), some (Bf.live (BC.arr wp q))])) else none) else none) := by kernel_rfl
theorem flt_fit {k : List Int} {q : List (Ty.den wp)} {n m : Nat} (hm : m ≤ q.length) (hf : ∀ w ∈ q.take m, fitW n w) : ∀ w ∈ flt k q m, fitW n w := by
  intro w hw
  unfold flt at hw
  rw [List.mem_map] at hw
  obtain ⟨r, hr, rfl⟩ := hw
  rw [List.mem_filter, List.mem_range] at hr
  exact fit_get hm hf hr.1
theorem g33_go (k : List Int) (torn : Int) (n3 m3 : Nat) (dn : Bool) (lf : Int) (d : List Int) (q : List (Ty.den wp)) (h : cn_g33 k torn n3 m3 dn lf d q) : sf_g33 k torn n3 m3 dn lf d q := by
  obtain ⟨hk, rfl, hn, hm, hm2, hf⟩ := h
  have p1 : pre_ra k torn 0 0 d.length m3 dn lf d q [] := ⟨rfl, rfl, rfl, hm, hm2, hk⟩
  have p2 : pre_rb torn 0 (flt k q m3).length d.length m3 dn lf d q (flt k q m3) := ⟨rfl, rfl, Nat.le_trans (flt_len k q m3) hm2, rfl, hn, fun w hw => flt_fit hm hf w (List.mem_of_mem_take hw)⟩
  have h0 := SemF.of_tree cfgV3_ok (lv := []) (Eq.trans (t33_eq k torn d.length m3 dn lf d q) (by rw [decide_eq_true p1, decide_eq_true p2]; rfl))
  exact h0.nilBs 0 1 1 rfl rfl
noncomputable def T8_0 : CallT := fun f args ob nm => match Nat.beq f 34 with | true => ct_g34 args ob nm | false => T7 f args ob nm
theorem T8_0_ok : CtOk Try.prog Γ T8_0 := CtOk.cons T7_ok 34 ct_g34 (by decide) Try.f34 Try.func34 (by kernel_rfl) (by kernel_rfl) (ct_g34_ok g34_go)
noncomputable def T8 : CallT := fun f args ob nm => match Nat.beq f 33 with | true => ct_g33 args ob nm | false => T8_0 f args ob nm
theorem T8_ok : CtOk Try.prog Γ T8 := CtOk.cons T8_0_ok 33 ct_g33 (by decide) Try.f33 Try.func33 (by kernel_rfl) (by kernel_rfl) (ct_g33_ok g33_go)
end D
end Go.Proofs.Ytnjjkobijjdnbaa

