/- Package disk: the entry of the loop of DiskSynced. -/
import Derived.Test.YtnjjkobijjdnbaaK12
set_option linter.unusedVariables false
set_option linter.unusedSimpArgs false
set_option maxRecDepth 100000
set_option maxHeartbeats 4000000
namespace Go.Proofs.Ytnjjkobijjdnbaa
open Go
namespace D
def PostS (n torn : Int) (l : List (Ty.den wt)) (b dur : List Int) (z : ZS) : Prop :=
  (z.dur.length = n.toNat ∧ z.vis.length = n.toNat ∧ z.m ≤ 60) ∧ SemL Try.prog G0 (lp 7 0) (hdS n 0 torn (strOfNums dur) dur b b [] 0 l) (.exit 0) (outS n torn z)
open Classical in
/-- Where the loop ends. -/
noncomputable def zS (n torn : Int) (l : List (Ty.den wt)) (b dur : List Int) : ZS := if h : ∃ z, PostS n torn l b dur z then Classical.choose h else ⟨[], [], [], 0⟩
theorem zS_ok {n torn : Int} {l : List (Ty.den wt)} {b dur : List Int} (h1 : 1 ≤ n) (h2 : n ≤ 300) (hl : ∀ w ∈ l, inr (wO w) = true) (hd : dur.length = n.toNat) (hb : b.length = n.toNat) : PostS n torn l b dur (zS n torn l b dur) := by
  have h : ∃ z, PostS n torn l b dur z := by
    obtain ⟨z, h3, h4⟩ := s_loop n torn h1 h2 l hl ⟨0, dur, b, [], 0⟩ ⟨Nat.zero_le _, Nat.zero_le _, hd, hb, Nat.le_refl _⟩
    exact ⟨z, h3, h4⟩
  unfold zS
  rw [dif_pos h]
  exact Classical.choose_spec h
def eqB (x y : ByteArray) : Bool := decide (x.data = y.data)
theorem eqB_eq {x y : ByteArray} (h : eqB x y = true) : x = y := by
  have := of_decide_eq_true h
  cases x; cases y; simpa using this
/-- The entry of the law's loop. -/
noncomputable def sE : LEnt := ⟨102, [0, 1, 2, 7, 8, 10, 11, 12], fun kh kt vs ob nm =>
  match vs, ob, nm with
  | [.si .i64 n, .slst .ro (.agg [.int .i64, .str, .bool]) l, .si .i64 torn, .b true, .ptr 0 0, .bs true 0 0 n0, .ss sure, .i .i64 z], [some [.b false, .i .i64 y, .bs true 1 0 n1, .bs true 2 0 n2, .lst .full []]], [some (.live (.arr (.int .u8) b)), some (.live (.arr (.int .u8) dur)), some (.live (.arr (.int .u8) vis))] =>
    match Nat.beq kh 0, Nat.beq kt 0, decide (z = 0), decide (y = 0) with
    | true, true, true, true => some (.br (decide (n0 = n.toNat ∧ n1 = n.toNat ∧ n2 = n.toNat ∧ 1 ≤ n ∧ n ≤ 300 ∧ b.length = n.toNat ∧ dur.length = n.toNat) && (eqL vis b && (eqB sure (strOfNums dur) && (show List (Ty.den wt) from l).all fun w => inr (wO w)))) (.leaf (some (.exit 0, outS n torn (zS n torn l b dur)))) (.leaf none))
    | _, _, _, _ => none
  | _, _, _ => none⟩
theorem sE_ok {kh kt : Nat} {vs : List V} {ob : Ob} {nm : Nm} {t : Tr (Ex × St)} {ex : Ex} {x : St} (h : sE.go kh kt vs ob nm = some t) (ht : t.run = some (ex, x)) : SemL Try.prog G0 (lp 7 0) (St.of sE.n sE.lv vs ob nm kh kt) ex.to x := by
  simp only [sE] at h
  split at h
  · rename_i n l torn n0 sure z y n1 n2 b dur vis
    split at h
    · rename_i e1 e2 e3 e4
      obtain rfl := Nat.eq_of_beq_eq_true e1
      obtain rfl := Nat.eq_of_beq_eq_true e2
      obtain rfl := of_decide_eq_true e3
      obtain rfl := of_decide_eq_true e4
      cases h
      simp only [Tr.run] at ht
      split at ht
      · rename_i hc
        rw [Bool.and_eq_true, Bool.and_eq_true, Bool.and_eq_true, decide_eq_true_eq] at hc
        obtain ⟨⟨rfl, rfl, rfl, h1, h2, h3, h4⟩, h5, h7, h6⟩ := hc
        have h5 : vis = b := eqL_eq h5
        subst h5
        obtain rfl := eqB_eq h7
        cases ht
        have hl : ∀ w ∈ (show List (Ty.den wt) from l), inr (wO w) = true := fun w hw => List.all_eq_true.1 h6 w hw
        have key := (zS_ok (torn := torn) h1 h2 hl h4 h3).2
        have key2 : SemL Try.prog G0 (lp 7 0) (St.of 102 [0, 1, 2, 7, 8, 10, 11, 12] [.si .i64 n, .slst .ro wt l, .si .i64 torn, .b true, .ptr 0 0, .bs true 0 0 n.toNat, .ss (strOfNums dur), .i .i64 0] [some [.b false, .i .i64 0, .bs true 1 0 n.toNat, .bs true 2 0 n.toNat, .bs true 3 0 0]] [some (.live (.arr (.int .u8) vis)), some (.live (.arr (.int .u8) dur)), some (.live (.arr (.int .u8) vis)), some (.live (.arr wp []))] 0 0) (.exit 0) (outS n torn (zS n torn l vis dur)) := by
          refine key.pre (St.of_imp rfl ?_)
          intro G j v v' a b cv hv
          match j, a, b with
          | 0, a, b => simp at a b; subst a; subst b; exact hv
          | 1, a, b => simp at a b; subst a; subst b; exact hv
          | 2, a, b => simp at a b; subst a; subst b; exact hv
          | 3, a, b => simp at a b; subst a; subst b; exact hv
          | 4, a, b => simp at a b; subst a; subst b; exact hv
          | 5, a, b => simp at a b; subst a; subst b; exact hv
          | 6, a, b => simp at a b; subst a; subst b; exact hv
          | 7, a, b => simp at a b; subst a; subst b; cases hv; exact .si _ _
          | n + 8, a, b => simp at a
        exact key2.pre (St.birthO (Γ := G0) (kh := 0) (kt := 0) (n := 102) (lv := [0, 1, 2, 7, 8, 10, 11, 12]) (vs := [.si .i64 n, .slst .ro wt l, .si .i64 torn, .b true, .ptr 0 0, .bs true 0 0 n.toNat, .ss (strOfNums dur), .i .i64 0]) (ob := [some [.b false, .i .i64 0, .bs true 1 0 n.toNat, .bs true 2 0 n.toNat, .lst .full []]])
          (nm := [some (.live (.arr (.int .u8) vis)), some (.live (.arr (.int .u8) dur)), some (.live (.arr (.int .u8) vis))]) (c := .arr wp []) 0 4 rfl rfl rfl)
      · cases ht
    · cases h
  · cases h
noncomputable def lo3 : LOrc := fun f i => match Nat.beq f 7, i with | true, 0 => some sE | _, _ => lo1 f i
theorem lo3_ok : LOrcOk Try.prog G0 lo3 := fun f i e h => by
  simp only [lo3] at h
  split at h
  · rename_i hf
    obtain rfl := Nat.eq_of_beq_eq_true hf
    cases h
    exact ⟨Try.f7, root 7, lp 7 0, Try.func7, body7, lp7, fun kh kt vs ob nm t ex s h1 h2 => sE_ok h1 h2⟩
  · exact lo1_ok _ _ _ h
noncomputable def cfgT : Cfg := { cfgR wy7 with lo := lo3 }
theorem cfgT_ok : CfgOk Try.prog G0 cfgT := { cfgR_ok wy7 with lo := lo3_ok }
end D
end Go.Proofs.Ytnjjkobijjdnbaa
