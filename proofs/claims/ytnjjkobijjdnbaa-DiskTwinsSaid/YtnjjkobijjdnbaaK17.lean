/- Package disk: the entry of the loop of DiskTwins. -/
import Derived.Test.YtnjjkobijjdnbaaK16
set_option linter.unusedVariables false
set_option linter.unusedSimpArgs false
set_option maxRecDepth 100000
set_option maxHeartbeats 4000000
namespace Go.Proofs.Ytnjjkobijjdnbaa
open Go
namespace D
def PostW0 (n : Int) (l : List (Ty.den wt)) (x y : List Int) (dx dy : List Int) (z : DS × DS) : Prop := PostW n z ∧ SemL Try.prog G0 (lp 11 0) (hdW n 0 ⟨x, y, [], 0⟩ ⟨dx, dy, [], 0⟩ ⟨x, y, [], 0⟩ l) (.exit 0) (outW n z)
open Classical in
/-- Where the loop ends. -/
noncomputable def zW (n : Int) (l : List (Ty.den wt)) (x y dx dy : List Int) : DS × DS := if h : ∃ z, PostW0 n l x y dx dy z then Classical.choose h else (⟨[], [], [], 0⟩, ⟨[], [], [], 0⟩)
theorem zW_ok {n : Int} {l : List (Ty.den wt)} {x y dx dy : List Int} (h1 : 1 ≤ n) (h2 : n ≤ 300) (hl : ∀ w ∈ l, inr (wO w) = true) (a1 : x.length = n.toNat) (a2 : y.length = n.toNat) (a3 : dx.length = n.toNat) (a4 : dy.length = n.toNat) : PostW0 n l x y dx dy (zW n l x y dx dy) := by
  have h : ∃ z, PostW0 n l x y dx dy z := by
    obtain ⟨z, h3, h4⟩ := w_loop n h1 h2 l hl ⟨0, ⟨x, y, [], 0⟩, ⟨dx, dy, [], 0⟩, ⟨x, y, [], 0⟩⟩ ⟨Nat.zero_le _, Nat.zero_le _, ⟨a1, a2⟩, ⟨a3, a4⟩, ⟨a1, a2⟩, rfl, Nat.le_refl _, Nat.le_refl _⟩
    exact ⟨z, h3, h4⟩
  unfold zW
  rw [dif_pos h]
  exact Classical.choose_spec h
def nob (n : Int) (k k' : Nat) (p : V) : Option (List V) := some [.b false, .i .i64 0, .bs true k 0 n.toNat, .bs true k' 0 n.toNat, p]
def svW (n : Int) (l : List (Ty.den wt)) (i : V) : List V := [.si .i64 n, .slst .ro wt l, .b true, .ptr 0 0, .ptr 1 0, .ptr 2 0, i]
/-- The head's state with its pending writes born. -/
theorem w_head {n : Int} {l : List (Ty.den wt)} {x y dx dy : List Int} {z : DS × DS} (h : SemL Try.prog G0 (lp 11 0) (hdW n 0 ⟨x, y, [], 0⟩ ⟨dx, dy, [], 0⟩ ⟨x, y, [], 0⟩ l) (.exit 0) (outW n z)) :
    SemL Try.prog G0 (lp 11 0) (St.of 150 [0, 1, 5, 6, 8, 10, 12] (svW n l (.i .i64 0)) [nob n 0 1 (.lst .full []), nob n 2 3 (.lst .full []), nob n 4 5 (.lst .full [])] [u8 x, u8 y, u8 dx, u8 dy, u8 x, u8 y] 0 0) (.exit 0) (outW n z) := by
  have e1 : SemL Try.prog G0 (lp 11 0) (St.of 150 [0, 1, 5, 6, 8, 10, 12] (svW n l (.si .i64 0)) [nob n 0 1 (.bs true 6 0 0), nob n 2 3 (.bs true 7 0 0), nob n 4 5 (.bs true 8 0 0)] [u8 x, u8 y, u8 dx, u8 dy, u8 x, u8 y, pq [], pq [], pq []] 0 0) (.exit 0) (outW n z) :=
    SemL.preRen (n := 150) (po := [0, 1, 2]) (pn := [0, 1, 6, 2, 3, 7, 4, 5, 8]) (lv := [0, 1, 5, 6, 8, 10, 12]) (by kernel_rfl) (show _ = some (svW n l (.si .i64 0), [dob n 0 0, dob n 3 0, dob n 6 0], [u8 x, u8 y, pq [], u8 dx, u8 dy, pq [], u8 x, u8 y, pq []]) by kernel_rfl) h
  have e2 : SemL Try.prog G0 (lp 11 0) (St.of 150 [0, 1, 5, 6, 8, 10, 12] (svW n l (.i .i64 0)) [nob n 0 1 (.bs true 6 0 0), nob n 2 3 (.bs true 7 0 0), nob n 4 5 (.bs true 8 0 0)] [u8 x, u8 y, u8 dx, u8 dy, u8 x, u8 y, pq [], pq [], pq []] 0 0) (.exit 0) (outW n z) := by
    refine e1.pre (St.of_imp rfl ?_)
    intro G j v v' a b cv hv
    match j, a, b with
    | 0, a, b => simp [svW] at a b; subst a; subst b; exact hv
    | 1, a, b => simp [svW] at a b; subst a; subst b; exact hv
    | 2, a, b => simp [svW] at a b; subst a; subst b; exact hv
    | 3, a, b => simp [svW] at a b; subst a; subst b; exact hv
    | 4, a, b => simp [svW] at a b; subst a; subst b; exact hv
    | 5, a, b => simp [svW] at a b; subst a; subst b; exact hv
    | 6, a, b => simp [svW] at a b; subst a; subst b; cases hv; exact .si _ _
    | n + 7, a, b => simp [svW] at a
  have e3 := e2.pre (St.birthO (Γ := G0) (kh := 0) (kt := 0) (n := 150) (lv := [0, 1, 5, 6, 8, 10, 12]) (vs := svW n l (.i .i64 0)) (ob := [nob n 0 1 (.bs true 6 0 0), nob n 2 3 (.bs true 7 0 0), nob n 4 5 (.lst .full [])]) (nm := [u8 x, u8 y, u8 dx, u8 dy, u8 x, u8 y, pq [], pq []]) (c := .arr wp []) 2 4 rfl rfl rfl)
  have e4 := e3.pre (St.birthO (Γ := G0) (kh := 0) (kt := 0) (n := 150) (lv := [0, 1, 5, 6, 8, 10, 12]) (vs := svW n l (.i .i64 0)) (ob := [nob n 0 1 (.bs true 6 0 0), nob n 2 3 (.lst .full []), nob n 4 5 (.lst .full [])]) (nm := [u8 x, u8 y, u8 dx, u8 dy, u8 x, u8 y, pq []]) (c := .arr wp []) 1 4 rfl rfl rfl)
  exact e4.pre (St.birthO (Γ := G0) (kh := 0) (kt := 0) (n := 150) (lv := [0, 1, 5, 6, 8, 10, 12]) (vs := svW n l (.i .i64 0)) (ob := [nob n 0 1 (.lst .full []), nob n 2 3 (.lst .full []), nob n 4 5 (.lst .full [])]) (nm := [u8 x, u8 y, u8 dx, u8 dy, u8 x, u8 y]) (c := .arr wp []) 0 4 rfl rfl rfl)
/-- The entry of the law's loop. -/
noncomputable def wE : LEnt := ⟨150, [0, 1, 5, 6, 8, 10, 12], fun kh kt vs ob nm =>
  match vs, ob, nm with
  | [.si .i64 n, .slst .ro (.agg [.int .i64, .str, .bool]) l, .b true, .ptr 0 0, .ptr 1 0, .ptr 2 0, .i .i64 z], [some [.b false, .i .i64 y0, .bs true 0 0 n0, .bs true 1 0 n1, .lst .full []], some [.b false, .i .i64 y1, .bs true 2 0 n2, .bs true 3 0 n3, .lst .full []], some [.b false, .i .i64 y2, .bs true 4 0 n4, .bs true 5 0 n5, .lst .full []]],
    [some (.live (.arr (.int .u8) x)), some (.live (.arr (.int .u8) y)), some (.live (.arr (.int .u8) dx)), some (.live (.arr (.int .u8) dy)), some (.live (.arr (.int .u8) ax)), some (.live (.arr (.int .u8) ay))] =>
    match Nat.beq kh 0, Nat.beq kt 0, decide (z = 0), decide (y0 = 0 ∧ y1 = 0 ∧ y2 = 0) with
    | true, true, true, true => some (.br (decide (n0 = n.toNat ∧ n1 = n.toNat ∧ n2 = n.toNat ∧ n3 = n.toNat ∧ n4 = n.toNat ∧ n5 = n.toNat ∧ 1 ≤ n ∧ n ≤ 300 ∧ x.length = n.toNat ∧ y.length = n.toNat ∧ dx.length = n.toNat ∧ dy.length = n.toNat) && (eqL ax x && (eqL ay y && (show List (Ty.den wt) from l).all fun w => inr (wO w)))) (.leaf (some (.exit 0, outW n (zW n l x y dx dy)))) (.leaf none))
    | _, _, _, _ => none
  | _, _, _ => none⟩
theorem wE_ok {kh kt : Nat} {vs : List V} {ob : Ob} {nm : Nm} {t : Tr (Ex × St)} {ex : Ex} {x : St} (h : wE.go kh kt vs ob nm = some t) (ht : t.run = some (ex, x)) : SemL Try.prog G0 (lp 11 0) (St.of wE.n wE.lv vs ob nm kh kt) ex.to x := by
  simp only [wE] at h
  split at h
  · rename_i n l z y0 n0 n1 y1 n2 n3 y2 n4 n5 x y dx dy ax ay
    split at h
    · rename_i e1 e2 e3 e4
      obtain rfl := Nat.eq_of_beq_eq_true e1
      obtain rfl := Nat.eq_of_beq_eq_true e2
      obtain rfl := of_decide_eq_true e3
      obtain ⟨rfl, rfl, rfl⟩ := of_decide_eq_true e4
      cases h
      simp only [Tr.run] at ht
      split at ht
      · rename_i hc
        rw [Bool.and_eq_true, Bool.and_eq_true, Bool.and_eq_true, decide_eq_true_eq] at hc
        obtain ⟨⟨rfl, rfl, rfl, rfl, rfl, rfl, h1, h2, h3, h4, h5, h6⟩, h7, h8, h9⟩ := hc
        have h7 : ax = x := eqL_eq h7
        have h8 : ay = y := eqL_eq h8
        subst h7
        subst h8
        cases ht
        have hl : ∀ w ∈ (show List (Ty.den wt) from l), inr (wO w) = true := fun w hw => List.all_eq_true.1 h9 w hw
        exact w_head (zW_ok h1 h2 hl h3 h4 h5 h6).2
      · cases ht
    · cases h
  · cases h
noncomputable def lo4 : LOrc := fun f i => match Nat.beq f 11, i with | true, 0 => some wE | _, _ => lo1 f i
theorem lo4_ok : LOrcOk Try.prog G0 lo4 := fun f i e h => by
  simp only [lo4] at h
  split at h
  · rename_i hf
    obtain rfl := Nat.eq_of_beq_eq_true hf
    cases h
    exact ⟨Try.f11, root 11, lp 11 0, Try.func11, body11, lp11, fun kh kt vs ob nm t ex s h1 h2 => wE_ok h1 h2⟩
  · exact lo1_ok _ _ _ h
noncomputable def cfgW : Cfg := { cfgR wy7 with lo := lo4 }
theorem cfgW_ok : CfgOk Try.prog G0 cfgW := { cfgR_ok wy7 with lo := lo4_ok }
end D
end Go.Proofs.Ytnjjkobijjdnbaa
