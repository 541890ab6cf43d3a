/- UnitMonotone: the plain law, and its contract. -/
import Derived.Test.YtblnabilodbceaaDoorUNUnitMonotone
import Derived.Test.YtblnabilodbceaaDoorQ1
set_option linter.unusedVariables false
set_option linter.unusedSimpArgs false
set_option maxRecDepth 100000
set_option maxHeartbeats 4000000
namespace Go.Proofs.YtblnabilodbceaaDoor
open Go
namespace U
theorem mono_sc {A L H B t n d : Int} (h0 : 0 ≤ A) (h1 : A ≤ L) (h2 : L ≤ H) (h3 : H ≤ B) (hn : 0 ≤ n) (hd : 1 ≤ d) (h : given (A * n / d) ((B * n + d - 1) / d) t = true) :
    given (L * n / d) ((H * n + d - 1) / d) t = true ∧ contains (A * n / d) ((B * n + d - 1) / d) t (L * n / d) ((H * n + d - 1) / d) t = true := by
  have g := given_iff.1 h
  have m1 := Int.mul_le_mul_of_nonneg_right h1 hn
  have m2 := Int.mul_le_mul_of_nonneg_right h2 hn
  have m3 := Int.mul_le_mul_of_nonneg_right h3 hn
  have d1 : A * n / d ≤ L * n / d := Int.ediv_le_ediv (by omega) m1
  have d2 : L * n / d ≤ (H * n + d - 1) / d := Int.ediv_le_ediv (by omega) (by omega)
  have d3 : (H * n + d - 1) / d ≤ (B * n + d - 1) / d := Int.ediv_le_ediv (by omega) (by omega)
  have e : given (L * n / d) ((H * n + d - 1) / d) t = true := given_iff.2 (by omega)
  exact ⟨e, contains_of h e d1 d3⟩
theorem share_eq6 {L H u p q : Int} (hg : given L H u = true) (h1 : 0 ≤ p) (h2 : p ≤ 1000000) (h3 : 1 ≤ q) (h4 : q ≤ 1000000) : share L H u p q = if given (L * p / q) ((H * p + q - 1) / q) u then ⟨L * p / q, (H * p + q - 1) / q, u, 0⟩ else bad := by
  simp [share, hg, scaled, checked, h1, h2, h3, h4]
/-- What one answer has to do with another. -/
def Over (a b : R) : Prop := a.e = 0 → b.e = 0 ∧ contains a.lo a.hi a.u b.lo b.hi b.u = true
theorem Over.of_if {x y : Bool} {a b : R} (h : x = true → y = true ∧ contains a.lo a.hi a.u b.lo b.hi b.u = true) (he : b.e = 0) : Over (if x then a else bad) (if y then b else bad) := by
  intro h0
  cases x with
  | false => simp [bad] at h0
  | true =>
    obtain ⟨h1, h2⟩ := h rfl
    simp [h1, he, h2]
theorem Over.e {a b : R} (h : Over a b) (k : a.e = 0) : b.e = 0 := (h k).1
theorem Over.c {a b : R} (h : Over a b) (k : a.e = 0) : contains a.lo a.hi a.u b.lo b.hi b.u = true := (h k).2
theorem law6 (x y z l m r s g n d i j k : Int) (hx : inr x = true) (hy : inr y = true) (hz : inr z = true) (hl : inr l = true) (hm : inr m = true) (hr : inr r = true) (hs : inr s = true) (hg : inr g = true) (hn : inr n = true) (hd : inr d = true) (hi : inr i = true) (hj : inr j = true) (hk : inr k = true) :
    SemF Tryd.prog Γ 6 [.agg [.si .i64 x, .si .i64 y, .si .i64 z], .si .i64 l, .si .i64 m, .agg [.si .i64 r, .si .i64 s], .si .i64 g, .si .i64 n, .si .i64 d, .agg [.si .i64 i, .si .i64 j, .si .i64 k]] [] [] (.sb true) [] [] := by
  have G := made_given x y z
  have G3 := given_mk (a := madeLo x y z) (b := madeHi x y z) (c := madeU z) G (x := madeLo i j k) (y := madeHi i j k) (given_bd (made_given i j k)).1 (given_bd (made_given i j k)).2.1 (given_bd (made_given i j k)).2.2.1
  have R := rates_made r s
  have b := given_bd G
  have pf := partner_facts (pick g 2 == 0) b.2.2.2.1 b.2.2.2.2 R
  have sg := isStep_step g
  have dl := pick_bd l (show (0 : Int) < 500 by omega)
  have dm := pick_bd m (show (0 : Int) < 500 by omega)
  have dq := pick_bd d (show (0 : Int) < 1000 by omega)
  have dp := pick_bd n (show (0 : Int) < 1001 by omega)
  have w1 : IntKind.i64.wrap (1 + pick d 1000) = 1 + pick d 1000 := wrap_small (by omega) (by omega)
  have w2 : IntKind.i64.wrap (madeLo x y z - pick l 500) = madeLo x y z - pick l 500 := wrap_small (by omega) (by omega)
  have w3 : IntKind.i64.wrap (madeHi x y z + pick m 500) = madeHi x y z + pick m 500 := wrap_small (by omega) (by omega)
  have nf := nf_UnitMonotone x y z l m r s g n d i j k
  simp only [w1, w2, w3] at nf
  clear w1 w2 w3
  revert nf
  generalize madeLo i j k = L3 at *
  generalize madeHi i j k = H3 at *
  generalize madeLo x y z = L at *
  generalize madeHi x y z = H at *
  generalize madeU z = u at *
  generalize 1 + pick r 100000 = r' at *
  generalize 1 + pick s 100000 = s' at *
  generalize partner u (pick g 2 == 0) = t at *
  generalize step g = k' at *
  generalize pick n 1001 = p at *
  obtain ⟨q, hq⟩ : ∃ q, q = 1 + pick d 1000 := ⟨_, rfl⟩
  obtain ⟨A, hA⟩ : ∃ A, A = if L - pick l 500 > 0 then L - pick l 500 else 0 := ⟨_, rfl⟩
  obtain ⟨B, hB⟩ : ∃ B, B = if H + pick m 500 < 999999 then H + pick m 500 else 999999 := ⟨_, rfl⟩
  rw [← hq, ← hA, ← hB]
  have a1 : 0 ≤ A ∧ A ≤ L := by subst hA; split <;> omega
  have a2 : H ≤ B ∧ B ≤ 999999 := by subst hB; split <;> omega
  have GA : given A B u = true := given_mk G a1.1 (by omega) a2.2
  obtain ⟨hk', hw, v1, v2, v3, v4, t1, t2⟩ := pf
  have cAB := contains_of GA G a1.2 a2.1
  have O1 : Over (convert A B u t r' s') (convert L H u t r' s') := by
    rw [convert_eq (t := t) GA R hk', convert_eq (t := t) G R hk']
    exact Over.of_if (mono_sc a1.1 a1.2 b.2.1 a2.1 (by omega) (by omega)) rfl
  have O2 : Over (coarse A B u k') (coarse L H u k') := by
    have k2 : (H + k' - 1) / k' * k' ≤ (B + k' - 1) / k' * k' ∧ A / k' * k' ≤ L / k' * k' ∧ 0 ≤ A / k' * k' ∧ L / k' * k' ≤ (H + k' - 1) / k' * k' := by
      rcases isStep_or sg with rfl | rfl | rfl | rfl | rfl <;> refine ⟨?_, ?_, ?_, ?_⟩ <;> omega
    intro h0
    by_cases c : (B + k' - 1) / k' * k' ≤ 999999
    · rw [coarse_ok GA sg c, coarse_ok G sg (by omega)]
      have y1 : given (A / k' * k') ((B + k' - 1) / k' * k') u = true := given_mk G k2.2.2.1 (by omega) c
      have y2 : given (L / k' * k') ((H + k' - 1) / k' * k') u = true := given_mk G (by omega) k2.2.2.2 (by omega)
      exact ⟨rfl, contains_of y1 y2 k2.2.1 k2.1⟩
    · rw [coarse_no GA sg c] at h0
      simp [bad] at h0
  have O3 : Over (share A B u p q) (share L H u p q) := by
    rw [share_eq6 GA (by omega) (by omega) (by omega) (by omega), share_eq6 G (by omega) (by omega) (by omega) (by omega)]
    exact Over.of_if (mono_sc a1.1 a1.2 b.2.1 a2.1 (by omega) (by omega)) rfl
  have O4 : Over (add A B u L3 H3 u) (add L H u L3 H3 u) := by
    have b3 := given_bd G3
    intro h0
    by_cases c : B + H3 ≤ 999999
    · rw [add_ok GA G3 c, add_ok G G3 (by omega)]
      have y1 : given (A + L3) (B + H3) u = true := given_mk G (by omega) (by omega) c
      have y2 : given (L + L3) (H + H3) u = true := given_mk G (by omega) (by omega) (by omega)
      have y3 := contains_of y1 y2 (by omega) (by omega)
      exact ⟨rfl, y3⟩
    · rw [add_no GA G3 c] at h0
      simp [bad] at h0
  revert O1 O2 O3 O4
  generalize convert A B u t r' s' = X1
  generalize convert L H u t r' s' = Y1
  generalize coarse A B u k' = X2
  generalize coarse L H u k' = Y2
  generalize share A B u p q = X3
  generalize share L H u p q = Y3
  generalize add A B u L3 H3 u = X4
  generalize add L H u L3 H3 u = Y4
  intro O1 O2 O3 O4 nf
  refine SemF.of_evJ o31 mixed nf ?_ ?_
  · simp [hx, hy, hz, hl, hm, hr, hs, hg, hn, hd, hi, hj, hk]
  · clear nf hA hB hq
    by_cases e1 : X1.e = 0 <;> by_cases e2 : X2.e = 0 <;> by_cases e3 : X3.e = 0 <;> by_cases e4 : X4.e = 0 <;>
      simp [cAB, e1, e2, e3, e4, O1.e, O1.c, O2.e, O2.c, O3.e, O3.c, O4.e, O4.c, Bool.cond_eq_ite]
end U
end Go.Proofs.YtblnabilodbceaaDoor
