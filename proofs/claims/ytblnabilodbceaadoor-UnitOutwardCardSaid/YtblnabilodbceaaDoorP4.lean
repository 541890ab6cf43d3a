/- UnitOutward: the plain law, and its contract. -/
import Derived.Test.YtblnabilodbceaaDoorUNUnitOutward
import Derived.Test.YtblnabilodbceaaDoorQ1
set_option linter.unusedVariables false
set_option linter.unusedSimpArgs false
set_option maxRecDepth 100000
set_option maxHeartbeats 2000000
namespace Go.Proofs.YtblnabilodbceaaDoor
open Go
namespace U
theorem up_lt {x d : Int} (h : 1 ≤ d) : (x + d - 1) / d * d ≤ x + d - 1 := Int.ediv_mul_le _ (by omega)
theorem closest_ok {L H n d : Int} (h1 : 0 ≤ L) (h2 : L ≤ H) (h3 : H ≤ 999999) (h4 : 0 ≤ n) (h5 : n ≤ 100000000) (h6 : 1 ≤ d) (h7 : d ≤ 100000000) : closest (L * n / d) ((H * n + d - 1) / d) L H n d = true := by
  have m1 := mul_bd h1 (Int.le_trans h2 h3) h4 h5
  have m2 := mul_bd (Int.le_trans h1 h2) h3 h4 h5
  have f1 := Int.ediv_mul_le (L * n) (show d ≠ 0 by omega)
  have f2 := Int.lt_ediv_add_one_mul_self (L * n) (show 0 < d by omega)
  have f3 := up_ge (x := H * n) h6
  have f4 := up_lt (x := H * n) h6
  have b1 := ediv_bd m1.1 h6
  have b2 := ediv_bd (x := H * n + d - 1) (by omega) h6
  simp only [closest]
  generalize L * n = x at *
  generalize H * n = y at *
  generalize x / d = A at *
  generalize (y + d - 1) / d = B at *
  rw [Int.mul_comm] at f3
  have p1 := Int.mul_nonneg b1.1 (show 0 ≤ d by omega)
  have p2 := Int.mul_nonneg b2.1 (show 0 ≤ d by omega)
  have e1 : (A + 1) * d = A * d + d := by rw [Int.add_mul]; omega
  have e2 : (B - 1) * d = B * d - d := by rw [Int.sub_mul]; omega
  rw [e1] at f2
  rw [wrap_id (x := A * d) (by omega) (by omega), wrap_id (x := x) (by omega) (by omega), wrap_id (x := A + 1) (by omega) (by omega), wrap_id (x := B * d) (by omega) (by omega), wrap_id (x := y) (by omega) (by omega), wrap_id (x := B - 1) (by omega) (by omega), e1, e2,
    wrap_id (x := A * d + d) (by omega) (by omega), wrap_id (x := B * d - d) (by omega) (by omega)]
  simp
  omega
theorem share_eq {L H u p q : Int} (hg : given L H u = true) (h1 : 0 ≤ p) (h2 : p ≤ 1000000) (h3 : 1 ≤ q) (h4 : q ≤ 1000000) : share L H u p q = if given (L * p / q) ((H * p + q - 1) / q) u then ⟨L * p / q, (H * p + q - 1) / q, u, 0⟩ else bad := by
  simp [share, hg, scaled, checked, h1, h2, h3, h4]
theorem too_great {L H u t n d : Int} (hg : given L H u = true) (ht : 1 ≤ t) (ht2 : t ≤ 7) (h4 : 0 ≤ n) (h5 : n ≤ 100000000) (h6 : 1 ≤ d) (h7 : d ≤ 100000000) (h : ¬ given (L * n / d) ((H * n + d - 1) / d) t = true) : ¬ IntKind.i64.wrap (H * n) ≤ IntKind.i64.wrap (999999 * d) := by
  have b := given_bd hg
  have m1 := mul_bd b.1 (Int.le_trans b.2.1 b.2.2.1) h4 h5
  have m2 := mul_bd (Int.le_trans b.1 b.2.1) b.2.2.1 h4 h5
  rw [wrap_id (x := H * n) (by omega) (by omega), wrap_id (x := 999999 * d) (by omega) (by omega)]
  intro hc
  refine h (given_iff.2 ⟨(ediv_bd m1.1 h6).1, Int.ediv_le_ediv (by omega) ?_, up_le h6 hc, ht, ht2⟩)
  have := Int.mul_le_mul_of_nonneg_right b.2.1 h4
  omega
theorem law4 (x y z r s : Int) (o : Bool) (g n d : Int) (hx : inr x = true) (hy : inr y = true) (hz : inr z = true) (hr : inr r = true) (hs : inr s = true) (hg : inr g = true) (hn : inr n = true) (hd : inr d = true) :
    SemF Tryd.prog Γ 4 [.agg [.si .i64 x, .si .i64 y, .si .i64 z], .agg [.si .i64 r, .si .i64 s], .sb o, .si .i64 g, .si .i64 n, .si .i64 d] [] [] (.sb true) [] [] := by
  have G := made_given x y z
  have R := rates_made r s
  have b := given_bd G
  have pf := partner_facts o b.2.2.2.1 b.2.2.2.2 R
  have sg := isStep_step g
  have dq := pick_bd d (show (0 : Int) < 1000 by omega)
  have dp := pick_bd n (show (0 : Int) < 1001 by omega)
  have wq : IntKind.i64.wrap (1 + pick d 1000) = 1 + pick d 1000 := wrap_small (by omega) (by omega)
  have nf := nf_UnitOutward x y z r s o g n d
  simp only [wq] at nf
  clear wq
  revert nf
  generalize madeLo x y z = L at *
  generalize madeHi x y z = H at *
  generalize madeU z = u at *
  generalize 1 + pick r 100000 = r' at *
  generalize 1 + pick s 100000 = s' at *
  generalize partner u o = t at *
  generalize step g = k at *
  generalize pick n 1001 = p at *
  obtain ⟨q, hq⟩ : ∃ q, q = 1 + pick d 1000 := ⟨_, rfl⟩
  rw [← hq]
  obtain ⟨hk, hw, w1, w2, w3, w4, t1, t2⟩ := pf
  -- the three parts: each either stands and is closest, or is too great
  have A : (∃ lo hi, convert L H u t r' s' = ⟨lo, hi, t, 0⟩ ∧ closest lo hi L H (worth u t r' s').1 (worth u t r' s').2 = true) ∨ (convert L H u t r' s' = bad ∧ ¬ IntKind.i64.wrap (H * (worth u t r' s').1) ≤ IntKind.i64.wrap (999999 * (worth u t r' s').2)) := by
    have e := convert_eq (t := t) G R hk
    by_cases c : given (L * (worth u t r' s').1 / (worth u t r' s').2) ((H * (worth u t r' s').1 + (worth u t r' s').2 - 1) / (worth u t r' s').2) t = true
    · rw [if_pos c] at e
      exact .inl ⟨_, _, e, closest_ok b.1 b.2.1 b.2.2.1 (by omega) w2 w3 w4⟩
    · rw [if_neg c] at e
      exact .inr ⟨e, too_great G t1 t2 (by omega) w2 w3 w4 c⟩
  have B : (∃ lo hi, coarse L H u k = ⟨lo, hi, u, 0⟩ ∧ lo.tmod k = 0 ∧ hi.tmod k = 0 ∧ closest (IntKind.i64.wrap (lo.tdiv k)) (IntKind.i64.wrap (hi.tdiv k)) L H 1 k = true) ∨ (coarse L H u k = bad ∧ ¬ IntKind.i64.wrap (IntKind.i64.wrap (H + k) - 1) ≤ 999999) := by
    have k1 : 1 ≤ k ∧ k ≤ 10000 := by rcases isStep_or sg with rfl | rfl | rfl | rfl | rfl <;> omega
    have cl := closest_ok (L := L) (H := H) (n := 1) (d := k) b.1 b.2.1 b.2.2.1 (by omega) (by omega) k1.1 (by omega)
    rw [Int.mul_one, Int.mul_one] at cl
    have q1 := ediv_bd b.1 k1.1
    have q2 := ediv_bd (x := H + k - 1) (by omega) k1.1
    by_cases c : (H + k - 1) / k * k ≤ 999999
    · refine .inl ⟨_, _, coarse_ok G sg c, Int.mul_tmod_left _ _, Int.mul_tmod_left _ _, ?_⟩
      rw [Int.mul_tdiv_cancel _ (by omega), Int.mul_tdiv_cancel _ (by omega), wrap_small (by omega) (by omega), wrap_small (by omega) (by omega)]
      exact cl
    · refine .inr ⟨coarse_no G sg c, ?_⟩
      rw [wrap_small (x := H + k) (by omega) (by omega), wrap_small (by omega) (by omega)]
      have := up_lt (x := H) k1.1
      omega
  have C : (∃ lo hi, share L H u p q = ⟨lo, hi, u, 0⟩ ∧ closest lo hi L H p q = true) ∨ (share L H u p q = bad ∧ ¬ IntKind.i64.wrap (H * p) ≤ IntKind.i64.wrap (999999 * q)) := by
    have e := share_eq (p := p) (q := q) G (by omega) (by omega) (by omega) (by omega)
    by_cases c : given (L * p / q) ((H * p + q - 1) / q) u = true
    · rw [if_pos c] at e
      exact .inl ⟨_, _, e, closest_ok b.1 b.2.1 b.2.2.1 (by omega) (by omega) (by omega) (by omega)⟩
    · rw [if_neg c] at e
      exact .inr ⟨e, too_great G b.2.2.2.1 b.2.2.2.2 (by omega) (by omega) (by omega) (by omega) c⟩
  have k0 : k ≠ 0 := by rcases isStep_or sg with rfl | rfl | rfl | rfl | rfl <;> omega
  revert A B C
  generalize convert L H u t r' s' = CV
  generalize coarse L H u k = CO
  generalize share L H u p q = SH
  intro A B C nf
  clear hw hk R G sg hq
  have A' : (CV.e = 0 ∧ CV.u = t ∧ closest CV.lo CV.hi L H (worth u t r' s').1 (worth u t r' s').2 = true) ∨ (CV.e ≠ 0 ∧ ¬ IntKind.i64.wrap (H * (worth u t r' s').1) ≤ IntKind.i64.wrap (999999 * (worth u t r' s').2)) := by
    rcases A with ⟨a1, a2, rfl, a4⟩ | ⟨rfl, a4⟩
    · exact .inl ⟨rfl, rfl, a4⟩
    · exact .inr ⟨by simp [bad], a4⟩
  have B' : (CO.e = 0 ∧ CO.u = u ∧ CO.lo.tmod k = 0 ∧ CO.hi.tmod k = 0 ∧ closest (IntKind.i64.wrap (CO.lo.tdiv k)) (IntKind.i64.wrap (CO.hi.tdiv k)) L H 1 k = true) ∨ (CO.e ≠ 0 ∧ ¬ IntKind.i64.wrap (IntKind.i64.wrap (H + k) - 1) ≤ 999999) := by
    rcases B with ⟨b1, b2, rfl, b4, b5, b6⟩ | ⟨rfl, b4⟩
    · exact .inl ⟨rfl, rfl, b4, b5, b6⟩
    · exact .inr ⟨by simp [bad], b4⟩
  have C' : (SH.e = 0 ∧ SH.u = u ∧ closest SH.lo SH.hi L H p q = true) ∨ (SH.e ≠ 0 ∧ ¬ IntKind.i64.wrap (H * p) ≤ IntKind.i64.wrap (999999 * q)) := by
    rcases C with ⟨c1, c2, rfl, c4⟩ | ⟨rfl, c4⟩
    · exact .inl ⟨rfl, rfl, c4⟩
    · exact .inr ⟨by simp [bad], c4⟩
  clear A B C
  refine SemF.of_evJ o31 mixed nf ?_ ?_
  · clear nf
    rcases A' with ⟨a1, a2, a3⟩ | ⟨a1, a2⟩ <;> rcases B' with ⟨b1, b2, b3, b4, b5⟩ | ⟨b1, b2⟩ <;> simp [hx, hy, hz, hr, hs, hg, hn, hd, k0, *]
  · clear nf
    rcases A' with ⟨a1, a2, a3⟩ | ⟨a1, a2⟩ <;> rcases B' with ⟨b1, b2, b3, b4, b5⟩ | ⟨b1, b2⟩ <;> rcases C' with ⟨c1, c2, c3⟩ | ⟨c1, c2⟩ <;> simp [k0, Bool.cond_eq_ite, *]
end U
end Go.Proofs.YtblnabilodbceaaDoor
