/- UnitCoarser: the plain law, and its contract. -/
import Derived.Test.YtblnabilodbceaaDoorUNUnitCoarser
set_option linter.unusedVariables false
set_option linter.unusedSimpArgs false
set_option maxRecDepth 100000
set_option maxHeartbeats 2000000
namespace Go.Proofs.YtblnabilodbceaaDoor
open Go
namespace U
theorem isStep_or {s : Int} (h : isStep s = true) : s = 1 ∨ s = 10 ∨ s = 100 ∨ s = 1000 ∨ s = 10000 := by simpa [isStep] using h
theorem isStep_step (n : Int) : isStep (step n) = true := by
  unfold step
  repeat' split
  all_goals decide
theorem coarse_ok {L H u s : Int} (hg : given L H u = true) (hs : isStep s = true) (hh : (H + s - 1) / s * s ≤ 999999) : coarse L H u s = ⟨L / s * s, (H + s - 1) / s * s, u, 0⟩ := by
  have b := given_bd hg
  have e : given (L / s * s) ((H + s - 1) / s * s) u = true := by
    refine given_mk hg ?_ ?_ hh <;> rcases isStep_or hs with rfl | rfl | rfl | rfl | rfl <;> omega
  simp [coarse, hg, hs, checked, e]
theorem coarse_no {L H u s : Int} (hg : given L H u = true) (hs : isStep s = true) (hh : ¬ (H + s - 1) / s * s ≤ 999999) : coarse L H u s = bad := by
  have e : given (L / s * s) ((H + s - 1) / s * s) u = false := given_no hg (by omega)
  simp [coarse, hg, hs, checked, e]
theorem contains_of {a b c d e : Int} (h1 : given a b c = true) (h2 : given d e c = true) (h3 : a ≤ d) (h4 : e ≤ b) : contains a b c d e c = true := by
  simp only [given, Bool.and_eq_true] at h1 h2
  simp [contains, h1.1, h2.1, h3, h4]
theorem made_given (x y z : Int) : given (madeLo x y z) (madeHi x y z) (madeU z) = true := by
  have hm : 0 < madeM z + 1 ∧ madeM z ≤ 999999 := by
    unfold madeM
    repeat' split
    all_goals omega
  have p := pick_bd x hm.1
  have q := pick_bd y hm.1
  have r := pick_bd (z.tdiv 4) (show (0 : Int) < 7 by omega)
  rw [given_iff]
  unfold madeLo madeHi madeU
  omega
theorem up_ge {x d : Int} (h : 1 ≤ d) : x ≤ d * ((x + d - 1) / d) := by
  have := Int.lt_ediv_add_one_mul_self (x + d - 1) (show 0 < d by omega)
  rw [Int.add_mul, Int.mul_comm] at this
  omega
theorem up_le {x d m : Int} (h : 1 ≤ d) (hx : x ≤ m * d) : (x + d - 1) / d ≤ m := by
  have : (x + d - 1) / d < m + 1 := Int.ediv_lt_of_lt_mul (by omega) (by rw [Int.add_mul]; omega)
  omega
theorem share_ok {L H u p q : Int} (hg : given L H u = true) (h1 : 0 ≤ p) (h2 : p ≤ q) (h3 : 1 ≤ q) (h4 : q ≤ 1000) : share L H u p q = ⟨L * p / q, (H * p + q - 1) / q, u, 0⟩ ∧ given (L * p / q) ((H * p + q - 1) / q) u = true := by
  have b := given_bd hg
  have e : given (L * p / q) ((H * p + q - 1) / q) u = true := by
    have m1 := mul_bd b.1 (Int.le_trans b.2.1 b.2.2.1) h1 h2
    have m2 : L * p ≤ H * p := Int.mul_le_mul_of_nonneg_right b.2.1 h1
    have m3 : H * p ≤ H * q := Int.mul_le_mul_of_nonneg_left h2 (by omega)
    refine given_mk hg (ediv_bd m1.1 h3).1 ?_ ?_
    · exact Int.ediv_le_ediv (by omega) (by omega)
    · exact Int.le_trans (up_le h3 m3) b.2.2.1
  refine ⟨?_, e⟩
  simp [share, hg, scaled, checked, e]
  omega
theorem add_ok {a b c d e : Int} (h1 : given a b c = true) (h2 : given d e c = true) (h : b + e ≤ 999999) : add a b c d e c = ⟨a + d, b + e, c, 0⟩ := by
  have b1 := given_bd h1
  have b2 := given_bd h2
  simp [add, h1, h2, checked, given_mk h1 (show 0 ≤ a + d by omega) (show a + d ≤ b + e by omega) h]
theorem add_no {a b c d e : Int} (h1 : given a b c = true) (h2 : given d e c = true) (h : ¬ b + e ≤ 999999) : add a b c d e c = bad := by
  simp [add, h1, h2, checked, given_no h1 (show ¬(0 ≤ a + d ∧ a + d ≤ b + e ∧ b + e ≤ 999999) by omega)]
theorem shares_sum {L H p q : Int} (h : 1 ≤ q) : L * p / q + L * (q - p) / q ≤ L ∧ H ≤ (H * p + q - 1) / q + (H * (q - p) + q - 1) / q := by
  constructor
  · refine Int.le_of_mul_le_mul_left (a := q) ?_ (by omega)
    have e1 := Int.mul_ediv_self_le (x := L * p) (k := q) (by omega)
    have e2 := Int.mul_ediv_self_le (x := L * (q - p)) (k := q) (by omega)
    rw [Int.mul_add]
    rw [Int.mul_sub] at e2
    have := Int.mul_comm q L
    rw [Int.mul_sub]
    omega
  · refine Int.le_of_mul_le_mul_left (a := q) ?_ (by omega)
    have e1 := up_ge (x := H * p) h
    have e2 := up_ge (x := H * (q - p)) h
    rw [Int.mul_add]
    have e3 : H * p + H * (q - p) = q * H := by rw [← Int.mul_add, Int.mul_comm]; congr 1; omega
    omega
theorem wrap_small {x : Int} (h1 : -2000000000 ≤ x) (h2 : x ≤ 2000000000) : IntKind.i64.wrap x = x := wrap_id (by omega) (by omega)

theorem law8 (x y z g h n d : Int) (hx : inr x = true) (hy : inr y = true) (hz : inr z = true) (hg : inr g = true) (hh : inr h = true) (hn : inr n = true) (hd : inr d = true) :
    SemF Tryd.prog Γ 8 [.agg [.si .i64 x, .si .i64 y, .si .i64 z], .si .i64 g, .si .i64 h, .si .i64 n, .si .i64 d] [] [] (.sb true) [] [] := by
  have G := made_given x y z
  have b := given_bd G
  have sg := isStep_step g
  have sh := isStep_step h
  have dq := pick_bd d (show (0 : Int) < 1000 by omega)
  have wq : IntKind.i64.wrap (1 + pick d 1000) = 1 + pick d 1000 := wrap_small (by omega) (by omega)
  have wq1 : IntKind.i64.wrap (1 + pick d 1000 + 1) = 1 + pick d 1000 + 1 := wrap_small (by omega) (by omega)
  have dp := pick_bd n (show 0 < 1 + pick d 1000 + 1 by omega)
  have wp : IntKind.i64.wrap (1 + pick d 1000 - pick n (1 + pick d 1000 + 1)) = 1 + pick d 1000 - pick n (1 + pick d 1000 + 1) := wrap_small (by omega) (by omega)
  have key : ∀ (L H u s t p q : Int), given L H u = true → isStep s = true → isStep t = true → s ≤ t → 1 ≤ q → q ≤ 1000 → 0 ≤ p → p ≤ q →
      ((coarse L H u t).e = 0 → (coarse L H u s).e = 0 ∧ coarse (coarse L H u t).lo (coarse L H u t).hi (coarse L H u t).u t = coarse L H u t ∧ contains (coarse L H u t).lo (coarse L H u t).hi (coarse L H u t).u (coarse L H u s).lo (coarse L H u s).hi (coarse L H u s).u = true ∧
        contains (coarse L H u s).lo (coarse L H u s).hi (coarse L H u s).u L H u = true) ∧ (share L H u p q).e = 0 ∧ (share L H u (q - p) q).e = 0 ∧
      IntKind.i64.wrap ((share L H u p q).hi + (share L H u (q - p) q).hi) = (share L H u p q).hi + (share L H u (q - p) q).hi ∧
      ((add (share L H u p q).lo (share L H u p q).hi (share L H u p q).u (share L H u (q - p) q).lo (share L H u (q - p) q).hi (share L H u (q - p) q).u).e = 0 →
        contains (add (share L H u p q).lo (share L H u p q).hi (share L H u p q).u (share L H u (q - p) q).lo (share L H u (q - p) q).hi (share L H u (q - p) q).u).lo (add (share L H u p q).lo (share L H u p q).hi (share L H u p q).u (share L H u (q - p) q).lo (share L H u (q - p) q).hi (share L H u (q - p) q).u).hi (add (share L H u p q).lo (share L H u p q).hi (share L H u p q).u (share L H u (q - p) q).lo (share L H u (q - p) q).hi (share L H u (q - p) q).u).u L H u = true) ∧
      ((add (share L H u p q).lo (share L H u p q).hi (share L H u p q).u (share L H u (q - p) q).lo (share L H u (q - p) q).hi (share L H u (q - p) q).u).e ≠ 0 → 999999 < (share L H u p q).hi + (share L H u (q - p) q).hi) := by
    intro L H u s t p q hG hs ht hst q1 q2 p1 p2
    have b := given_bd hG
    obtain ⟨s1, s2⟩ := share_ok hG p1 p2 q1 q2
    obtain ⟨s3, s4⟩ := share_ok hG (show 0 ≤ q - p by omega) (show q - p ≤ q by omega) q1 q2
    have ss := shares_sum (L := L) (H := H) (p := p) q1
    have c1 := given_bd s2
    have c2 := given_bd s4
    refine ⟨fun hc => ?_, by rw [s1], by rw [s3], by rw [s1, s3]; exact wrap_small (by show _ ≤ (_ : Int); simp only; omega) (by simp only; omega), ?_, ?_⟩
    · by_cases k : (H + t - 1) / t * t ≤ 999999
      · have k2 : (H + s - 1) / s * s ≤ (H + t - 1) / t * t ∧ L / t * t ≤ L / s * s ∧ L / s * s ≤ L ∧ H ≤ (H + s - 1) / s * s ∧ 0 ≤ L / t * t ∧ L / t * t / t * t = L / t * t ∧ ((H + t - 1) / t * t + t - 1) / t * t = (H + t - 1) / t * t := by
          rcases isStep_or hs with rfl | rfl | rfl | rfl | rfl <;> rcases isStep_or ht with rfl | rfl | rfl | rfl | rfl <;> first | (exfalso; omega) | (refine ⟨?_, ?_, ?_, ?_, ?_, ?_, ?_⟩ <;> omega)
        obtain ⟨k2, k3, k4, k5, k6, k7, k8⟩ := k2
        have eC := coarse_ok hG ht k
        have eB := coarse_ok hG hs (Int.le_trans k2 k)
        have gC : given (L / t * t) ((H + t - 1) / t * t) u = true := given_mk hG k6 (by omega) k
        have gB : given (L / s * s) ((H + s - 1) / s * s) u = true := given_mk hG (by omega) (by omega) (by omega)
        have eA := coarse_ok gC ht (by rw [k8]; exact k)
        rw [k7, k8] at eA
        rw [eC, eB]
        exact ⟨rfl, eA, contains_of gC gB k3 k2, contains_of gB hG k4 k5⟩
      · rw [coarse_no hG ht k] at hc
        cases hc
    · intro hw
      rw [s1, s3] at hw ⊢
      by_cases k : (H * p + q - 1) / q + (H * (q - p) + q - 1) / q ≤ 999999
      · have e := add_ok s2 s4 k
        simp only [e]
        exact contains_of (given_mk hG (by omega) (by omega) k) hG (by omega) (by omega)
      · have e := add_no s2 s4 k
        simp only [e] at hw
        cases hw
    · intro hw
      rw [s1, s3] at hw ⊢
      by_cases k : (H * p + q - 1) / q + (H * (q - p) + q - 1) / q ≤ 999999
      · have e := add_ok s2 s4 k
        simp only [e] at hw
        exact absurd rfl hw
      · simp only
        omega
  have hst : isStep (if step h < step g then step h else step g) = true ∧ isStep (if step h > step g then step h else step g) = true ∧ (if step h < step g then step h else step g) ≤ (if step h > step g then step h else step g) := by
    refine ⟨?_, ?_, ?_⟩
    · split <;> assumption
    · split <;> assumption
    · split <;> split <;> omega
  have K := key (madeLo x y z) (madeHi x y z) (madeU z) _ _ (pick n (1 + pick d 1000 + 1)) (1 + pick d 1000) G hst.1 hst.2.1 hst.2.2 (by omega) (by omega) (by omega) (by omega)
  have nf := nf_UnitCoarser x y z g h n d
  simp only [wq, wq1, wp] at nf
  clear key wq wq1 wp hst
  revert nf K
  generalize coarse (madeLo x y z) (madeHi x y z) (madeU z) (if step h > step g then step h else step g) = C
  generalize coarse (madeLo x y z) (madeHi x y z) (madeU z) (if step h < step g then step h else step g) = B
  generalize share (madeLo x y z) (madeHi x y z) (madeU z) (pick n (1 + pick d 1000 + 1)) (1 + pick d 1000) = D
  generalize share (madeLo x y z) (madeHi x y z) (madeU z) (1 + pick d 1000 - pick n (1 + pick d 1000 + 1)) (1 + pick d 1000) = E
  generalize add D.lo D.hi D.u E.lo E.hi E.u = W
  rintro ⟨K1, K2, K3, K4, K5, K6⟩ nf
  refine SemF.of_ev o31 mixed nf ?_ ?_
  · by_cases c : C.e = 0
    · obtain ⟨c1, c2, c3, c4⟩ := K1 c
      by_cases w : W.e = 0
      · simp [hx, hy, hz, hg, hh, hn, hd, c, c1, c2, c3, c4, K2, K3, w, K5 w, Bool.cond_eq_ite]
        try omega
      · have := K6 w
        simp [hx, hy, hz, hg, hh, hn, hd, c, c1, c2, c3, c4, K2, K3, w, K4, this, Bool.cond_eq_ite]
        try omega
    · by_cases w : W.e = 0
      · simp [hx, hy, hz, hg, hh, hn, hd, c, K2, K3, w, K5 w, Bool.cond_eq_ite]
        try omega
      · have := K6 w
        simp [hx, hy, hz, hg, hh, hn, hd, c, K2, K3, w, K4, this, Bool.cond_eq_ite]
        try omega
  · by_cases c : C.e = 0
    · obtain ⟨c1, c2, c3, c4⟩ := K1 c
      by_cases w : W.e = 0
      · simp [c, c1, c2, c3, c4, K2, K3, w, K5 w, Bool.cond_eq_ite]
      · have := K6 w
        simp [c, c1, c2, c3, c4, K2, K3, w, K4, this, Bool.cond_eq_ite]
    · by_cases w : W.e = 0
      · simp [c, K2, K3, w, K5 w, Bool.cond_eq_ite]
      · have := K6 w
        simp [c, K2, K3, w, K4, this, Bool.cond_eq_ite]
end U
end Go.Proofs.YtblnabilodbceaaDoor
