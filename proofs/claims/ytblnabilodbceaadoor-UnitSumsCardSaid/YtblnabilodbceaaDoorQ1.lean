/- Package unit: plain facts of the operations, for the laws. -/
import Derived.Test.YtblnabilodbceaaDoorU4
set_option linter.unusedVariables false
set_option linter.unusedSimpArgs false
set_option maxRecDepth 100000
set_option maxHeartbeats 2000000
namespace Go.Proofs.YtblnabilodbceaaDoor
open Go
namespace U
theorem isStep_or {s : Int} (h : isStep s = true) : s = 1 ∨ s = 10 ∨ s = 100 ∨ s = 1000 ∨ s = 10000 := by simpa [isStep] using h
theorem isStep_step (n : Int) : isStep (step n) = true := by
  unfold step
  repeat' split
  all_goals decide
theorem coarse_ok {L H u s : Int} (hg : given L H u = true) (hs : isStep s = true) (hh : (H + s - 1) / s * s ≤ 999999) : coarse L H u s = ⟨L / s * s, (H + s - 1) / s * s, u, 0⟩ := by
  have b := given_bd hg
  have e : given (L / s * s) ((H + s - 1) / s * s) u = true := by
    refine given_mk hg ?_ ?_ hh <;> rcases isStep_or hs with rfl | rfl | rfl | rfl | rfl <;> omega
  simp [coarse, hg, hs, checked, e]
theorem coarse_no {L H u s : Int} (hg : given L H u = true) (hs : isStep s = true) (hh : ¬ (H + s - 1) / s * s ≤ 999999) : coarse L H u s = bad := by
  have e : given (L / s * s) ((H + s - 1) / s * s) u = false := given_no hg (by omega)
  simp [coarse, hg, hs, checked, e]
theorem contains_of {a b c d e : Int} (h1 : given a b c = true) (h2 : given d e c = true) (h3 : a ≤ d) (h4 : e ≤ b) : contains a b c d e c = true := by
  simp only [given, Bool.and_eq_true] at h1 h2
  simp [contains, h1.1, h2.1, h3, h4]
theorem made_given (x y z : Int) : given (madeLo x y z) (madeHi x y z) (madeU z) = true := by
  have hm : 0 < madeM z + 1 ∧ madeM z ≤ 999999 := by
    unfold madeM
    repeat' split
    all_goals omega
  have p := pick_bd x hm.1
  have q := pick_bd y hm.1
  have r := pick_bd (z.tdiv 4) (show (0 : Int) < 7 by omega)
  rw [given_iff]
  unfold madeLo madeHi madeU
  omega
theorem up_ge {x d : Int} (h : 1 ≤ d) : x ≤ d * ((x + d - 1) / d) := by
  have := Int.lt_ediv_add_one_mul_self (x + d - 1) (show 0 < d by omega)
  rw [Int.add_mul, Int.mul_comm] at this
  omega
theorem up_le {x d m : Int} (h : 1 ≤ d) (hx : x ≤ m * d) : (x + d - 1) / d ≤ m := by
  have : (x + d - 1) / d < m + 1 := Int.ediv_lt_of_lt_mul (by omega) (by rw [Int.add_mul]; omega)
  omega
theorem share_ok {L H u p q : Int} (hg : given L H u = true) (h1 : 0 ≤ p) (h2 : p ≤ q) (h3 : 1 ≤ q) (h4 : q ≤ 1000) : share L H u p q = ⟨L * p / q, (H * p + q - 1) / q, u, 0⟩ ∧ given (L * p / q) ((H * p + q - 1) / q) u = true := by
  have b := given_bd hg
  have e : given (L * p / q) ((H * p + q - 1) / q) u = true := by
    have m1 := mul_bd b.1 (Int.le_trans b.2.1 b.2.2.1) h1 h2
    have m2 : L * p ≤ H * p := Int.mul_le_mul_of_nonneg_right b.2.1 h1
    have m3 : H * p ≤ H * q := Int.mul_le_mul_of_nonneg_left h2 (by omega)
    refine given_mk hg (ediv_bd m1.1 h3).1 ?_ ?_
    · exact Int.ediv_le_ediv (by omega) (by omega)
    · exact Int.le_trans (up_le h3 m3) b.2.2.1
  refine ⟨?_, e⟩
  simp [share, hg, scaled, checked, e]
  omega
theorem add_ok {a b c d e : Int} (h1 : given a b c = true) (h2 : given d e c = true) (h : b + e ≤ 999999) : add a b c d e c = ⟨a + d, b + e, c, 0⟩ := by
  have b1 := given_bd h1
  have b2 := given_bd h2
  simp [add, h1, h2, checked, given_mk h1 (show 0 ≤ a + d by omega) (show a + d ≤ b + e by omega) h]
theorem add_no {a b c d e : Int} (h1 : given a b c = true) (h2 : given d e c = true) (h : ¬ b + e ≤ 999999) : add a b c d e c = bad := by
  simp [add, h1, h2, checked, given_no h1 (show ¬(0 ≤ a + d ∧ a + d ≤ b + e ∧ b + e ≤ 999999) by omega)]
theorem shares_sum {L H p q : Int} (h : 1 ≤ q) : L * p / q + L * (q - p) / q ≤ L ∧ H ≤ (H * p + q - 1) / q + (H * (q - p) + q - 1) / q := by
  constructor
  · refine Int.le_of_mul_le_mul_left (a := q) ?_ (by omega)
    have e1 := Int.mul_ediv_self_le (x := L * p) (k := q) (by omega)
    have e2 := Int.mul_ediv_self_le (x := L * (q - p)) (k := q) (by omega)
    rw [Int.mul_add]
    rw [Int.mul_sub] at e2
    have := Int.mul_comm q L
    rw [Int.mul_sub]
    omega
  · refine Int.le_of_mul_le_mul_left (a := q) ?_ (by omega)
    have e1 := up_ge (x := H * p) h
    have e2 := up_ge (x := H * (q - p)) h
    rw [Int.mul_add]
    have e3 : H * p + H * (q - p) = q * H := by rw [← Int.mul_add, Int.mul_comm]; congr 1; omega
    omega
theorem wrap_small {x : Int} (h1 : -2000000000 ≤ x) (h2 : x ≤ 2000000000) : IntKind.i64.wrap x = x := wrap_id (by omega) (by omega)

/-- A unit's partner. -/
theorem partner_facts {u r s : Int} (o : Bool) (h1 : 1 ≤ u) (h2 : u ≤ 7) (hr : rates r s = true) : kind (partner u o) = kind u ∧ worth (partner u o) u r s = ((worth u (partner u o) r s).2, (worth u (partner u o) r s).1) ∧
    1 ≤ (worth u (partner u o) r s).1 ∧ (worth u (partner u o) r s).1 ≤ 100000000 ∧ 1 ≤ (worth u (partner u o) r s).2 ∧ (worth u (partner u o) r s).2 ≤ 100000000 ∧ 1 ≤ partner u o ∧ partner u o ≤ 7 := by
  have b := rates_bd hr
  obtain u7 : u = 1 ∨ u = 2 ∨ u = 3 ∨ u = 4 ∨ u = 5 ∨ u = 6 ∨ u = 7 := by omega
  have e1 : ∀ v, 1 ≤ v → v ≤ 7 → partner v false = v := fun v _ _ => rfl
  have e : partner 1 true = 1 ∧ partner 2 true = 3 ∧ partner 3 true = 2 ∧ partner 4 true = 5 ∧ partner 5 true = 4 ∧ partner 6 true = 7 ∧ partner 7 true = 6 := by decide
  obtain ⟨a1, a2, a3, a4, a5, a6, a7⟩ := e
  rcases u7 with rfl | rfl | rfl | rfl | rfl | rfl | rfl <;> cases o <;> simp only [e1, a1, a2, a3, a4, a5, a6, a7, Int.reduceLE] <;> (refine ⟨by decide, by simp [worth], ?_⟩; simp [worth]; try omega)
theorem convert_eq {L H u t r s : Int} (hg : given L H u = true) (hr : rates r s = true) (hk : kind t = kind u) : convert L H u t r s = if given (L * (worth u t r s).1 / (worth u t r s).2) ((H * (worth u t r s).1 + (worth u t r s).2 - 1) / (worth u t r s).2) t then ⟨L * (worth u t r s).1 / (worth u t r s).2, (H * (worth u t r s).1 + (worth u t r s).2 - 1) / (worth u t r s).2, t, 0⟩ else bad := by
  simp [convert, hg, hr, hk, scaled, checked]
theorem convert_ng {L H u t r s : Int} (hg : given L H u = false) : convert L H u t r s = bad := by simp [convert, hg]
/-- Back and forth: the bounds. -/
theorem back {L H a b : Int} (ha : 1 ≤ a) (hb : 1 ≤ b) : L * a / b * b / a ≤ L ∧ L - L * a / b * b / a ≤ (b + a - 1) / a ∧ H ≤ ((H * a + b - 1) / b * b + a - 1) / a ∧ ((H * a + b - 1) / b * b + a - 1) / a - H ≤ (b + a - 1) / a := by
  have f1 := Int.ediv_mul_le (L * a) (show b ≠ 0 by omega)
  have f2 := Int.lt_ediv_add_one_mul_self (L * a) (show 0 < b by omega)
  generalize L * a / b = B at *
  have f3 := Int.ediv_mul_le (B * b) (show a ≠ 0 by omega)
  have f4 := Int.lt_ediv_add_one_mul_self (B * b) (show 0 < a by omega)
  generalize B * b / a = C at *
  have g1 := up_ge (x := H * a) hb
  have g2 := Int.ediv_mul_le (H * a + b - 1) (show b ≠ 0 by omega)
  generalize (H * a + b - 1) / b = D at *
  have g3 := up_ge (x := D * b) ha
  have g4 := Int.ediv_mul_le (D * b + a - 1) (show a ≠ 0 by omega)
  generalize (D * b + a - 1) / a = E at *
  have k := up_ge (x := b) ha
  generalize (b + a - 1) / a = K at *
  rw [Int.add_mul] at f2 f4
  have c1 := Int.mul_comm b D
  have c2 := Int.mul_comm a E
  have c3 := Int.mul_comm a K
  refine ⟨?_, ?_, ?_, ?_⟩
  · refine Int.le_of_mul_le_mul_right (a := a) ?_ (by omega); omega
  · have : (L - C) * a < (K + 1) * a := by rw [Int.sub_mul, Int.add_mul]; omega
    have := Int.lt_of_mul_lt_mul_right this (by omega)
    omega
  · refine Int.le_of_mul_le_mul_right (a := a) ?_ (by omega); omega
  · have : (E - H) * a < (K + 1) * a := by rw [Int.sub_mul, Int.add_mul]; omega
    have := Int.lt_of_mul_lt_mul_right this (by omega)
    omega
theorem rates_made (x y : Int) : rates (1 + pick x 100000) (1 + pick y 100000) = true := by
  have p := pick_bd x (show (0 : Int) < 100000 by omega)
  have q := pick_bd y (show (0 : Int) < 100000 by omega)
  simp [rates]
  omega
end U
end Go.Proofs.YtblnabilodbceaaDoor
