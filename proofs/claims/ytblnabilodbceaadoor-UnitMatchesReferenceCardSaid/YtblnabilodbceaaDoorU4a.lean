/- Package unit: plain facts that the contracts need. -/
import Derived.Test.YtblnabilodbceaaDoorU3
set_option linter.unusedVariables false
set_option linter.unusedSimpArgs false
namespace Go.Proofs.YtblnabilodbceaaDoor
open Go
namespace U
theorem mul_bd {a n A N : Int} (h1 : 0 ≤ a) (h2 : a ≤ A) (h3 : 0 ≤ n) (h4 : n ≤ N) : 0 ≤ a * n ∧ a * n ≤ A * N :=
  ⟨Int.mul_nonneg h1 h3, Int.le_trans (Int.mul_le_mul_of_nonneg_right h2 h3) (Int.mul_le_mul_of_nonneg_left h4 (Int.le_trans h1 h2))⟩
theorem ediv_bd {x d : Int} (h1 : 0 ≤ x) (h2 : 1 ≤ d) : 0 ≤ x / d ∧ x / d ≤ x := ⟨Int.ediv_nonneg h1 (by omega), Int.ediv_le_self d h1⟩
theorem sc_div {x d : Int} (h1 : 0 ≤ x) (h2 : x ≤ 9223372036854775807) (h3 : 1 ≤ d) : IntKind.i64.wrap ((IntKind.i64.wrap x).tdiv d) = x / d := by
  have := ediv_bd h1 h3
  rw [wrap_id (x := x) (by omega) h2, Int.tdiv_eq_ediv_of_nonneg h1, wrap_id (by omega) (by omega)]
theorem okS_iff {a b n d : Int} (h : okS a b n d = true) : 0 ≤ a ∧ a ≤ 999999 ∧ 0 ≤ b ∧ b ≤ 999999 ∧ 0 ≤ n ∧ n ≤ 100000000 ∧ 1 ≤ d ∧ d ≤ 100000000 := by simpa [okS] using h
theorem sc_lo {a b n d : Int} (h : okS a b n d = true) : IntKind.i64.wrap ((IntKind.i64.wrap (a * n)).tdiv d) = a * n / d := by
  obtain ⟨h1, h2, h3, h4, h5, h6, h7, h8⟩ := okS_iff h
  have := mul_bd h1 h2 h5 h6
  exact sc_div this.1 (by omega) h7
theorem sc_lo' {a b n d : Int} (h : okS a b n d = true) : IntKind.i64.wrap ((IntKind.i64.wrap (b * n)).tdiv d) = b * n / d := by
  obtain ⟨h1, h2, h3, h4, h5, h6, h7, h8⟩ := okS_iff h
  have := mul_bd h3 h4 h5 h6
  exact sc_div this.1 (by omega) h7
theorem sc_hi {a b n d : Int} (h : okS a b n d = true) : IntKind.i64.wrap ((IntKind.i64.wrap (IntKind.i64.wrap (IntKind.i64.wrap (b * n) + d) - 1)).tdiv d) = (b * n + d - 1) / d := by
  obtain ⟨h1, h2, h3, h4, h5, h6, h7, h8⟩ := okS_iff h
  have := mul_bd h3 h4 h5 h6
  rw [wrap_id (x := b * n) (by omega) (by omega), wrap_id (x := b * n + d) (by omega) (by omega)]
  exact sc_div (by omega) (by omega) h7
/-- Rounded up. -/
theorem up_eq {x d : Int} (h1 : 0 ≤ x) (h2 : 1 ≤ d) : (x + d - 1) / d = if x / d * d < x then x / d + 1 else x / d := by
  have e := Int.emod_add_mul_ediv x d
  have r0 := Int.emod_nonneg x (show d ≠ 0 by omega)
  have r1 := Int.emod_lt_of_pos x (show 0 < d by omega)
  rw [Int.mul_comm d] at e
  split
  · refine ((Int.ediv_emod_unique (r := x % d - 1) (by omega)).2 ⟨?_, by omega, by omega⟩).1
    rw [Int.mul_add, Int.mul_comm d]
    omega
  · refine ((Int.ediv_emod_unique (r := x % d + d - 1) (by omega)).2 ⟨?_, by omega, by omega⟩).1
    rw [Int.mul_comm d]
    omega
theorem pick_bd {n : Int} (c : Int) (h : 0 < n) : 0 ≤ pick c n ∧ pick c n < n := by
  unfold pick
  constructor
  · exact Int.tmod_nonneg _ (by split <;> omega)
  · exact Int.tmod_lt_of_pos _ h
theorem given_bd {a b c : Int} (h : given a b c = true) : 0 ≤ a ∧ a ≤ b ∧ b ≤ 999999 ∧ 1 ≤ c ∧ c ≤ 7 := by
  simp [given, valid, kind] at h
  split at h
  · omega
  · split at h <;> omega
theorem rates_bd {r s : Int} (h : rates r s = true) : 1 ≤ r ∧ r ≤ 100000 ∧ 1 ≤ s ∧ s ≤ 100000 := by simpa [rates] using h
theorem inr_iff {x : Int} : inr x = true ↔ -9223372036854775808 ≤ x ∧ x ≤ 9223372036854775807 := by simp [inr]
theorem worth_bd {f t r s : Int} (h : rates r s = true) : 0 ≤ (worth f t r s).1 ∧ (worth f t r s).1 ≤ 100000000 ∧ 1 ≤ (worth f t r s).2 ∧ (worth f t r s).2 ≤ 100000000 := by
  have := rates_bd h
  unfold worth
  repeat' split
  all_goals simp only []; omega
theorem okS_worth {a b c t r s : Int} (h : given a b c = true) (h2 : rates r s = true) : okS a b (worth c t r s).1 (worth c t r s).2 = true := by
  have := given_bd h
  have := worth_bd (f := c) (t := t) h2
  simp [okS]
  omega
theorem tdiv4_inr {z : Int} (h : inr z = true) : inr (z.tdiv 4) = true := by
  rw [inr_iff] at *
  rcases Int.le_total 0 z with h0 | h0
  · rw [Int.tdiv_eq_ediv_of_nonneg h0]; omega
  · obtain ⟨y, rfl⟩ : ∃ y, z = -y := ⟨-z, by omega⟩
    rw [Int.neg_tdiv, Int.tdiv_eq_ediv_of_nonneg (by omega)]; omega
theorem kind_pos {c : Int} (h : 1 ≤ c) (h2 : c ≤ 7) : kind c > 0 := by unfold kind; repeat' split
                                                                       all_goals omega
theorem kind_in {t : Int} (h : kind t > 0) : 1 ≤ t ∧ t ≤ 7 := by
  unfold kind at h
  split at h
  · omega
  · split at h <;> omega
theorem given_iff {a b c : Int} : given a b c = true ↔ 0 ≤ a ∧ a ≤ b ∧ b ≤ 999999 ∧ 1 ≤ c ∧ c ≤ 7 := by
  refine ⟨given_bd, fun h => ?_⟩
  have := kind_pos h.2.2.2.1 h.2.2.2.2
  simp [given, valid]
  omega
theorem given_mk {a b c x y : Int} (h : given a b c = true) (h1 : 0 ≤ x) (h2 : x ≤ y) (h3 : y ≤ 999999) : given x y c = true := by
  rw [given_iff] at *
  omega
theorem given_no {a b c x y : Int} (h : given a b c = true) (h1 : ¬(0 ≤ x ∧ x ≤ y ∧ y ≤ 999999)) : given x y c = false := by
  rw [Bool.eq_false_iff, ne_eq, given_iff] at *
  omega
theorem co_lo {a s : Int} (h1 : 0 ≤ a) (h2 : a ≤ 999999) (h3 : 1 ≤ s) : IntKind.i64.wrap (IntKind.i64.wrap (a.tdiv s) * s) = a / s * s := by
  have q := ediv_bd h1 h3
  have l := Int.ediv_mul_le a (show s ≠ 0 by omega)
  have p := Int.mul_nonneg q.1 (show 0 ≤ s by omega)
  rw [Int.tdiv_eq_ediv_of_nonneg h1, wrap_id (x := a / s) (by omega) (by omega), wrap_id (by omega) (by omega)]
theorem co_hi {b s : Int} (h1 : 0 ≤ b) (h2 : b ≤ 999999) (h3 : 1 ≤ s) (h4 : s ≤ 10000) : IntKind.i64.wrap (IntKind.i64.wrap ((IntKind.i64.wrap (IntKind.i64.wrap (b + s) - 1)).tdiv s) * s) = (b + s - 1) / s * s := by
  rw [wrap_id (x := b + s) (by omega) (by omega)]
  have q := ediv_bd (x := b + s - 1) (by omega) h3
  have l := Int.ediv_mul_le (b + s - 1) (show s ≠ 0 by omega)
  have p := Int.mul_nonneg q.1 (show 0 ≤ s by omega)
  rw [wrap_id (x := b + s - 1) (by omega) (by omega), Int.tdiv_eq_ediv_of_nonneg (by omega), wrap_id (x := (b + s - 1) / s) (by omega) (by omega), wrap_id (by omega) (by omega)]
theorem scaled_one {a b c : Int} (h : given a b c = true) : scaled a b c 1 1 = ⟨a, b, c, 0⟩ := by
  have e1 : a * 1 / 1 = a := by omega
  have e2 : (b * 1 + 1 - 1) / 1 = b := by omega
  simp only [scaled, e1, e2, checked, h, if_true]
end U
end Go.Proofs.YtblnabilodbceaaDoor
