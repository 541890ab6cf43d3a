/- The unit's functions, reckoned. Written by wip/unit/nf.py. -/
import Derived.Test.YtblnabilodbceaaDoorU4a
set_option linter.unusedVariables false
set_option linter.unusedSimpArgs false
set_option maxRecDepth 100000
set_option maxHeartbeats 2000000
namespace Go.Proofs.YtblnabilodbceaaDoor
open Go
namespace U
theorem nf_scaled (a : Int) (b : Int) (c : Int) (u : Int) (n : Int) (d : Int) : mergeT (tr10 41 [.agg [.si .i64 a, .si .i64 b, .si .i64 c], .si .i64 u, .si .i64 n, .si .i64 d]) = .ok (Option.some (Decidable.decide (d ≠ 0) && Decidable.decide (d ≠ 0))) (V.tup [V.agg [V.si IntKind.i64 (U.checked (IntKind.i64.wrap ((IntKind.i64.wrap (a * n)).tdiv d)) (IntKind.i64.wrap ((IntKind.i64.wrap (IntKind.i64.wrap (IntKind.i64.wrap (b * n) + d) - 1)).tdiv d)) u).lo, V.si IntKind.i64 (U.checked (IntKind.i64.wrap ((IntKind.i64.wrap (a * n)).tdiv d)) (IntKind.i64.wrap ((IntKind.i64.wrap (IntKind.i64.wrap (IntKind.i64.wrap (b * n) + d) - 1)).tdiv d)) u).hi, V.si IntKind.i64 (U.checked (IntKind.i64.wrap ((IntKind.i64.wrap (a * n)).tdiv d)) (IntKind.i64.wrap ((IntKind.i64.wrap (IntKind.i64.wrap (IntKind.i64.wrap (b * n) + d) - 1)).tdiv d)) u).u], V.si IntKind.i64 (U.checked (IntKind.i64.wrap ((IntKind.i64.wrap (a * n)).tdiv d)) (IntKind.i64.wrap ((IntKind.i64.wrap (IntKind.i64.wrap (IntKind.i64.wrap (b * n) + d) - 1)).tdiv d)) u).e]) := by kernel_rfl
theorem ok_scaled (a : Int) (b : Int) (c : Int) (u : Int) (n : Int) (d : Int) (hc : (U.okS a b n d) = true) : SemF Tryd.prog Γ 41 [.agg [.si .i64 a, .si .i64 b, .si .i64 c], .si .i64 u, .si .i64 n, .si .i64 d] [] [] (U.rv (U.scaled a b u n d)) [] [] := by
  refine SemF.of_ev o10 mixed (nf_scaled a b c u n d) ?_ ?_
  · show (_ : Bool) = true
    simp [okS] at hc ⊢; omega
  · simp only [rv, am, scaled, sc_lo hc, sc_hi hc]
theorem o11 : OrcOk Tryd.prog Γ orc11 := OrcOk.cons o10 41 g_scaled _ Tryd.func41 (by kernel_rfl) (by kernel_rfl) (fun args c v h hc => by
  unfold g_scaled at h
  split at h
  · cases h; exact ok_scaled _ _ _ _ _ _ (by simpa using hc)
  · cases h)
theorem nf_times (a : Int) (b : Int) (c : Int) (u : Int) (n : Int) (d : Int) : mergeT (tr11 42 [.agg [.si .i64 a, .si .i64 b, .si .i64 c], .si .i64 u, .si .i64 n, .si .i64 d]) = .ok (Option.some (Decidable.decide (d ≠ 0) && Decidable.decide (d ≠ 0))) (V.tup [V.agg [V.si IntKind.i64 (bif Decidable.decide (IntKind.i64.wrap (IntKind.i64.wrap ((IntKind.i64.wrap (b * n)).tdiv d) * d) < IntKind.i64.wrap (b * n)) then bif !U.given (IntKind.i64.wrap ((IntKind.i64.wrap (a * n)).tdiv d)) (IntKind.i64.wrap (IntKind.i64.wrap ((IntKind.i64.wrap (b * n)).tdiv d) + 1)) u then 0 else IntKind.i64.wrap ((IntKind.i64.wrap (a * n)).tdiv d) else bif !U.given (IntKind.i64.wrap ((IntKind.i64.wrap (a * n)).tdiv d)) (IntKind.i64.wrap ((IntKind.i64.wrap (b * n)).tdiv d)) u then 0 else IntKind.i64.wrap ((IntKind.i64.wrap (a * n)).tdiv d)), V.si IntKind.i64 (bif Decidable.decide (IntKind.i64.wrap (IntKind.i64.wrap ((IntKind.i64.wrap (b * n)).tdiv d) * d) < IntKind.i64.wrap (b * n)) then bif !U.given (IntKind.i64.wrap ((IntKind.i64.wrap (a * n)).tdiv d)) (IntKind.i64.wrap (IntKind.i64.wrap ((IntKind.i64.wrap (b * n)).tdiv d) + 1)) u then 0 else IntKind.i64.wrap (IntKind.i64.wrap ((IntKind.i64.wrap (b * n)).tdiv d) + 1) else bif !U.given (IntKind.i64.wrap ((IntKind.i64.wrap (a * n)).tdiv d)) (IntKind.i64.wrap ((IntKind.i64.wrap (b * n)).tdiv d)) u then 0 else IntKind.i64.wrap ((IntKind.i64.wrap (b * n)).tdiv d)), V.si IntKind.i64 (bif Decidable.decide (IntKind.i64.wrap (IntKind.i64.wrap ((IntKind.i64.wrap (b * n)).tdiv d) * d) < IntKind.i64.wrap (b * n)) then bif !U.given (IntKind.i64.wrap ((IntKind.i64.wrap (a * n)).tdiv d)) (IntKind.i64.wrap (IntKind.i64.wrap ((IntKind.i64.wrap (b * n)).tdiv d) + 1)) u then 0 else u else bif !U.given (IntKind.i64.wrap ((IntKind.i64.wrap (a * n)).tdiv d)) (IntKind.i64.wrap ((IntKind.i64.wrap (b * n)).tdiv d)) u then 0 else u)], V.si IntKind.i64 (bif Decidable.decide (IntKind.i64.wrap (IntKind.i64.wrap ((IntKind.i64.wrap (b * n)).tdiv d) * d) < IntKind.i64.wrap (b * n)) then bif !U.given (IntKind.i64.wrap ((IntKind.i64.wrap (a * n)).tdiv d)) (IntKind.i64.wrap (IntKind.i64.wrap ((IntKind.i64.wrap (b * n)).tdiv d) + 1)) u then 50 else 0 else bif !U.given (IntKind.i64.wrap ((IntKind.i64.wrap (a * n)).tdiv d)) (IntKind.i64.wrap ((IntKind.i64.wrap (b * n)).tdiv d)) u then 50 else 0)]) := by kernel_rfl
theorem ok_times (a : Int) (b : Int) (c : Int) (u : Int) (n : Int) (d : Int) (hc : (U.okS a b n d) = true) : SemF Tryd.prog Γ 42 [.agg [.si .i64 a, .si .i64 b, .si .i64 c], .si .i64 u, .si .i64 n, .si .i64 d] [] [] (U.rv (U.scaled a b u n d)) [] [] := by
  refine SemF.of_ev o11 mixed (nf_times a b c u n d) ?_ ?_
  · show (_ : Bool) = true
    simp [okS] at hc ⊢; omega
  · obtain ⟨h1, h2, h3, h4, h5, h6, h7, h8⟩ := okS_iff hc
    have m := mul_bd h3 h4 h5 h6
    have q := ediv_bd m.1 h7
    have l := Int.ediv_mul_le (b * n) (show d ≠ 0 by omega)
    have p := Int.mul_nonneg q.1 (show 0 ≤ d by omega)
    simp only [rv, am, scaled, checked, sc_lo hc, sc_lo' hc]
    simp only [wrap_id (x := b * n) (by omega) (by omega), wrap_id (x := b * n / d * d) (by omega) (by omega), wrap_id (x := b * n / d + 1) (by omega) (by omega), up_eq m.1 h7, Bool.cond_decide]
    by_cases k : b * n / d * d < b * n
    · simp only [k, if_true]; cases given (a * n / d) (b * n / d + 1) u <;> rfl
    · simp only [k, if_false]; cases given (a * n / d) (b * n / d) u <;> rfl
theorem o12 : OrcOk Tryd.prog Γ orc12 := OrcOk.cons o11 42 g_times _ Tryd.func42 (by kernel_rfl) (by kernel_rfl) (fun args c v h hc => by
  unfold g_times at h
  split at h
  · cases h; exact ok_times _ _ _ _ _ _ (by simpa using hc)
  · cases h)
theorem nf_convert (a : Int) (b : Int) (c : Int) (t : Int) (r : Int) (s : Int) : mergeT (tr12 19 [.agg [.si .i64 a, .si .i64 b, .si .i64 c], .si .i64 t, .agg [.si .i64 r, .si .i64 s]]) = .ok (Option.some (!U.given a b c || (!U.rates r s || (U.kind t != U.kind c || (t == c || bif t == 7 then U.okS a b s r else bif t == 6 then U.okS a b r s else Decidable.decide (0 ≤ c ∧ c < 8) && (Decidable.decide (0 ≤ t ∧ t < 8) && U.okS a b (IntKind.i64.wrap ((bif Decidable.decide (c = 0) then 0 else bif Decidable.decide (c - 1 = 0) then 1 else bif Decidable.decide (c - 1 - 1 = 0) then 1 else bif Decidable.decide (c - 1 - 1 - 1 = 0) then 3048 else bif Decidable.decide (c - 1 - 1 - 1 - 1 = 0) then 1 else bif Decidable.decide (c - 1 - 1 - 1 - 1 - 1 = 0) then 45359237 else 1) * bif Decidable.decide (t = 0) then 0 else bif Decidable.decide (t - 1 = 0) then 1 else bif Decidable.decide (t - 1 - 1 = 0) then 1 else bif Decidable.decide (t - 1 - 1 - 1 = 0) then 10000 else bif Decidable.decide (t - 1 - 1 - 1 - 1 = 0) then 1 else bif Decidable.decide (t - 1 - 1 - 1 - 1 - 1 = 0) then 100000000 else 1)) (IntKind.i64.wrap ((bif Decidable.decide (c = 0) then 0 else bif Decidable.decide (c - 1 = 0) then 1 else bif Decidable.decide (c - 1 - 1 = 0) then 1 else bif Decidable.decide (c - 1 - 1 - 1 = 0) then 10000 else bif Decidable.decide (c - 1 - 1 - 1 - 1 = 0) then 1 else bif Decidable.decide (c - 1 - 1 - 1 - 1 - 1 = 0) then 100000000 else 1) * bif Decidable.decide (t = 0) then 0 else bif Decidable.decide (t - 1 = 0) then 1 else bif Decidable.decide (t - 1 - 1 = 0) then 1 else bif Decidable.decide (t - 1 - 1 - 1 = 0) then 3048 else bif Decidable.decide (t - 1 - 1 - 1 - 1 = 0) then 1 else bif Decidable.decide (t - 1 - 1 - 1 - 1 - 1 = 0) then 45359237 else 1)))))))) (V.tup [V.agg [V.si IntKind.i64 (bif !U.given a b c then 0 else bif !U.rates r s then 0 else bif U.kind t != U.kind c then 0 else bif t == c then a else bif t == 7 then (U.scaled a b t s r).lo else bif t == 6 then (U.scaled a b t r s).lo else (U.scaled a b t (IntKind.i64.wrap ((bif Decidable.decide (c = 0) then 0 else bif Decidable.decide (c - 1 = 0) then 1 else bif Decidable.decide (c - 1 - 1 = 0) then 1 else bif Decidable.decide (c - 1 - 1 - 1 = 0) then 3048 else bif Decidable.decide (c - 1 - 1 - 1 - 1 = 0) then 1 else bif Decidable.decide (c - 1 - 1 - 1 - 1 - 1 = 0) then 45359237 else 1) * bif Decidable.decide (t = 0) then 0 else bif Decidable.decide (t - 1 = 0) then 1 else bif Decidable.decide (t - 1 - 1 = 0) then 1 else bif Decidable.decide (t - 1 - 1 - 1 = 0) then 10000 else bif Decidable.decide (t - 1 - 1 - 1 - 1 = 0) then 1 else bif Decidable.decide (t - 1 - 1 - 1 - 1 - 1 = 0) then 100000000 else 1)) (IntKind.i64.wrap ((bif Decidable.decide (c = 0) then 0 else bif Decidable.decide (c - 1 = 0) then 1 else bif Decidable.decide (c - 1 - 1 = 0) then 1 else bif Decidable.decide (c - 1 - 1 - 1 = 0) then 10000 else bif Decidable.decide (c - 1 - 1 - 1 - 1 = 0) then 1 else bif Decidable.decide (c - 1 - 1 - 1 - 1 - 1 = 0) then 100000000 else 1) * bif Decidable.decide (t = 0) then 0 else bif Decidable.decide (t - 1 = 0) then 1 else bif Decidable.decide (t - 1 - 1 = 0) then 1 else bif Decidable.decide (t - 1 - 1 - 1 = 0) then 3048 else bif Decidable.decide (t - 1 - 1 - 1 - 1 = 0) then 1 else bif Decidable.decide (t - 1 - 1 - 1 - 1 - 1 = 0) then 45359237 else 1))).lo), V.si IntKind.i64 (bif !U.given a b c then 0 else bif !U.rates r s then 0 else bif U.kind t != U.kind c then 0 else bif t == c then b else bif t == 7 then (U.scaled a b t s r).hi else bif t == 6 then (U.scaled a b t r s).hi else (U.scaled a b t (IntKind.i64.wrap ((bif Decidable.decide (c = 0) then 0 else bif Decidable.decide (c - 1 = 0) then 1 else bif Decidable.decide (c - 1 - 1 = 0) then 1 else bif Decidable.decide (c - 1 - 1 - 1 = 0) then 3048 else bif Decidable.decide (c - 1 - 1 - 1 - 1 = 0) then 1 else bif Decidable.decide (c - 1 - 1 - 1 - 1 - 1 = 0) then 45359237 else 1) * bif Decidable.decide (t = 0) then 0 else bif Decidable.decide (t - 1 = 0) then 1 else bif Decidable.decide (t - 1 - 1 = 0) then 1 else bif Decidable.decide (t - 1 - 1 - 1 = 0) then 10000 else bif Decidable.decide (t - 1 - 1 - 1 - 1 = 0) then 1 else bif Decidable.decide (t - 1 - 1 - 1 - 1 - 1 = 0) then 100000000 else 1)) (IntKind.i64.wrap ((bif Decidable.decide (c = 0) then 0 else bif Decidable.decide (c - 1 = 0) then 1 else bif Decidable.decide (c - 1 - 1 = 0) then 1 else bif Decidable.decide (c - 1 - 1 - 1 = 0) then 10000 else bif Decidable.decide (c - 1 - 1 - 1 - 1 = 0) then 1 else bif Decidable.decide (c - 1 - 1 - 1 - 1 - 1 = 0) then 100000000 else 1) * bif Decidable.decide (t = 0) then 0 else bif Decidable.decide (t - 1 = 0) then 1 else bif Decidable.decide (t - 1 - 1 = 0) then 1 else bif Decidable.decide (t - 1 - 1 - 1 = 0) then 3048 else bif Decidable.decide (t - 1 - 1 - 1 - 1 = 0) then 1 else bif Decidable.decide (t - 1 - 1 - 1 - 1 - 1 = 0) then 45359237 else 1))).hi), V.si IntKind.i64 (bif !U.given a b c then 0 else bif !U.rates r s then 0 else bif U.kind t != U.kind c then 0 else bif t == c then c else bif t == 7 then (U.scaled a b t s r).u else bif t == 6 then (U.scaled a b t r s).u else (U.scaled a b t (IntKind.i64.wrap ((bif Decidable.decide (c = 0) then 0 else bif Decidable.decide (c - 1 = 0) then 1 else bif Decidable.decide (c - 1 - 1 = 0) then 1 else bif Decidable.decide (c - 1 - 1 - 1 = 0) then 3048 else bif Decidable.decide (c - 1 - 1 - 1 - 1 = 0) then 1 else bif Decidable.decide (c - 1 - 1 - 1 - 1 - 1 = 0) then 45359237 else 1) * bif Decidable.decide (t = 0) then 0 else bif Decidable.decide (t - 1 = 0) then 1 else bif Decidable.decide (t - 1 - 1 = 0) then 1 else bif Decidable.decide (t - 1 - 1 - 1 = 0) then 10000 else bif Decidable.decide (t - 1 - 1 - 1 - 1 = 0) then 1 else bif Decidable.decide (t - 1 - 1 - 1 - 1 - 1 = 0) then 100000000 else 1)) (IntKind.i64.wrap ((bif Decidable.decide (c = 0) then 0 else bif Decidable.decide (c - 1 = 0) then 1 else bif Decidable.decide (c - 1 - 1 = 0) then 1 else bif Decidable.decide (c - 1 - 1 - 1 = 0) then 10000 else bif Decidable.decide (c - 1 - 1 - 1 - 1 = 0) then 1 else bif Decidable.decide (c - 1 - 1 - 1 - 1 - 1 = 0) then 100000000 else 1) * bif Decidable.decide (t = 0) then 0 else bif Decidable.decide (t - 1 = 0) then 1 else bif Decidable.decide (t - 1 - 1 = 0) then 1 else bif Decidable.decide (t - 1 - 1 - 1 = 0) then 3048 else bif Decidable.decide (t - 1 - 1 - 1 - 1 = 0) then 1 else bif Decidable.decide (t - 1 - 1 - 1 - 1 - 1 = 0) then 45359237 else 1))).u)], V.si IntKind.i64 (bif !U.given a b c then 50 else bif !U.rates r s then 50 else bif U.kind t != U.kind c then 50 else bif t == c then 0 else bif t == 7 then (U.scaled a b t s r).e else bif t == 6 then (U.scaled a b t r s).e else (U.scaled a b t (IntKind.i64.wrap ((bif Decidable.decide (c = 0) then 0 else bif Decidable.decide (c - 1 = 0) then 1 else bif Decidable.decide (c - 1 - 1 = 0) then 1 else bif Decidable.decide (c - 1 - 1 - 1 = 0) then 3048 else bif Decidable.decide (c - 1 - 1 - 1 - 1 = 0) then 1 else bif Decidable.decide (c - 1 - 1 - 1 - 1 - 1 = 0) then 45359237 else 1) * bif Decidable.decide (t = 0) then 0 else bif Decidable.decide (t - 1 = 0) then 1 else bif Decidable.decide (t - 1 - 1 = 0) then 1 else bif Decidable.decide (t - 1 - 1 - 1 = 0) then 10000 else bif Decidable.decide (t - 1 - 1 - 1 - 1 = 0) then 1 else bif Decidable.decide (t - 1 - 1 - 1 - 1 - 1 = 0) then 100000000 else 1)) (IntKind.i64.wrap ((bif Decidable.decide (c = 0) then 0 else bif Decidable.decide (c - 1 = 0) then 1 else bif Decidable.decide (c - 1 - 1 = 0) then 1 else bif Decidable.decide (c - 1 - 1 - 1 = 0) then 10000 else bif Decidable.decide (c - 1 - 1 - 1 - 1 = 0) then 1 else bif Decidable.decide (c - 1 - 1 - 1 - 1 - 1 = 0) then 100000000 else 1) * bif Decidable.decide (t = 0) then 0 else bif Decidable.decide (t - 1 = 0) then 1 else bif Decidable.decide (t - 1 - 1 = 0) then 1 else bif Decidable.decide (t - 1 - 1 - 1 = 0) then 3048 else bif Decidable.decide (t - 1 - 1 - 1 - 1 = 0) then 1 else bif Decidable.decide (t - 1 - 1 - 1 - 1 - 1 = 0) then 45359237 else 1))).e)]) := by kernel_rfl
theorem ok_convert (a : Int) (b : Int) (c : Int) (t : Int) (r : Int) (s : Int) : SemF Tryd.prog Γ 19 [.agg [.si .i64 a, .si .i64 b, .si .i64 c], .si .i64 t, .agg [.si .i64 r, .si .i64 s]] [] [] (U.rv (U.convert a b c t r s)) [] [] := by
  refine SemF.of_ev o12 mixed (nf_convert a b c t r s) ?_ ?_
  · show (_ : Bool) = true
    cases hg : given a b c with
    | false => rfl
    | true =>
    cases hr : rates r s with
    | false => rfl
    | true =>
    by_cases hk : kind t = kind c
    case neg => simp [hk]
    have h1 := given_bd hg
    have h2 := rates_bd hr
    have h3 := kind_pos h1.2.2.2.1 h1.2.2.2.2
    have h4 := kind_in (hk ▸ h3 : kind t > 0)
    obtain c7 : c = 1 ∨ c = 2 ∨ c = 3 ∨ c = 4 ∨ c = 5 ∨ c = 6 ∨ c = 7 := by omega
    obtain t7 : t = 1 ∨ t = 2 ∨ t = 3 ∨ t = 4 ∨ t = 5 ∨ t = 6 ∨ t = 7 := by omega
    rcases c7 with rfl | rfl | rfl | rfl | rfl | rfl | rfl <;> rcases t7 with rfl | rfl | rfl | rfl | rfl | rfl | rfl <;> first | exact absurd hk (by decide) | (simp [okS, hg, hr, IntKind.wrap, IntKind.bits, IntKind.signed]; try omega)
  · cases hg : given a b c with
    | false => simp [convert, rv, am, bad, Bool.cond_eq_ite, *]
    | true =>
    cases hr : rates r s with
    | false => simp [convert, rv, am, bad, Bool.cond_eq_ite, *]
    | true =>
    by_cases hk : kind t = kind c
    case neg => simp [convert, rv, am, bad, Bool.cond_eq_ite, *]
    have h1 := given_bd hg
    have h2 := rates_bd hr
    have h3 := kind_pos h1.2.2.2.1 h1.2.2.2.2
    have h4 := kind_in (hk ▸ h3 : kind t > 0)
    by_cases hs : t = c
    · subst hs
      have hw : worth t t r s = (1, 1) := by unfold worth; repeat' split
                                             all_goals first | rfl | omega
      simp [convert, hg, hr, hw, scaled_one hg, rv, am]
    obtain c7 : c = 1 ∨ c = 2 ∨ c = 3 ∨ c = 4 ∨ c = 5 ∨ c = 6 ∨ c = 7 := by omega
    obtain t7 : t = 1 ∨ t = 2 ∨ t = 3 ∨ t = 4 ∨ t = 5 ∨ t = 6 ∨ t = 7 := by omega
    rcases c7 with rfl | rfl | rfl | rfl | rfl | rfl | rfl <;> rcases t7 with rfl | rfl | rfl | rfl | rfl | rfl | rfl <;> first | exact absurd hk (by decide) | exact absurd rfl hs | (refine Eq.trans (b := rv (convert _ _ _ _ _ _)) ?_ rfl; simp only [convert, hg, hr]; exact id (by kernel_rfl))
theorem o13 : OrcOk Tryd.prog Γ orc13 := OrcOk.cons o12 19 g_convert _ Tryd.func19 (by kernel_rfl) (by kernel_rfl) (fun args c v h hc => by
  unfold g_convert at h
  split at h
  · cases h; exact ok_convert _ _ _ _ _ _
  · cases h)
theorem nf_rConvert (a : Int) (b : Int) (c : Int) (t : Int) (r : Int) (s : Int) : mergeT (tr13 20 [.agg [.si .i64 a, .si .i64 b, .si .i64 c], .si .i64 t, .agg [.si .i64 r, .si .i64 s]]) = .ok (Option.some (!U.given a b c || (!U.rates r s || (U.kind t != U.kind c || U.okS a b (U.worth c t r s).fst (U.worth c t r s).snd)))) (V.tup [V.agg [V.si IntKind.i64 (bif !U.given a b c then 0 else bif !U.rates r s then 0 else bif U.kind t != U.kind c then 0 else (U.scaled a b t (U.worth c t r s).fst (U.worth c t r s).snd).lo), V.si IntKind.i64 (bif !U.given a b c then 0 else bif !U.rates r s then 0 else bif U.kind t != U.kind c then 0 else (U.scaled a b t (U.worth c t r s).fst (U.worth c t r s).snd).hi), V.si IntKind.i64 (bif !U.given a b c then 0 else bif !U.rates r s then 0 else bif U.kind t != U.kind c then 0 else (U.scaled a b t (U.worth c t r s).fst (U.worth c t r s).snd).u)], V.si IntKind.i64 (bif !U.given a b c then 50 else bif !U.rates r s then 50 else bif U.kind t != U.kind c then 50 else (U.scaled a b t (U.worth c t r s).fst (U.worth c t r s).snd).e)]) := by kernel_rfl
theorem ok_rConvert (a : Int) (b : Int) (c : Int) (t : Int) (r : Int) (s : Int) : SemF Tryd.prog Γ 20 [.agg [.si .i64 a, .si .i64 b, .si .i64 c], .si .i64 t, .agg [.si .i64 r, .si .i64 s]] [] [] (U.rv (U.convert a b c t r s)) [] [] := by
  refine SemF.of_ev o13 mixed (nf_rConvert a b c t r s) ?_ ?_
  · show (_ : Bool) = true
    cases hg : given a b c with
    | false => rfl
    | true =>
    cases hr : rates r s with
    | false => rfl
    | true =>
    by_cases hk : kind t = kind c
    case neg => simp [hk]
    have h1 := given_bd hg
    have h2 := rates_bd hr
    have h3 := kind_pos h1.2.2.2.1 h1.2.2.2.2
    have h4 := kind_in (hk ▸ h3 : kind t > 0)
    simp [okS_worth hg hr]
  · simp only [convert, rv, am, bad]; cases given a b c <;> cases rates r s <;> by_cases h : kind t = kind c <;> simp [h, Bool.cond_eq_ite]
theorem o14 : OrcOk Tryd.prog Γ orc14 := OrcOk.cons o13 20 g_rConvert _ Tryd.func20 (by kernel_rfl) (by kernel_rfl) (fun args c v h hc => by
  unfold g_rConvert at h
  split at h
  · cases h; exact ok_rConvert _ _ _ _ _ _
  · cases h)
theorem nf_coarse (a : Int) (b : Int) (c : Int) (s : Int) : mergeT (tr14 26 [.agg [.si .i64 a, .si .i64 b, .si .i64 c], .si .i64 s]) = .ok (Option.none) (V.tup [V.agg [V.si IntKind.i64 (bif 1 == s then bif U.given a b c then (U.checked (IntKind.i64.wrap (IntKind.i64.wrap (a.tdiv 1) * 1)) (IntKind.i64.wrap (IntKind.i64.wrap ((IntKind.i64.wrap (IntKind.i64.wrap (b + 1) - 1)).tdiv 1) * 1)) c).lo else bif 10 == s then bif U.given a b c then (U.checked (IntKind.i64.wrap (IntKind.i64.wrap (a.tdiv 10) * 10)) (IntKind.i64.wrap (IntKind.i64.wrap ((IntKind.i64.wrap (IntKind.i64.wrap (b + 10) - 1)).tdiv 10) * 10)) c).lo else bif 100 == s then bif U.given a b c then (U.checked (IntKind.i64.wrap (IntKind.i64.wrap (a.tdiv 100) * 100)) (IntKind.i64.wrap (IntKind.i64.wrap ((IntKind.i64.wrap (IntKind.i64.wrap (b + 100) - 1)).tdiv 100) * 100)) c).lo else bif 1000 == s then bif U.given a b c then (U.checked (IntKind.i64.wrap (IntKind.i64.wrap (a.tdiv 1000) * 1000)) (IntKind.i64.wrap (IntKind.i64.wrap ((IntKind.i64.wrap (IntKind.i64.wrap (b + 1000) - 1)).tdiv 1000) * 1000)) c).lo else bif 10000 == s then bif U.given a b c then (U.checked (IntKind.i64.wrap (IntKind.i64.wrap (a.tdiv 10000) * 10000)) (IntKind.i64.wrap (IntKind.i64.wrap ((IntKind.i64.wrap (IntKind.i64.wrap (b + 10000) - 1)).tdiv 10000) * 10000)) c).lo else 0 else 0 else bif 10000 == s then bif U.given a b c then (U.checked (IntKind.i64.wrap (IntKind.i64.wrap (a.tdiv 10000) * 10000)) (IntKind.i64.wrap (IntKind.i64.wrap ((IntKind.i64.wrap (IntKind.i64.wrap (b + 10000) - 1)).tdiv 10000) * 10000)) c).lo else 0 else 0 else bif 1000 == s then bif U.given a b c then (U.checked (IntKind.i64.wrap (IntKind.i64.wrap (a.tdiv 1000) * 1000)) (IntKind.i64.wrap (IntKind.i64.wrap ((IntKind.i64.wrap (IntKind.i64.wrap (b + 1000) - 1)).tdiv 1000) * 1000)) c).lo else bif 10000 == s then bif U.given a b c then (U.checked (IntKind.i64.wrap (IntKind.i64.wrap (a.tdiv 10000) * 10000)) (IntKind.i64.wrap (IntKind.i64.wrap ((IntKind.i64.wrap (IntKind.i64.wrap (b + 10000) - 1)).tdiv 10000) * 10000)) c).lo else 0 else 0 else bif 10000 == s then bif U.given a b c then (U.checked (IntKind.i64.wrap (IntKind.i64.wrap (a.tdiv 10000) * 10000)) (IntKind.i64.wrap (IntKind.i64.wrap ((IntKind.i64.wrap (IntKind.i64.wrap (b + 10000) - 1)).tdiv 10000) * 10000)) c).lo else 0 else 0 else bif 100 == s then bif U.given a b c then (U.checked (IntKind.i64.wrap (IntKind.i64.wrap (a.tdiv 100) * 100)) (IntKind.i64.wrap (IntKind.i64.wrap ((IntKind.i64.wrap (IntKind.i64.wrap (b + 100) - 1)).tdiv 100) * 100)) c).lo else bif 1000 == s then bif U.given a b c then (U.checked (IntKind.i64.wrap (IntKind.i64.wrap (a.tdiv 1000) * 1000)) (IntKind.i64.wrap (IntKind.i64.wrap ((IntKind.i64.wrap (IntKind.i64.wrap (b + 1000) - 1)).tdiv 1000) * 1000)) c).lo else bif 10000 == s then bif U.given a b c then (U.checked (IntKind.i64.wrap (IntKind.i64.wrap (a.tdiv 10000) * 10000)) (IntKind.i64.wrap (IntKind.i64.wrap ((IntKind.i64.wrap (IntKind.i64.wrap (b + 10000) - 1)).tdiv 10000) * 10000)) c).lo else 0 else 0 else bif 10000 == s then bif U.given a b c then (U.checked (IntKind.i64.wrap (IntKind.i64.wrap (a.tdiv 10000) * 10000)) (IntKind.i64.wrap (IntKind.i64.wrap ((IntKind.i64.wrap (IntKind.i64.wrap (b + 10000) - 1)).tdiv 10000) * 10000)) c).lo else 0 else 0 else bif 1000 == s then bif U.given a b c then (U.checked (IntKind.i64.wrap (IntKind.i64.wrap (a.tdiv 1000) * 1000)) (IntKind.i64.wrap (IntKind.i64.wrap ((IntKind.i64.wrap (IntKind.i64.wrap (b + 1000) - 1)).tdiv 1000) * 1000)) c).lo else bif 10000 == s then bif U.given a b c then (U.checked (IntKind.i64.wrap (IntKind.i64.wrap (a.tdiv 10000) * 10000)) (IntKind.i64.wrap (IntKind.i64.wrap ((IntKind.i64.wrap (IntKind.i64.wrap (b + 10000) - 1)).tdiv 10000) * 10000)) c).lo else 0 else 0 else bif 10000 == s then bif U.given a b c then (U.checked (IntKind.i64.wrap (IntKind.i64.wrap (a.tdiv 10000) * 10000)) (IntKind.i64.wrap (IntKind.i64.wrap ((IntKind.i64.wrap (IntKind.i64.wrap (b + 10000) - 1)).tdiv 10000) * 10000)) c).lo else 0 else 0 else bif 10 == s then bif U.given a b c then (U.checked (IntKind.i64.wrap (IntKind.i64.wrap (a.tdiv 10) * 10)) (IntKind.i64.wrap (IntKind.i64.wrap ((IntKind.i64.wrap (IntKind.i64.wrap (b + 10) - 1)).tdiv 10) * 10)) c).lo else bif 100 == s then bif U.given a b c then (U.checked (IntKind.i64.wrap (IntKind.i64.wrap (a.tdiv 100) * 100)) (IntKind.i64.wrap (IntKind.i64.wrap ((IntKind.i64.wrap (IntKind.i64.wrap (b + 100) - 1)).tdiv 100) * 100)) c).lo else bif 1000 == s then bif U.given a b c then (U.checked (IntKind.i64.wrap (IntKind.i64.wrap (a.tdiv 1000) * 1000)) (IntKind.i64.wrap (IntKind.i64.wrap ((IntKind.i64.wrap (IntKind.i64.wrap (b + 1000) - 1)).tdiv 1000) * 1000)) c).lo else bif 10000 == s then bif U.given a b c then (U.checked (IntKind.i64.wrap (IntKind.i64.wrap (a.tdiv 10000) * 10000)) (IntKind.i64.wrap (IntKind.i64.wrap ((IntKind.i64.wrap (IntKind.i64.wrap (b + 10000) - 1)).tdiv 10000) * 10000)) c).lo else 0 else 0 else bif 10000 == s then bif U.given a b c then (U.checked (IntKind.i64.wrap (IntKind.i64.wrap (a.tdiv 10000) * 10000)) (IntKind.i64.wrap (IntKind.i64.wrap ((IntKind.i64.wrap (IntKind.i64.wrap (b + 10000) - 1)).tdiv 10000) * 10000)) c).lo else 0 else 0 else bif 1000 == s then bif U.given a b c then (U.checked (IntKind.i64.wrap (IntKind.i64.wrap (a.tdiv 1000) * 1000)) (IntKind.i64.wrap (IntKind.i64.wrap ((IntKind.i64.wrap (IntKind.i64.wrap (b + 1000) - 1)).tdiv 1000) * 1000)) c).lo else bif 10000 == s then bif U.given a b c then (U.checked (IntKind.i64.wrap (IntKind.i64.wrap (a.tdiv 10000) * 10000)) (IntKind.i64.wrap (IntKind.i64.wrap ((IntKind.i64.wrap (IntKind.i64.wrap (b + 10000) - 1)).tdiv 10000) * 10000)) c).lo else 0 else 0 else bif 10000 == s then bif U.given a b c then (U.checked (IntKind.i64.wrap (IntKind.i64.wrap (a.tdiv 10000) * 10000)) (IntKind.i64.wrap (IntKind.i64.wrap ((IntKind.i64.wrap (IntKind.i64.wrap (b + 10000) - 1)).tdiv 10000) * 10000)) c).lo else 0 else 0 else bif 100 == s then bif U.given a b c then (U.checked (IntKind.i64.wrap (IntKind.i64.wrap (a.tdiv 100) * 100)) (IntKind.i64.wrap (IntKind.i64.wrap ((IntKind.i64.wrap (IntKind.i64.wrap (b + 100) - 1)).tdiv 100) * 100)) c).lo else bif 1000 == s then bif U.given a b c then (U.checked (IntKind.i64.wrap (IntKind.i64.wrap (a.tdiv 1000) * 1000)) (IntKind.i64.wrap (IntKind.i64.wrap ((IntKind.i64.wrap (IntKind.i64.wrap (b + 1000) - 1)).tdiv 1000) * 1000)) c).lo else bif 10000 == s then bif U.given a b c then (U.checked (IntKind.i64.wrap (IntKind.i64.wrap (a.tdiv 10000) * 10000)) (IntKind.i64.wrap (IntKind.i64.wrap ((IntKind.i64.wrap (IntKind.i64.wrap (b + 10000) - 1)).tdiv 10000) * 10000)) c).lo else 0 else 0 else bif 10000 == s then bif U.given a b c then (U.checked (IntKind.i64.wrap (IntKind.i64.wrap (a.tdiv 10000) * 10000)) (IntKind.i64.wrap (IntKind.i64.wrap ((IntKind.i64.wrap (IntKind.i64.wrap (b + 10000) - 1)).tdiv 10000) * 10000)) c).lo else 0 else 0 else bif 1000 == s then bif U.given a b c then (U.checked (IntKind.i64.wrap (IntKind.i64.wrap (a.tdiv 1000) * 1000)) (IntKind.i64.wrap (IntKind.i64.wrap ((IntKind.i64.wrap (IntKind.i64.wrap (b + 1000) - 1)).tdiv 1000) * 1000)) c).lo else bif 10000 == s then bif U.given a b c then (U.checked (IntKind.i64.wrap (IntKind.i64.wrap (a.tdiv 10000) * 10000)) (IntKind.i64.wrap (IntKind.i64.wrap ((IntKind.i64.wrap (IntKind.i64.wrap (b + 10000) - 1)).tdiv 10000) * 10000)) c).lo else 0 else 0 else bif 10000 == s then bif U.given a b c then (U.checked (IntKind.i64.wrap (IntKind.i64.wrap (a.tdiv 10000) * 10000)) (IntKind.i64.wrap (IntKind.i64.wrap ((IntKind.i64.wrap (IntKind.i64.wrap (b + 10000) - 1)).tdiv 10000) * 10000)) c).lo else 0 else 0), V.si IntKind.i64 (bif 1 == s then bif U.given a b c then (U.checked (IntKind.i64.wrap (IntKind.i64.wrap (a.tdiv 1) * 1)) (IntKind.i64.wrap (IntKind.i64.wrap ((IntKind.i64.wrap (IntKind.i64.wrap (b + 1) - 1)).tdiv 1) * 1)) c).hi else bif 10 == s then bif U.given a b c then (U.checked (IntKind.i64.wrap (IntKind.i64.wrap (a.tdiv 10) * 10)) (IntKind.i64.wrap (IntKind.i64.wrap ((IntKind.i64.wrap (IntKind.i64.wrap (b + 10) - 1)).tdiv 10) * 10)) c).hi else bif 100 == s then bif U.given a b c then (U.checked (IntKind.i64.wrap (IntKind.i64.wrap (a.tdiv 100) * 100)) (IntKind.i64.wrap (IntKind.i64.wrap ((IntKind.i64.wrap (IntKind.i64.wrap (b + 100) - 1)).tdiv 100) * 100)) c).hi else bif 1000 == s then bif U.given a b c then (U.checked (IntKind.i64.wrap (IntKind.i64.wrap (a.tdiv 1000) * 1000)) (IntKind.i64.wrap (IntKind.i64.wrap ((IntKind.i64.wrap (IntKind.i64.wrap (b + 1000) - 1)).tdiv 1000) * 1000)) c).hi else bif 10000 == s then bif U.given a b c then (U.checked (IntKind.i64.wrap (IntKind.i64.wrap (a.tdiv 10000) * 10000)) (IntKind.i64.wrap (IntKind.i64.wrap ((IntKind.i64.wrap (IntKind.i64.wrap (b + 10000) - 1)).tdiv 10000) * 10000)) c).hi else 0 else 0 else bif 10000 == s then bif U.given a b c then (U.checked (IntKind.i64.wrap (IntKind.i64.wrap (a.tdiv 10000) * 10000)) (IntKind.i64.wrap (IntKind.i64.wrap ((IntKind.i64.wrap (IntKind.i64.wrap (b + 10000) - 1)).tdiv 10000) * 10000)) c).hi else 0 else 0 else bif 1000 == s then bif U.given a b c then (U.checked (IntKind.i64.wrap (IntKind.i64.wrap (a.tdiv 1000) * 1000)) (IntKind.i64.wrap (IntKind.i64.wrap ((IntKind.i64.wrap (IntKind.i64.wrap (b + 1000) - 1)).tdiv 1000) * 1000)) c).hi else bif 10000 == s then bif U.given a b c then (U.checked (IntKind.i64.wrap (IntKind.i64.wrap (a.tdiv 10000) * 10000)) (IntKind.i64.wrap (IntKind.i64.wrap ((IntKind.i64.wrap (IntKind.i64.wrap (b + 10000) - 1)).tdiv 10000) * 10000)) c).hi else 0 else 0 else bif 10000 == s then bif U.given a b c then (U.checked (IntKind.i64.wrap (IntKind.i64.wrap (a.tdiv 10000) * 10000)) (IntKind.i64.wrap (IntKind.i64.wrap ((IntKind.i64.wrap (IntKind.i64.wrap (b + 10000) - 1)).tdiv 10000) * 10000)) c).hi else 0 else 0 else bif 100 == s then bif U.given a b c then (U.checked (IntKind.i64.wrap (IntKind.i64.wrap (a.tdiv 100) * 100)) (IntKind.i64.wrap (IntKind.i64.wrap ((IntKind.i64.wrap (IntKind.i64.wrap (b + 100) - 1)).tdiv 100) * 100)) c).hi else bif 1000 == s then bif U.given a b c then (U.checked (IntKind.i64.wrap (IntKind.i64.wrap (a.tdiv 1000) * 1000)) (IntKind.i64.wrap (IntKind.i64.wrap ((IntKind.i64.wrap (IntKind.i64.wrap (b + 1000) - 1)).tdiv 1000) * 1000)) c).hi else bif 10000 == s then bif U.given a b c then (U.checked (IntKind.i64.wrap (IntKind.i64.wrap (a.tdiv 10000) * 10000)) (IntKind.i64.wrap (IntKind.i64.wrap ((IntKind.i64.wrap (IntKind.i64.wrap (b + 10000) - 1)).tdiv 10000) * 10000)) c).hi else 0 else 0 else bif 10000 == s then bif U.given a b c then (U.checked (IntKind.i64.wrap (IntKind.i64.wrap (a.tdiv 10000) * 10000)) (IntKind.i64.wrap (IntKind.i64.wrap ((IntKind.i64.wrap (IntKind.i64.wrap (b + 10000) - 1)).tdiv 10000) * 10000)) c).hi else 0 else 0 else bif 1000 == s then bif U.given a b c then (U.checked (IntKind.i64.wrap (IntKind.i64.wrap (a.tdiv 1000) * 1000)) (IntKind.i64.wrap (IntKind.i64.wrap ((IntKind.i64.wrap (IntKind.i64.wrap (b + 1000) - 1)).tdiv 1000) * 1000)) c).hi else bif 10000 == s then bif U.given a b c then (U.checked (IntKind.i64.wrap (IntKind.i64.wrap (a.tdiv 10000) * 10000)) (IntKind.i64.wrap (IntKind.i64.wrap ((IntKind.i64.wrap (IntKind.i64.wrap (b + 10000) - 1)).tdiv 10000) * 10000)) c).hi else 0 else 0 else bif 10000 == s then bif U.given a b c then (U.checked (IntKind.i64.wrap (IntKind.i64.wrap (a.tdiv 10000) * 10000)) (IntKind.i64.wrap (IntKind.i64.wrap ((IntKind.i64.wrap (IntKind.i64.wrap (b + 10000) - 1)).tdiv 10000) * 10000)) c).hi else 0 else 0 else bif 10 == s then bif U.given a b c then (U.checked (IntKind.i64.wrap (IntKind.i64.wrap (a.tdiv 10) * 10)) (IntKind.i64.wrap (IntKind.i64.wrap ((IntKind.i64.wrap (IntKind.i64.wrap (b + 10) - 1)).tdiv 10) * 10)) c).hi else bif 100 == s then bif U.given a b c then (U.checked (IntKind.i64.wrap (IntKind.i64.wrap (a.tdiv 100) * 100)) (IntKind.i64.wrap (IntKind.i64.wrap ((IntKind.i64.wrap (IntKind.i64.wrap (b + 100) - 1)).tdiv 100) * 100)) c).hi else bif 1000 == s then bif U.given a b c then (U.checked (IntKind.i64.wrap (IntKind.i64.wrap (a.tdiv 1000) * 1000)) (IntKind.i64.wrap (IntKind.i64.wrap ((IntKind.i64.wrap (IntKind.i64.wrap (b + 1000) - 1)).tdiv 1000) * 1000)) c).hi else bif 10000 == s then bif U.given a b c then (U.checked (IntKind.i64.wrap (IntKind.i64.wrap (a.tdiv 10000) * 10000)) (IntKind.i64.wrap (IntKind.i64.wrap ((IntKind.i64.wrap (IntKind.i64.wrap (b + 10000) - 1)).tdiv 10000) * 10000)) c).hi else 0 else 0 else bif 10000 == s then bif U.given a b c then (U.checked (IntKind.i64.wrap (IntKind.i64.wrap (a.tdiv 10000) * 10000)) (IntKind.i64.wrap (IntKind.i64.wrap ((IntKind.i64.wrap (IntKind.i64.wrap (b + 10000) - 1)).tdiv 10000) * 10000)) c).hi else 0 else 0 else bif 1000 == s then bif U.given a b c then (U.checked (IntKind.i64.wrap (IntKind.i64.wrap (a.tdiv 1000) * 1000)) (IntKind.i64.wrap (IntKind.i64.wrap ((IntKind.i64.wrap (IntKind.i64.wrap (b + 1000) - 1)).tdiv 1000) * 1000)) c).hi else bif 10000 == s then bif U.given a b c then (U.checked (IntKind.i64.wrap (IntKind.i64.wrap (a.tdiv 10000) * 10000)) (IntKind.i64.wrap (IntKind.i64.wrap ((IntKind.i64.wrap (IntKind.i64.wrap (b + 10000) - 1)).tdiv 10000) * 10000)) c).hi else 0 else 0 else bif 10000 == s then bif U.given a b c then (U.checked (IntKind.i64.wrap (IntKind.i64.wrap (a.tdiv 10000) * 10000)) (IntKind.i64.wrap (IntKind.i64.wrap ((IntKind.i64.wrap (IntKind.i64.wrap (b + 10000) - 1)).tdiv 10000) * 10000)) c).hi else 0 else 0 else bif 100 == s then bif U.given a b c then (U.checked (IntKind.i64.wrap (IntKind.i64.wrap (a.tdiv 100) * 100)) (IntKind.i64.wrap (IntKind.i64.wrap ((IntKind.i64.wrap (IntKind.i64.wrap (b + 100) - 1)).tdiv 100) * 100)) c).hi else bif 1000 == s then bif U.given a b c then (U.checked (IntKind.i64.wrap (IntKind.i64.wrap (a.tdiv 1000) * 1000)) (IntKind.i64.wrap (IntKind.i64.wrap ((IntKind.i64.wrap (IntKind.i64.wrap (b + 1000) - 1)).tdiv 1000) * 1000)) c).hi else bif 10000 == s then bif U.given a b c then (U.checked (IntKind.i64.wrap (IntKind.i64.wrap (a.tdiv 10000) * 10000)) (IntKind.i64.wrap (IntKind.i64.wrap ((IntKind.i64.wrap (IntKind.i64.wrap (b + 10000) - 1)).tdiv 10000) * 10000)) c).hi else 0 else 0 else bif 10000 == s then bif U.given a b c then (U.checked (IntKind.i64.wrap (IntKind.i64.wrap (a.tdiv 10000) * 10000)) (IntKind.i64.wrap (IntKind.i64.wrap ((IntKind.i64.wrap (IntKind.i64.wrap (b + 10000) - 1)).tdiv 10000) * 10000)) c).hi else 0 else 0 else bif 1000 == s then bif U.given a b c then (U.checked (IntKind.i64.wrap (IntKind.i64.wrap (a.tdiv 1000) * 1000)) (IntKind.i64.wrap (IntKind.i64.wrap ((IntKind.i64.wrap (IntKind.i64.wrap (b + 1000) - 1)).tdiv 1000) * 1000)) c).hi else bif 10000 == s then bif U.given a b c then (U.checked (IntKind.i64.wrap (IntKind.i64.wrap (a.tdiv 10000) * 10000)) (IntKind.i64.wrap (IntKind.i64.wrap ((IntKind.i64.wrap (IntKind.i64.wrap (b + 10000) - 1)).tdiv 10000) * 10000)) c).hi else 0 else 0 else bif 10000 == s then bif U.given a b c then (U.checked (IntKind.i64.wrap (IntKind.i64.wrap (a.tdiv 10000) * 10000)) (IntKind.i64.wrap (IntKind.i64.wrap ((IntKind.i64.wrap (IntKind.i64.wrap (b + 10000) - 1)).tdiv 10000) * 10000)) c).hi else 0 else 0), V.si IntKind.i64 (bif 1 == s then bif U.given a b c then (U.checked (IntKind.i64.wrap (IntKind.i64.wrap (a.tdiv 1) * 1)) (IntKind.i64.wrap (IntKind.i64.wrap ((IntKind.i64.wrap (IntKind.i64.wrap (b + 1) - 1)).tdiv 1) * 1)) c).u else bif 10 == s then bif U.given a b c then (U.checked (IntKind.i64.wrap (IntKind.i64.wrap (a.tdiv 10) * 10)) (IntKind.i64.wrap (IntKind.i64.wrap ((IntKind.i64.wrap (IntKind.i64.wrap (b + 10) - 1)).tdiv 10) * 10)) c).u else bif 100 == s then bif U.given a b c then (U.checked (IntKind.i64.wrap (IntKind.i64.wrap (a.tdiv 100) * 100)) (IntKind.i64.wrap (IntKind.i64.wrap ((IntKind.i64.wrap (IntKind.i64.wrap (b + 100) - 1)).tdiv 100) * 100)) c).u else bif 1000 == s then bif U.given a b c then (U.checked (IntKind.i64.wrap (IntKind.i64.wrap (a.tdiv 1000) * 1000)) (IntKind.i64.wrap (IntKind.i64.wrap ((IntKind.i64.wrap (IntKind.i64.wrap (b + 1000) - 1)).tdiv 1000) * 1000)) c).u else bif 10000 == s then bif U.given a b c then (U.checked (IntKind.i64.wrap (IntKind.i64.wrap (a.tdiv 10000) * 10000)) (IntKind.i64.wrap (IntKind.i64.wrap ((IntKind.i64.wrap (IntKind.i64.wrap (b + 10000) - 1)).tdiv 10000) * 10000)) c).u else 0 else 0 else bif 10000 == s then bif U.given a b c then (U.checked (IntKind.i64.wrap (IntKind.i64.wrap (a.tdiv 10000) * 10000)) (IntKind.i64.wrap (IntKind.i64.wrap ((IntKind.i64.wrap (IntKind.i64.wrap (b + 10000) - 1)).tdiv 10000) * 10000)) c).u else 0 else 0 else bif 1000 == s then bif U.given a b c then (U.checked (IntKind.i64.wrap (IntKind.i64.wrap (a.tdiv 1000) * 1000)) (IntKind.i64.wrap (IntKind.i64.wrap ((IntKind.i64.wrap (IntKind.i64.wrap (b + 1000) - 1)).tdiv 1000) * 1000)) c).u else bif 10000 == s then bif U.given a b c then (U.checked (IntKind.i64.wrap (IntKind.i64.wrap (a.tdiv 10000) * 10000)) (IntKind.i64.wrap (IntKind.i64.wrap ((IntKind.i64.wrap (IntKind.i64.wrap (b + 10000) - 1)).tdiv 10000) * 10000)) c).u else 0 else 0 else bif 10000 == s then bif U.given a b c then (U.checked (IntKind.i64.wrap (IntKind.i64.wrap (a.tdiv 10000) * 10000)) (IntKind.i64.wrap (IntKind.i64.wrap ((IntKind.i64.wrap (IntKind.i64.wrap (b + 10000) - 1)).tdiv 10000) * 10000)) c).u else 0 else 0 else bif 100 == s then bif U.given a b c then (U.checked (IntKind.i64.wrap (IntKind.i64.wrap (a.tdiv 100) * 100)) (IntKind.i64.wrap (IntKind.i64.wrap ((IntKind.i64.wrap (IntKind.i64.wrap (b + 100) - 1)).tdiv 100) * 100)) c).u else bif 1000 == s then bif U.given a b c then (U.checked (IntKind.i64.wrap (IntKind.i64.wrap (a.tdiv 1000) * 1000)) (IntKind.i64.wrap (IntKind.i64.wrap ((IntKind.i64.wrap (IntKind.i64.wrap (b + 1000) - 1)).tdiv 1000) * 1000)) c).u else bif 10000 == s then bif U.given a b c then (U.checked (IntKind.i64.wrap (IntKind.i64.wrap (a.tdiv 10000) * 10000)) (IntKind.i64.wrap (IntKind.i64.wrap ((IntKind.i64.wrap (IntKind.i64.wrap (b + 10000) - 1)).tdiv 10000) * 10000)) c).u else 0 else 0 else bif 10000 == s then bif U.given a b c then (U.checked (IntKind.i64.wrap (IntKind.i64.wrap (a.tdiv 10000) * 10000)) (IntKind.i64.wrap (IntKind.i64.wrap ((IntKind.i64.wrap (IntKind.i64.wrap (b + 10000) - 1)).tdiv 10000) * 10000)) c).u else 0 else 0 else bif 1000 == s then bif U.given a b c then (U.checked (IntKind.i64.wrap (IntKind.i64.wrap (a.tdiv 1000) * 1000)) (IntKind.i64.wrap (IntKind.i64.wrap ((IntKind.i64.wrap (IntKind.i64.wrap (b + 1000) - 1)).tdiv 1000) * 1000)) c).u else bif 10000 == s then bif U.given a b c then (U.checked (IntKind.i64.wrap (IntKind.i64.wrap (a.tdiv 10000) * 10000)) (IntKind.i64.wrap (IntKind.i64.wrap ((IntKind.i64.wrap (IntKind.i64.wrap (b + 10000) - 1)).tdiv 10000) * 10000)) c).u else 0 else 0 else bif 10000 == s then bif U.given a b c then (U.checked (IntKind.i64.wrap (IntKind.i64.wrap (a.tdiv 10000) * 10000)) (IntKind.i64.wrap (IntKind.i64.wrap ((IntKind.i64.wrap (IntKind.i64.wrap (b + 10000) - 1)).tdiv 10000) * 10000)) c).u else 0 else 0 else bif 10 == s then bif U.given a b c then (U.checked (IntKind.i64.wrap (IntKind.i64.wrap (a.tdiv 10) * 10)) (IntKind.i64.wrap (IntKind.i64.wrap ((IntKind.i64.wrap (IntKind.i64.wrap (b + 10) - 1)).tdiv 10) * 10)) c).u else bif 100 == s then bif U.given a b c then (U.checked (IntKind.i64.wrap (IntKind.i64.wrap (a.tdiv 100) * 100)) (IntKind.i64.wrap (IntKind.i64.wrap ((IntKind.i64.wrap (IntKind.i64.wrap (b + 100) - 1)).tdiv 100) * 100)) c).u else bif 1000 == s then bif U.given a b c then (U.checked (IntKind.i64.wrap (IntKind.i64.wrap (a.tdiv 1000) * 1000)) (IntKind.i64.wrap (IntKind.i64.wrap ((IntKind.i64.wrap (IntKind.i64.wrap (b + 1000) - 1)).tdiv 1000) * 1000)) c).u else bif 10000 == s then bif U.given a b c then (U.checked (IntKind.i64.wrap (IntKind.i64.wrap (a.tdiv 10000) * 10000)) (IntKind.i64.wrap (IntKind.i64.wrap ((IntKind.i64.wrap (IntKind.i64.wrap (b + 10000) - 1)).tdiv 10000) * 10000)) c).u else 0 else 0 else bif 10000 == s then bif U.given a b c then (U.checked (IntKind.i64.wrap (IntKind.i64.wrap (a.tdiv 10000) * 10000)) (IntKind.i64.wrap (IntKind.i64.wrap ((IntKind.i64.wrap (IntKind.i64.wrap (b + 10000) - 1)).tdiv 10000) * 10000)) c).u else 0 else 0 else bif 1000 == s then bif U.given a b c then (U.checked (IntKind.i64.wrap (IntKind.i64.wrap (a.tdiv 1000) * 1000)) (IntKind.i64.wrap (IntKind.i64.wrap ((IntKind.i64.wrap (IntKind.i64.wrap (b + 1000) - 1)).tdiv 1000) * 1000)) c).u else bif 10000 == s then bif U.given a b c then (U.checked (IntKind.i64.wrap (IntKind.i64.wrap (a.tdiv 10000) * 10000)) (IntKind.i64.wrap (IntKind.i64.wrap ((IntKind.i64.wrap (IntKind.i64.wrap (b + 10000) - 1)).tdiv 10000) * 10000)) c).u else 0 else 0 else bif 10000 == s then bif U.given a b c then (U.checked (IntKind.i64.wrap (IntKind.i64.wrap (a.tdiv 10000) * 10000)) (IntKind.i64.wrap (IntKind.i64.wrap ((IntKind.i64.wrap (IntKind.i64.wrap (b + 10000) - 1)).tdiv 10000) * 10000)) c).u else 0 else 0 else bif 100 == s then bif U.given a b c then (U.checked (IntKind.i64.wrap (IntKind.i64.wrap (a.tdiv 100) * 100)) (IntKind.i64.wrap (IntKind.i64.wrap ((IntKind.i64.wrap (IntKind.i64.wrap (b + 100) - 1)).tdiv 100) * 100)) c).u else bif 1000 == s then bif U.given a b c then (U.checked (IntKind.i64.wrap (IntKind.i64.wrap (a.tdiv 1000) * 1000)) (IntKind.i64.wrap (IntKind.i64.wrap ((IntKind.i64.wrap (IntKind.i64.wrap (b + 1000) - 1)).tdiv 1000) * 1000)) c).u else bif 10000 == s then bif U.given a b c then (U.checked (IntKind.i64.wrap (IntKind.i64.wrap (a.tdiv 10000) * 10000)) (IntKind.i64.wrap (IntKind.i64.wrap ((IntKind.i64.wrap (IntKind.i64.wrap (b + 10000) - 1)).tdiv 10000) * 10000)) c).u else 0 else 0 else bif 10000 == s then bif U.given a b c then (U.checked (IntKind.i64.wrap (IntKind.i64.wrap (a.tdiv 10000) * 10000)) (IntKind.i64.wrap (IntKind.i64.wrap ((IntKind.i64.wrap (IntKind.i64.wrap (b + 10000) - 1)).tdiv 10000) * 10000)) c).u else 0 else 0 else bif 1000 == s then bif U.given a b c then (U.checked (IntKind.i64.wrap (IntKind.i64.wrap (a.tdiv 1000) * 1000)) (IntKind.i64.wrap (IntKind.i64.wrap ((IntKind.i64.wrap (IntKind.i64.wrap (b + 1000) - 1)).tdiv 1000) * 1000)) c).u else bif 10000 == s then bif U.given a b c then (U.checked (IntKind.i64.wrap (IntKind.i64.wrap (a.tdiv 10000) * 10000)) (IntKind.i64.wrap (IntKind.i64.wrap ((IntKind.i64.wrap (IntKind.i64.wrap (b + 10000) - 1)).tdiv 10000) * 10000)) c).u else 0 else 0 else bif 10000 == s then bif U.given a b c then (U.checked (IntKind.i64.wrap (IntKind.i64.wrap (a.tdiv 10000) * 10000)) (IntKind.i64.wrap (IntKind.i64.wrap ((IntKind.i64.wrap (IntKind.i64.wrap (b + 10000) - 1)).tdiv 10000) * 10000)) c).u else 0 else 0)], V.si IntKind.i64 (bif 1 == s then bif U.given a b c then (U.checked (IntKind.i64.wrap (IntKind.i64.wrap (a.tdiv 1) * 1)) (IntKind.i64.wrap (IntKind.i64.wrap ((IntKind.i64.wrap (IntKind.i64.wrap (b + 1) - 1)).tdiv 1) * 1)) c).e else bif 10 == s then bif U.given a b c then (U.checked (IntKind.i64.wrap (IntKind.i64.wrap (a.tdiv 10) * 10)) (IntKind.i64.wrap (IntKind.i64.wrap ((IntKind.i64.wrap (IntKind.i64.wrap (b + 10) - 1)).tdiv 10) * 10)) c).e else bif 100 == s then bif U.given a b c then (U.checked (IntKind.i64.wrap (IntKind.i64.wrap (a.tdiv 100) * 100)) (IntKind.i64.wrap (IntKind.i64.wrap ((IntKind.i64.wrap (IntKind.i64.wrap (b + 100) - 1)).tdiv 100) * 100)) c).e else bif 1000 == s then bif U.given a b c then (U.checked (IntKind.i64.wrap (IntKind.i64.wrap (a.tdiv 1000) * 1000)) (IntKind.i64.wrap (IntKind.i64.wrap ((IntKind.i64.wrap (IntKind.i64.wrap (b + 1000) - 1)).tdiv 1000) * 1000)) c).e else bif 10000 == s then bif U.given a b c then (U.checked (IntKind.i64.wrap (IntKind.i64.wrap (a.tdiv 10000) * 10000)) (IntKind.i64.wrap (IntKind.i64.wrap ((IntKind.i64.wrap (IntKind.i64.wrap (b + 10000) - 1)).tdiv 10000) * 10000)) c).e else 50 else 50 else bif 10000 == s then bif U.given a b c then (U.checked (IntKind.i64.wrap (IntKind.i64.wrap (a.tdiv 10000) * 10000)) (IntKind.i64.wrap (IntKind.i64.wrap ((IntKind.i64.wrap (IntKind.i64.wrap (b + 10000) - 1)).tdiv 10000) * 10000)) c).e else 50 else 50 else bif 1000 == s then bif U.given a b c then (U.checked (IntKind.i64.wrap (IntKind.i64.wrap (a.tdiv 1000) * 1000)) (IntKind.i64.wrap (IntKind.i64.wrap ((IntKind.i64.wrap (IntKind.i64.wrap (b + 1000) - 1)).tdiv 1000) * 1000)) c).e else bif 10000 == s then bif U.given a b c then (U.checked (IntKind.i64.wrap (IntKind.i64.wrap (a.tdiv 10000) * 10000)) (IntKind.i64.wrap (IntKind.i64.wrap ((IntKind.i64.wrap (IntKind.i64.wrap (b + 10000) - 1)).tdiv 10000) * 10000)) c).e else 50 else 50 else bif 10000 == s then bif U.given a b c then (U.checked (IntKind.i64.wrap (IntKind.i64.wrap (a.tdiv 10000) * 10000)) (IntKind.i64.wrap (IntKind.i64.wrap ((IntKind.i64.wrap (IntKind.i64.wrap (b + 10000) - 1)).tdiv 10000) * 10000)) c).e else 50 else 50 else bif 100 == s then bif U.given a b c then (U.checked (IntKind.i64.wrap (IntKind.i64.wrap (a.tdiv 100) * 100)) (IntKind.i64.wrap (IntKind.i64.wrap ((IntKind.i64.wrap (IntKind.i64.wrap (b + 100) - 1)).tdiv 100) * 100)) c).e else bif 1000 == s then bif U.given a b c then (U.checked (IntKind.i64.wrap (IntKind.i64.wrap (a.tdiv 1000) * 1000)) (IntKind.i64.wrap (IntKind.i64.wrap ((IntKind.i64.wrap (IntKind.i64.wrap (b + 1000) - 1)).tdiv 1000) * 1000)) c).e else bif 10000 == s then bif U.given a b c then (U.checked (IntKind.i64.wrap (IntKind.i64.wrap (a.tdiv 10000) * 10000)) (IntKind.i64.wrap (IntKind.i64.wrap ((IntKind.i64.wrap (IntKind.i64.wrap (b + 10000) - 1)).tdiv 10000) * 10000)) c).e else 50 else 50 else bif 10000 == s then bif U.given a b c then (U.checked (IntKind.i64.wrap (IntKind.i64.wrap (a.tdiv 10000) * 10000)) (IntKind.i64.wrap (IntKind.i64.wrap ((IntKind.i64.wrap (IntKind.i64.wrap (b + 10000) - 1)).tdiv 10000) * 10000)) c).e else 50 else 50 else bif 1000 == s then bif U.given a b c then (U.checked (IntKind.i64.wrap (IntKind.i64.wrap (a.tdiv 1000) * 1000)) (IntKind.i64.wrap (IntKind.i64.wrap ((IntKind.i64.wrap (IntKind.i64.wrap (b + 1000) - 1)).tdiv 1000) * 1000)) c).e else bif 10000 == s then bif U.given a b c then (U.checked (IntKind.i64.wrap (IntKind.i64.wrap (a.tdiv 10000) * 10000)) (IntKind.i64.wrap (IntKind.i64.wrap ((IntKind.i64.wrap (IntKind.i64.wrap (b + 10000) - 1)).tdiv 10000) * 10000)) c).e else 50 else 50 else bif 10000 == s then bif U.given a b c then (U.checked (IntKind.i64.wrap (IntKind.i64.wrap (a.tdiv 10000) * 10000)) (IntKind.i64.wrap (IntKind.i64.wrap ((IntKind.i64.wrap (IntKind.i64.wrap (b + 10000) - 1)).tdiv 10000) * 10000)) c).e else 50 else 50 else bif 10 == s then bif U.given a b c then (U.checked (IntKind.i64.wrap (IntKind.i64.wrap (a.tdiv 10) * 10)) (IntKind.i64.wrap (IntKind.i64.wrap ((IntKind.i64.wrap (IntKind.i64.wrap (b + 10) - 1)).tdiv 10) * 10)) c).e else bif 100 == s then bif U.given a b c then (U.checked (IntKind.i64.wrap (IntKind.i64.wrap (a.tdiv 100) * 100)) (IntKind.i64.wrap (IntKind.i64.wrap ((IntKind.i64.wrap (IntKind.i64.wrap (b + 100) - 1)).tdiv 100) * 100)) c).e else bif 1000 == s then bif U.given a b c then (U.checked (IntKind.i64.wrap (IntKind.i64.wrap (a.tdiv 1000) * 1000)) (IntKind.i64.wrap (IntKind.i64.wrap ((IntKind.i64.wrap (IntKind.i64.wrap (b + 1000) - 1)).tdiv 1000) * 1000)) c).e else bif 10000 == s then bif U.given a b c then (U.checked (IntKind.i64.wrap (IntKind.i64.wrap (a.tdiv 10000) * 10000)) (IntKind.i64.wrap (IntKind.i64.wrap ((IntKind.i64.wrap (IntKind.i64.wrap (b + 10000) - 1)).tdiv 10000) * 10000)) c).e else 50 else 50 else bif 10000 == s then bif U.given a b c then (U.checked (IntKind.i64.wrap (IntKind.i64.wrap (a.tdiv 10000) * 10000)) (IntKind.i64.wrap (IntKind.i64.wrap ((IntKind.i64.wrap (IntKind.i64.wrap (b + 10000) - 1)).tdiv 10000) * 10000)) c).e else 50 else 50 else bif 1000 == s then bif U.given a b c then (U.checked (IntKind.i64.wrap (IntKind.i64.wrap (a.tdiv 1000) * 1000)) (IntKind.i64.wrap (IntKind.i64.wrap ((IntKind.i64.wrap (IntKind.i64.wrap (b + 1000) - 1)).tdiv 1000) * 1000)) c).e else bif 10000 == s then bif U.given a b c then (U.checked (IntKind.i64.wrap (IntKind.i64.wrap (a.tdiv 10000) * 10000)) (IntKind.i64.wrap (IntKind.i64.wrap ((IntKind.i64.wrap (IntKind.i64.wrap (b + 10000) - 1)).tdiv 10000) * 10000)) c).e else 50 else 50 else bif 10000 == s then bif U.given a b c then (U.checked (IntKind.i64.wrap (IntKind.i64.wrap (a.tdiv 10000) * 10000)) (IntKind.i64.wrap (IntKind.i64.wrap ((IntKind.i64.wrap (IntKind.i64.wrap (b + 10000) - 1)).tdiv 10000) * 10000)) c).e else 50 else 50 else bif 100 == s then bif U.given a b c then (U.checked (IntKind.i64.wrap (IntKind.i64.wrap (a.tdiv 100) * 100)) (IntKind.i64.wrap (IntKind.i64.wrap ((IntKind.i64.wrap (IntKind.i64.wrap (b + 100) - 1)).tdiv 100) * 100)) c).e else bif 1000 == s then bif U.given a b c then (U.checked (IntKind.i64.wrap (IntKind.i64.wrap (a.tdiv 1000) * 1000)) (IntKind.i64.wrap (IntKind.i64.wrap ((IntKind.i64.wrap (IntKind.i64.wrap (b + 1000) - 1)).tdiv 1000) * 1000)) c).e else bif 10000 == s then bif U.given a b c then (U.checked (IntKind.i64.wrap (IntKind.i64.wrap (a.tdiv 10000) * 10000)) (IntKind.i64.wrap (IntKind.i64.wrap ((IntKind.i64.wrap (IntKind.i64.wrap (b + 10000) - 1)).tdiv 10000) * 10000)) c).e else 50 else 50 else bif 10000 == s then bif U.given a b c then (U.checked (IntKind.i64.wrap (IntKind.i64.wrap (a.tdiv 10000) * 10000)) (IntKind.i64.wrap (IntKind.i64.wrap ((IntKind.i64.wrap (IntKind.i64.wrap (b + 10000) - 1)).tdiv 10000) * 10000)) c).e else 50 else 50 else bif 1000 == s then bif U.given a b c then (U.checked (IntKind.i64.wrap (IntKind.i64.wrap (a.tdiv 1000) * 1000)) (IntKind.i64.wrap (IntKind.i64.wrap ((IntKind.i64.wrap (IntKind.i64.wrap (b + 1000) - 1)).tdiv 1000) * 1000)) c).e else bif 10000 == s then bif U.given a b c then (U.checked (IntKind.i64.wrap (IntKind.i64.wrap (a.tdiv 10000) * 10000)) (IntKind.i64.wrap (IntKind.i64.wrap ((IntKind.i64.wrap (IntKind.i64.wrap (b + 10000) - 1)).tdiv 10000) * 10000)) c).e else 50 else 50 else bif 10000 == s then bif U.given a b c then (U.checked (IntKind.i64.wrap (IntKind.i64.wrap (a.tdiv 10000) * 10000)) (IntKind.i64.wrap (IntKind.i64.wrap ((IntKind.i64.wrap (IntKind.i64.wrap (b + 10000) - 1)).tdiv 10000) * 10000)) c).e else 50 else 50)]) := by kernel_rfl
theorem ok_coarse (a : Int) (b : Int) (c : Int) (s : Int) : SemF Tryd.prog Γ 26 [.agg [.si .i64 a, .si .i64 b, .si .i64 c], .si .i64 s] [] [] (U.rv (U.coarse a b c s)) [] [] := by
  refine SemF.of_ev o14 mixed (nf_coarse a b c s) ?_ ?_
  · rfl
  · cases hg : given a b c with
    | false => simp [coarse, rv, am, bad, hg, Bool.cond_eq_ite]
    | true =>
    have b1 := given_bd hg
    by_cases h1 : s = 1
    · subst h1
      refine Eq.trans (b := rv (checked (IntKind.i64.wrap (IntKind.i64.wrap (a.tdiv 1) * 1)) (IntKind.i64.wrap (IntKind.i64.wrap ((IntKind.i64.wrap (IntKind.i64.wrap (b + 1) - 1)).tdiv 1) * 1)) c)) ?_ ?_
      · kernel_rfl
      rw [co_lo b1.1 (by omega) (by omega), co_hi (by omega) (by omega) (by omega) (by omega)]
      simp [coarse, hg, isStep]
    by_cases h10 : s = 10
    · subst h10
      refine Eq.trans (b := rv (checked (IntKind.i64.wrap (IntKind.i64.wrap (a.tdiv 10) * 10)) (IntKind.i64.wrap (IntKind.i64.wrap ((IntKind.i64.wrap (IntKind.i64.wrap (b + 10) - 1)).tdiv 10) * 10)) c)) ?_ ?_
      · kernel_rfl
      rw [co_lo b1.1 (by omega) (by omega), co_hi (by omega) (by omega) (by omega) (by omega)]
      simp [coarse, hg, isStep]
    by_cases h100 : s = 100
    · subst h100
      refine Eq.trans (b := rv (checked (IntKind.i64.wrap (IntKind.i64.wrap (a.tdiv 100) * 100)) (IntKind.i64.wrap (IntKind.i64.wrap ((IntKind.i64.wrap (IntKind.i64.wrap (b + 100) - 1)).tdiv 100) * 100)) c)) ?_ ?_
      · kernel_rfl
      rw [co_lo b1.1 (by omega) (by omega), co_hi (by omega) (by omega) (by omega) (by omega)]
      simp [coarse, hg, isStep]
    by_cases h1000 : s = 1000
    · subst h1000
      refine Eq.trans (b := rv (checked (IntKind.i64.wrap (IntKind.i64.wrap (a.tdiv 1000) * 1000)) (IntKind.i64.wrap (IntKind.i64.wrap ((IntKind.i64.wrap (IntKind.i64.wrap (b + 1000) - 1)).tdiv 1000) * 1000)) c)) ?_ ?_
      · kernel_rfl
      rw [co_lo b1.1 (by omega) (by omega), co_hi (by omega) (by omega) (by omega) (by omega)]
      simp [coarse, hg, isStep]
    by_cases h10000 : s = 10000
    · subst h10000
      refine Eq.trans (b := rv (checked (IntKind.i64.wrap (IntKind.i64.wrap (a.tdiv 10000) * 10000)) (IntKind.i64.wrap (IntKind.i64.wrap ((IntKind.i64.wrap (IntKind.i64.wrap (b + 10000) - 1)).tdiv 10000) * 10000)) c)) ?_ ?_
      · kernel_rfl
      rw [co_lo b1.1 (by omega) (by omega), co_hi (by omega) (by omega) (by omega) (by omega)]
      simp [coarse, hg, isStep]
    simp [coarse, rv, am, bad, hg, isStep, h1, h10, h100, h1000, h10000, Bool.cond_eq_ite, eq_comm (b := s)]
theorem o15 : OrcOk Tryd.prog Γ orc15 := OrcOk.cons o14 26 g_coarse _ Tryd.func26 (by kernel_rfl) (by kernel_rfl) (fun args c v h hc => by
  unfold g_coarse at h
  split at h
  · cases h; exact ok_coarse _ _ _ _
  · cases h)
theorem nf_share (a : Int) (b : Int) (c : Int) (n : Int) (d : Int) : mergeT (tr15 28 [.agg [.si .i64 a, .si .i64 b, .si .i64 c], .si .i64 n, .si .i64 d]) = .ok (Option.some (!U.given a b c || (Decidable.decide (n < 0) || (Decidable.decide (n > 1000000) || (Decidable.decide (d < 1) || (Decidable.decide (d > 1000000) || U.okS a b n d)))))) (V.tup [V.agg [V.si IntKind.i64 (bif !U.given a b c then 0 else bif Decidable.decide (n < 0) then 0 else bif Decidable.decide (n > 1000000) then 0 else bif Decidable.decide (d < 1) then 0 else bif Decidable.decide (d > 1000000) then 0 else (U.scaled a b c n d).lo), V.si IntKind.i64 (bif !U.given a b c then 0 else bif Decidable.decide (n < 0) then 0 else bif Decidable.decide (n > 1000000) then 0 else bif Decidable.decide (d < 1) then 0 else bif Decidable.decide (d > 1000000) then 0 else (U.scaled a b c n d).hi), V.si IntKind.i64 (bif !U.given a b c then 0 else bif Decidable.decide (n < 0) then 0 else bif Decidable.decide (n > 1000000) then 0 else bif Decidable.decide (d < 1) then 0 else bif Decidable.decide (d > 1000000) then 0 else (U.scaled a b c n d).u)], V.si IntKind.i64 (bif !U.given a b c then 50 else bif Decidable.decide (n < 0) then 50 else bif Decidable.decide (n > 1000000) then 50 else bif Decidable.decide (d < 1) then 50 else bif Decidable.decide (d > 1000000) then 50 else (U.scaled a b c n d).e)]) := by kernel_rfl
theorem ok_share (a : Int) (b : Int) (c : Int) (n : Int) (d : Int) : SemF Tryd.prog Γ 28 [.agg [.si .i64 a, .si .i64 b, .si .i64 c], .si .i64 n, .si .i64 d] [] [] (U.rv (U.share a b c n d)) [] [] := by
  refine SemF.of_ev o15 mixed (nf_share a b c n d) ?_ ?_
  · show (_ : Bool) = true
    cases hg : given a b c with
    | false => rfl
    | true =>
    have h1 := given_bd hg
    simp [okS]
    omega
  · cases hg : given a b c with
    | false => simp [share, rv, am, bad, hg]
    | true =>
    by_cases h1 : n < 0
    · simp [share, rv, am, bad, hg, h1, show ¬ (0 ≤ n) by omega]
    by_cases h2 : n > 1000000
    · simp [share, rv, am, bad, hg, h1, h2, show ¬ (n ≤ 1000000) by omega]
    by_cases h3 : d < 1
    · simp [share, rv, am, bad, hg, h1, h2, h3, show ¬ (1 ≤ d) by omega]
    by_cases h4 : d > 1000000
    · simp [share, rv, am, bad, hg, h1, h2, h3, h4, show ¬ (d ≤ 1000000) by omega]
    simp only [share, rv, am, hg, h1, h2, h3, h4, show (0 ≤ n ∧ n ≤ 1000000 ∧ 1 ≤ d ∧ d ≤ 1000000) by omega]
    rfl
theorem o16 : OrcOk Tryd.prog Γ orc16 := OrcOk.cons o15 28 g_share _ Tryd.func28 (by kernel_rfl) (by kernel_rfl) (fun args c v h hc => by
  unfold g_share at h
  split at h
  · cases h; exact ok_share _ _ _ _ _
  · cases h)
theorem nf_rShare (a : Int) (b : Int) (c : Int) (n : Int) (d : Int) : mergeT (tr16 29 [.agg [.si .i64 a, .si .i64 b, .si .i64 c], .si .i64 n, .si .i64 d]) = .ok (Option.some (!U.given a b c || (Decidable.decide (n < 0) || (Decidable.decide (n > 1000000) || (Decidable.decide (d < 1) || (Decidable.decide (d > 1000000) || U.okS a b n d)))))) (V.tup [V.agg [V.si IntKind.i64 (bif !U.given a b c then 0 else bif Decidable.decide (n < 0) then 0 else bif Decidable.decide (n > 1000000) then 0 else bif Decidable.decide (d < 1) then 0 else bif Decidable.decide (d > 1000000) then 0 else (U.scaled a b c n d).lo), V.si IntKind.i64 (bif !U.given a b c then 0 else bif Decidable.decide (n < 0) then 0 else bif Decidable.decide (n > 1000000) then 0 else bif Decidable.decide (d < 1) then 0 else bif Decidable.decide (d > 1000000) then 0 else (U.scaled a b c n d).hi), V.si IntKind.i64 (bif !U.given a b c then 0 else bif Decidable.decide (n < 0) then 0 else bif Decidable.decide (n > 1000000) then 0 else bif Decidable.decide (d < 1) then 0 else bif Decidable.decide (d > 1000000) then 0 else (U.scaled a b c n d).u)], V.si IntKind.i64 (bif !U.given a b c then 50 else bif Decidable.decide (n < 0) then 50 else bif Decidable.decide (n > 1000000) then 50 else bif Decidable.decide (d < 1) then 50 else bif Decidable.decide (d > 1000000) then 50 else (U.scaled a b c n d).e)]) := by kernel_rfl
theorem ok_rShare (a : Int) (b : Int) (c : Int) (n : Int) (d : Int) : SemF Tryd.prog Γ 29 [.agg [.si .i64 a, .si .i64 b, .si .i64 c], .si .i64 n, .si .i64 d] [] [] (U.rv (U.share a b c n d)) [] [] := by
  refine SemF.of_ev o16 mixed (nf_rShare a b c n d) ?_ ?_
  · show (_ : Bool) = true
    cases hg : given a b c with
    | false => rfl
    | true =>
    have h1 := given_bd hg
    simp [okS]
    omega
  · cases hg : given a b c with
    | false => simp [share, rv, am, bad, hg]
    | true =>
    by_cases h1 : n < 0
    · simp [share, rv, am, bad, hg, h1, show ¬ (0 ≤ n) by omega]
    by_cases h2 : n > 1000000
    · simp [share, rv, am, bad, hg, h1, h2, show ¬ (n ≤ 1000000) by omega]
    by_cases h3 : d < 1
    · simp [share, rv, am, bad, hg, h1, h2, h3, show ¬ (1 ≤ d) by omega]
    by_cases h4 : d > 1000000
    · simp [share, rv, am, bad, hg, h1, h2, h3, h4, show ¬ (d ≤ 1000000) by omega]
    simp only [share, rv, am, hg, h1, h2, h3, h4, show (0 ≤ n ∧ n ≤ 1000000 ∧ 1 ≤ d ∧ d ≤ 1000000) by omega]
    rfl
theorem o17 : OrcOk Tryd.prog Γ orc17 := OrcOk.cons o16 29 g_rShare _ Tryd.func29 (by kernel_rfl) (by kernel_rfl) (fun args c v h hc => by
  unfold g_rShare at h
  split at h
  · cases h; exact ok_rShare _ _ _ _ _
  · cases h)
theorem nf_add (a : Int) (b : Int) (c : Int) (d : Int) (e : Int) (f : Int) : mergeT (tr17 11 [.agg [.si .i64 a, .si .i64 b, .si .i64 c], .agg [.si .i64 d, .si .i64 e, .si .i64 f]]) = .ok (Option.none) (V.tup [V.agg [V.si IntKind.i64 (bif !U.given a b c then 0 else bif !U.given d e f then 0 else bif c != f then 0 else (U.checked (IntKind.i64.wrap (a + d)) (IntKind.i64.wrap (b + e)) c).lo), V.si IntKind.i64 (bif !U.given a b c then 0 else bif !U.given d e f then 0 else bif c != f then 0 else (U.checked (IntKind.i64.wrap (a + d)) (IntKind.i64.wrap (b + e)) c).hi), V.si IntKind.i64 (bif !U.given a b c then 0 else bif !U.given d e f then 0 else bif c != f then 0 else (U.checked (IntKind.i64.wrap (a + d)) (IntKind.i64.wrap (b + e)) c).u)], V.si IntKind.i64 (bif !U.given a b c then 50 else bif !U.given d e f then 50 else bif c != f then 50 else (U.checked (IntKind.i64.wrap (a + d)) (IntKind.i64.wrap (b + e)) c).e)]) := by kernel_rfl
theorem ok_add (a : Int) (b : Int) (c : Int) (d : Int) (e : Int) (f : Int) : SemF Tryd.prog Γ 11 [.agg [.si .i64 a, .si .i64 b, .si .i64 c], .agg [.si .i64 d, .si .i64 e, .si .i64 f]] [] [] (U.rv (U.add a b c d e f)) [] [] := by
  refine SemF.of_ev o17 mixed (nf_add a b c d e f) ?_ ?_
  · rfl
  · cases hg : given a b c with
    | false => simp [add, rv, am, bad, hg]
    | true =>
    cases hh : given d e f with
    | false => simp [add, rv, am, bad, hg, hh]
    | true =>
    have h1 := given_bd hg
    have h2 := given_bd hh
    by_cases h : c = f
    case neg => simp [add, rv, am, bad, hg, hh, h, Bool.cond_eq_ite]
    subst h
    simp only [add, rv, am, hg, hh, wrap_id (x := a + d) (by omega) (by omega), wrap_id (x := b + e) (by omega) (by omega)]
    simp
theorem o18 : OrcOk Tryd.prog Γ orc18 := OrcOk.cons o17 11 g_add _ Tryd.func11 (by kernel_rfl) (by kernel_rfl) (fun args c v h hc => by
  unfold g_add at h
  split at h
  · cases h; exact ok_add _ _ _ _ _ _
  · cases h)
theorem nf_rAdd (a : Int) (b : Int) (c : Int) (d : Int) (e : Int) (f : Int) : mergeT (tr18 12 [.agg [.si .i64 a, .si .i64 b, .si .i64 c], .agg [.si .i64 d, .si .i64 e, .si .i64 f]]) = .ok (Option.none) (V.tup [V.agg [V.si IntKind.i64 (bif !U.given a b c then 0 else bif !U.given d e f then 0 else bif c != f then 0 else bif Decidable.decide (IntKind.i64.wrap (b + e) > 999999) then 0 else IntKind.i64.wrap (a + d)), V.si IntKind.i64 (bif !U.given a b c then 0 else bif !U.given d e f then 0 else bif c != f then 0 else bif Decidable.decide (IntKind.i64.wrap (b + e) > 999999) then 0 else IntKind.i64.wrap (b + e)), V.si IntKind.i64 (bif !U.given a b c then 0 else bif !U.given d e f then 0 else bif c != f then 0 else bif Decidable.decide (IntKind.i64.wrap (b + e) > 999999) then 0 else c)], V.si IntKind.i64 (bif !U.given a b c then 50 else bif !U.given d e f then 50 else bif c != f then 50 else bif Decidable.decide (IntKind.i64.wrap (b + e) > 999999) then 50 else 0)]) := by kernel_rfl
theorem ok_rAdd (a : Int) (b : Int) (c : Int) (d : Int) (e : Int) (f : Int) : SemF Tryd.prog Γ 12 [.agg [.si .i64 a, .si .i64 b, .si .i64 c], .agg [.si .i64 d, .si .i64 e, .si .i64 f]] [] [] (U.rv (U.add a b c d e f)) [] [] := by
  refine SemF.of_ev o18 mixed (nf_rAdd a b c d e f) ?_ ?_
  · rfl
  · cases hg : given a b c with
    | false => simp [add, rv, am, bad, hg]
    | true =>
    cases hh : given d e f with
    | false => simp [add, rv, am, bad, hg, hh]
    | true =>
    have h1 := given_bd hg
    have h2 := given_bd hh
    by_cases h : c = f
    case neg => simp [add, rv, am, bad, hg, hh, h, Bool.cond_eq_ite]
    subst h
    simp only [add, rv, am, hg, hh, wrap_id (x := a + d) (by omega) (by omega), wrap_id (x := b + e) (by omega) (by omega)]
    by_cases k : b + e > 999999
    · simp [k, checked, bad, given_no hg (show ¬(0 ≤ a + d ∧ a + d ≤ b + e ∧ b + e ≤ 999999) by omega)]
    · simp [k, checked, given_mk hg (show 0 ≤ a + d by omega) (show a + d ≤ b + e by omega) (show b + e ≤ 999999 by omega)]
theorem o19 : OrcOk Tryd.prog Γ orc19 := OrcOk.cons o18 12 g_rAdd _ Tryd.func12 (by kernel_rfl) (by kernel_rfl) (fun args c v h hc => by
  unfold g_rAdd at h
  split at h
  · cases h; exact ok_rAdd _ _ _ _ _ _
  · cases h)
theorem nf_meet (a : Int) (b : Int) (c : Int) (d : Int) (e : Int) (f : Int) : mergeT (tr19 13 [.agg [.si .i64 a, .si .i64 b, .si .i64 c], .agg [.si .i64 d, .si .i64 e, .si .i64 f]]) = .ok (Option.none) (V.tup [V.agg [V.si IntKind.i64 (bif !U.given a b c then 0 else bif !U.given d e f then 0 else bif c != f then 0 else (U.checked (if d > a then d else a) (if e < b then e else b) c).lo), V.si IntKind.i64 (bif !U.given a b c then 0 else bif !U.given d e f then 0 else bif c != f then 0 else (U.checked (if d > a then d else a) (if e < b then e else b) c).hi), V.si IntKind.i64 (bif !U.given a b c then 0 else bif !U.given d e f then 0 else bif c != f then 0 else (U.checked (if d > a then d else a) (if e < b then e else b) c).u)], V.si IntKind.i64 (bif !U.given a b c then 50 else bif !U.given d e f then 50 else bif c != f then 50 else (U.checked (if d > a then d else a) (if e < b then e else b) c).e)]) := by kernel_rfl
theorem ok_meet (a : Int) (b : Int) (c : Int) (d : Int) (e : Int) (f : Int) : SemF Tryd.prog Γ 13 [.agg [.si .i64 a, .si .i64 b, .si .i64 c], .agg [.si .i64 d, .si .i64 e, .si .i64 f]] [] [] (U.rv (U.meet a b c d e f)) [] [] := by
  refine SemF.of_ev o19 mixed (nf_meet a b c d e f) ?_ ?_
  · rfl
  · have e1 : (if d > a then d else a) = max a d := by split <;> omega
    have e2 : (if e < b then e else b) = min b e := by split <;> omega
    rw [e1, e2]
    cases hg : given a b c <;> cases hh : given d e f <;> by_cases h : c = f <;> first | (subst h; simp [meet, rv, am, bad, hg, hh, Bool.cond_eq_ite]) | simp [meet, rv, am, bad, hg, hh, h, Bool.cond_eq_ite]
theorem o20 : OrcOk Tryd.prog Γ orc20 := OrcOk.cons o19 13 g_meet _ Tryd.func13 (by kernel_rfl) (by kernel_rfl) (fun args c v h hc => by
  unfold g_meet at h
  split at h
  · cases h; exact ok_meet _ _ _ _ _ _
  · cases h)
theorem nf_rMeet (a : Int) (b : Int) (c : Int) (d : Int) (e : Int) (f : Int) : mergeT (tr20 14 [.agg [.si .i64 a, .si .i64 b, .si .i64 c], .agg [.si .i64 d, .si .i64 e, .si .i64 f]]) = .ok (Option.none) (V.tup [V.agg [V.si IntKind.i64 (bif !U.given a b c then 0 else bif !U.given d e f then 0 else bif c != f then 0 else bif Decidable.decide (a > e) then 0 else bif Decidable.decide (d > b) then 0 else if d > a then d else a), V.si IntKind.i64 (bif !U.given a b c then 0 else bif !U.given d e f then 0 else bif c != f then 0 else bif Decidable.decide (a > e) then 0 else bif Decidable.decide (d > b) then 0 else if e < b then e else b), V.si IntKind.i64 (bif !U.given a b c then 0 else bif !U.given d e f then 0 else bif c != f then 0 else bif Decidable.decide (a > e) then 0 else bif Decidable.decide (d > b) then 0 else c)], V.si IntKind.i64 (bif !U.given a b c then 50 else bif !U.given d e f then 50 else bif c != f then 50 else bif Decidable.decide (a > e) then 50 else bif Decidable.decide (d > b) then 50 else 0)]) := by kernel_rfl
theorem ok_rMeet (a : Int) (b : Int) (c : Int) (d : Int) (e : Int) (f : Int) : SemF Tryd.prog Γ 14 [.agg [.si .i64 a, .si .i64 b, .si .i64 c], .agg [.si .i64 d, .si .i64 e, .si .i64 f]] [] [] (U.rv (U.meet a b c d e f)) [] [] := by
  refine SemF.of_ev o20 mixed (nf_rMeet a b c d e f) ?_ ?_
  · rfl
  · have e1 : (if d > a then d else a) = max a d := by split <;> omega
    have e2 : (if e < b then e else b) = min b e := by split <;> omega
    rw [e1, e2]
    cases hg : given a b c with
    | false => simp [meet, rv, am, bad, hg]
    | true =>
    cases hh : given d e f with
    | false => simp [meet, rv, am, bad, hg, hh]
    | true =>
    have h1 := given_bd hg
    have h2 := given_bd hh
    by_cases h : c = f
    case neg => simp [meet, rv, am, bad, hg, hh, h, Bool.cond_eq_ite]
    subst h
    by_cases k : a > e
    · simp [meet, rv, am, hg, hh, k, checked, bad, given_no hg (show ¬(0 ≤ max a d ∧ max a d ≤ min b e ∧ min b e ≤ 999999) by omega)]
    by_cases k2 : d > b
    · simp [meet, rv, am, hg, hh, k, k2, checked, bad, given_no hg (show ¬(0 ≤ max a d ∧ max a d ≤ min b e ∧ min b e ≤ 999999) by omega)]
    simp [meet, rv, am, hg, hh, k, k2, checked, given_mk hg (show 0 ≤ max a d by omega) (show max a d ≤ min b e by omega) (show min b e ≤ 999999 by omega)]
theorem o21 : OrcOk Tryd.prog Γ orc21 := OrcOk.cons o20 14 g_rMeet _ Tryd.func14 (by kernel_rfl) (by kernel_rfl) (fun args c v h hc => by
  unfold g_rMeet at h
  split at h
  · cases h; exact ok_rMeet _ _ _ _ _ _
  · cases h)
theorem nf_contains (a : Int) (b : Int) (c : Int) (d : Int) (e : Int) (f : Int) : mergeT (tr21 15 [.agg [.si .i64 a, .si .i64 b, .si .i64 c], .agg [.si .i64 d, .si .i64 e, .si .i64 f]]) = .ok (Option.none) (V.sb (bif U.valid a b c then bif U.valid d e f then bif c == f then bif Decidable.decide (a ≤ d) then Decidable.decide (b ≥ e) else Bool.false else Bool.false else Bool.false else Bool.false)) := by kernel_rfl
theorem ok_contains (a : Int) (b : Int) (c : Int) (d : Int) (e : Int) (f : Int) : SemF Tryd.prog Γ 15 [.agg [.si .i64 a, .si .i64 b, .si .i64 c], .agg [.si .i64 d, .si .i64 e, .si .i64 f]] [] [] (.sb (U.contains a b c d e f)) [] [] := by
  refine SemF.of_ev o21 mixed (nf_contains a b c d e f) ?_ ?_
  · rfl
  · simp only [contains, V.sb.injEq]; cases valid a b c <;> cases valid d e f <;> simp [Bool.cond_eq_ite] <;> (try (rw [Bool.eq_iff_iff]; simp; try omega))
theorem o22 : OrcOk Tryd.prog Γ orc22 := OrcOk.cons o21 15 g_contains _ Tryd.func15 (by kernel_rfl) (by kernel_rfl) (fun args c v h hc => by
  unfold g_contains at h
  split at h
  · cases h; exact ok_contains _ _ _ _ _ _
  · cases h)
theorem nf_rContains (a : Int) (b : Int) (c : Int) (d : Int) (e : Int) (f : Int) : mergeT (tr22 16 [.agg [.si .i64 a, .si .i64 b, .si .i64 c], .agg [.si .i64 d, .si .i64 e, .si .i64 f]]) = .ok (Option.none) (V.sb (bif U.valid a b c then bif U.valid d e f then bif c == f then bif Decidable.decide (a ≤ d) then Decidable.decide (e ≤ b) else Bool.false else Bool.false else Bool.false else Bool.false)) := by kernel_rfl
theorem ok_rContains (a : Int) (b : Int) (c : Int) (d : Int) (e : Int) (f : Int) : SemF Tryd.prog Γ 16 [.agg [.si .i64 a, .si .i64 b, .si .i64 c], .agg [.si .i64 d, .si .i64 e, .si .i64 f]] [] [] (.sb (U.contains a b c d e f)) [] [] := by
  refine SemF.of_ev o22 mixed (nf_rContains a b c d e f) ?_ ?_
  · rfl
  · simp only [contains, V.sb.injEq]; cases valid a b c <;> cases valid d e f <;> simp [Bool.cond_eq_ite] <;> (try (rw [Bool.eq_iff_iff]; simp; try omega))
theorem o23 : OrcOk Tryd.prog Γ orc23 := OrcOk.cons o22 16 g_rContains _ Tryd.func16 (by kernel_rfl) (by kernel_rfl) (fun args c v h hc => by
  unfold g_rContains at h
  split at h
  · cases h; exact ok_rContains _ _ _ _ _ _
  · cases h)
theorem nf_pick (c : Int) (n : Int) : mergeT (tr23 18 [.si .i64 c, .si .i64 n]) = .ok (Option.some (bif Decidable.decide (c < 0) then Decidable.decide (n ≠ 0) else Decidable.decide (n ≠ 0))) (V.si IntKind.i64 (bif Decidable.decide (c < 0) then (IntKind.i64.wrap (0 - IntKind.i64.wrap (c + 1))).tmod n else c.tmod n)) := by kernel_rfl
theorem ok_pick (c : Int) (n : Int) (hc : (U.inr c && decide (0 < n)) = true) : SemF Tryd.prog Γ 18 [.si .i64 c, .si .i64 n] [] [] (.si .i64 (U.pick c n)) [] [] := by
  refine SemF.of_ev o23 mixed (nf_pick c n) ?_ ?_
  · show (_ : Bool) = true
    simp [inr] at hc ⊢; omega
  · obtain ⟨h1, h2⟩ := by simpa using hc
    rw [inr_iff] at h1
    by_cases h : c < 0
    · simp only [pick, h, decide_true, cond_true, if_true, wrap_id (x := c + 1) (by omega) (by omega), wrap_id (x := 0 - (c + 1)) (by omega) (by omega)]
      rw [show -(c + 1) = 0 - (c + 1) by omega]
    · simp only [pick, h, decide_false, cond_false, if_false]
theorem o24 : OrcOk Tryd.prog Γ orc24 := OrcOk.cons o23 18 g_pick _ Tryd.func18 (by kernel_rfl) (by kernel_rfl) (fun args c v h hc => by
  unfold g_pick at h
  split at h
  · cases h; exact ok_pick _ _ (by simpa using hc)
  · cases h)
theorem nf_rPick (c : Int) (n : Int) : mergeT (tr24 35 [.si .i64 c, .si .i64 n]) = .ok (Option.some (bif Decidable.decide (c < 0) then Decidable.decide (n ≠ 0) else Decidable.decide (n ≠ 0))) (V.si IntKind.i64 (bif Decidable.decide (c < 0) then (IntKind.i64.wrap (0 - IntKind.i64.wrap (c + 1))).tmod n else c.tmod n)) := by kernel_rfl
theorem ok_rPick (c : Int) (n : Int) (hc : (U.inr c && decide (0 < n)) = true) : SemF Tryd.prog Γ 35 [.si .i64 c, .si .i64 n] [] [] (.si .i64 (U.pick c n)) [] [] := by
  refine SemF.of_ev o24 mixed (nf_rPick c n) ?_ ?_
  · show (_ : Bool) = true
    simp [inr] at hc ⊢; omega
  · obtain ⟨h1, h2⟩ := by simpa using hc
    rw [inr_iff] at h1
    by_cases h : c < 0
    · simp only [pick, h, decide_true, cond_true, if_true, wrap_id (x := c + 1) (by omega) (by omega), wrap_id (x := 0 - (c + 1)) (by omega) (by omega)]
      rw [show -(c + 1) = 0 - (c + 1) by omega]
    · simp only [pick, h, decide_false, cond_false, if_false]
theorem o25 : OrcOk Tryd.prog Γ orc25 := OrcOk.cons o24 35 g_rPick _ Tryd.func35 (by kernel_rfl) (by kernel_rfl) (fun args c v h hc => by
  unfold g_rPick at h
  split at h
  · cases h; exact ok_rPick _ _ (by simpa using hc)
  · cases h)
theorem nf_made (x : Int) (y : Int) (z : Int) : mergeT (tr25 10 [.agg [.si .i64 x, .si .i64 y, .si .i64 z]]) = .ok (Option.some (U.inr z && Bool.true && (Decidable.decide (0 ≤ U.pick z 4 ∧ U.pick z 4 < ((4 : Nat) : Int)) && (U.inr x && Decidable.decide (0 < IntKind.i64.wrap ((bif Decidable.decide (U.pick z 4 = 0) then 9 else bif Decidable.decide (U.pick z 4 - 1 = 0) then 100 else bif Decidable.decide (U.pick z 4 - 1 - 1 = 0) then 5000 else 999999) + 1)) && (U.inr y && Decidable.decide (0 < IntKind.i64.wrap ((bif Decidable.decide (U.pick z 4 = 0) then 9 else bif Decidable.decide (U.pick z 4 - 1 = 0) then 100 else bif Decidable.decide (U.pick z 4 - 1 - 1 = 0) then 5000 else 999999) + 1)) && (U.inr (IntKind.i64.wrap (z.tdiv 4)) && Bool.true)))))) (V.agg [V.si IntKind.i64 (if U.pick y (IntKind.i64.wrap ((bif Decidable.decide (U.pick z 4 = 0) then 9 else bif Decidable.decide (U.pick z 4 - 1 = 0) then 100 else bif Decidable.decide (U.pick z 4 - 1 - 1 = 0) then 5000 else 999999) + 1)) < U.pick x (IntKind.i64.wrap ((bif Decidable.decide (U.pick z 4 = 0) then 9 else bif Decidable.decide (U.pick z 4 - 1 = 0) then 100 else bif Decidable.decide (U.pick z 4 - 1 - 1 = 0) then 5000 else 999999) + 1)) then U.pick y (IntKind.i64.wrap ((bif Decidable.decide (U.pick z 4 = 0) then 9 else bif Decidable.decide (U.pick z 4 - 1 = 0) then 100 else bif Decidable.decide (U.pick z 4 - 1 - 1 = 0) then 5000 else 999999) + 1)) else U.pick x (IntKind.i64.wrap ((bif Decidable.decide (U.pick z 4 = 0) then 9 else bif Decidable.decide (U.pick z 4 - 1 = 0) then 100 else bif Decidable.decide (U.pick z 4 - 1 - 1 = 0) then 5000 else 999999) + 1))), V.si IntKind.i64 (if U.pick y (IntKind.i64.wrap ((bif Decidable.decide (U.pick z 4 = 0) then 9 else bif Decidable.decide (U.pick z 4 - 1 = 0) then 100 else bif Decidable.decide (U.pick z 4 - 1 - 1 = 0) then 5000 else 999999) + 1)) > U.pick x (IntKind.i64.wrap ((bif Decidable.decide (U.pick z 4 = 0) then 9 else bif Decidable.decide (U.pick z 4 - 1 = 0) then 100 else bif Decidable.decide (U.pick z 4 - 1 - 1 = 0) then 5000 else 999999) + 1)) then U.pick y (IntKind.i64.wrap ((bif Decidable.decide (U.pick z 4 = 0) then 9 else bif Decidable.decide (U.pick z 4 - 1 = 0) then 100 else bif Decidable.decide (U.pick z 4 - 1 - 1 = 0) then 5000 else 999999) + 1)) else U.pick x (IntKind.i64.wrap ((bif Decidable.decide (U.pick z 4 = 0) then 9 else bif Decidable.decide (U.pick z 4 - 1 = 0) then 100 else bif Decidable.decide (U.pick z 4 - 1 - 1 = 0) then 5000 else 999999) + 1))), V.si IntKind.i64 (IntKind.i64.wrap (1 + U.pick (IntKind.i64.wrap (z.tdiv 4)) 7))]) := by kernel_rfl
theorem ok_made (x : Int) (y : Int) (z : Int) (hc : (U.inr x && (U.inr y && U.inr z)) = true) : SemF Tryd.prog Γ 10 [.agg [.si .i64 x, .si .i64 y, .si .i64 z]] [] [] (U.am (U.madeLo x y z) (U.madeHi x y z) (U.madeU z)) [] [] := by
  refine SemF.of_ev o25 mixed (nf_made x y z) ?_ ?_
  · show (_ : Bool) = true
    simp only [Bool.and_eq_true] at hc
    obtain ⟨hx, hy, hz⟩ := hc
    have wz : IntKind.i64.wrap (z.tdiv 4) = z.tdiv 4 := wrap_id (inr_iff.1 (tdiv4_inr hz)).1 (inr_iff.1 (tdiv4_inr hz)).2
    simp only [wz]
    have p := pick_bd z (show (0:Int) < 4 by omega)
    have m4 : pick z 4 = 0 ∨ pick z 4 = 1 ∨ pick z 4 = 2 ∨ pick z 4 = 3 := by omega
    rcases m4 with h | h | h | h <;> simp [h, hx, hy, hz, tdiv4_inr hz, IntKind.wrap, IntKind.bits, IntKind.signed]
  · simp only [Bool.and_eq_true] at hc
    obtain ⟨hx, hy, hz⟩ := hc
    have wz : IntKind.i64.wrap (z.tdiv 4) = z.tdiv 4 := wrap_id (inr_iff.1 (tdiv4_inr hz)).1 (inr_iff.1 (tdiv4_inr hz)).2
    simp only [wz]
    have p := pick_bd z (show (0:Int) < 4 by omega)
    have p7 := pick_bd (z.tdiv 4) (show (0:Int) < 7 by omega)
    have m4 : pick z 4 = 0 ∨ pick z 4 = 1 ∨ pick z 4 = 2 ∨ pick z 4 = 3 := by omega
    rcases m4 with h | h | h | h
    all_goals
      simp only [am, madeLo, madeHi, madeU, madeM, h, V.agg.injEq, List.cons.injEq, V.si.injEq, true_and, and_true, wrap_id (x := 1 + pick (z.tdiv 4) 7) (by omega) (by omega)]
      simp [IntKind.wrap, IntKind.bits, IntKind.signed]
      constructor <;> split <;> omega
theorem o26 : OrcOk Tryd.prog Γ orc26 := OrcOk.cons o25 10 g_made _ Tryd.func10 (by kernel_rfl) (by kernel_rfl) (fun args c v h hc => by
  unfold g_made at h
  split at h
  · cases h; exact ok_made _ _ _ (by simpa using hc)
  · cases h)
theorem nf_madeRates (x : Int) (y : Int) : mergeT (tr26 17 [.agg [.si .i64 x, .si .i64 y]]) = .ok (Option.some (U.inr x && Bool.true && (U.inr y && Bool.true))) (V.agg [V.si IntKind.i64 (IntKind.i64.wrap (1 + U.pick x 100000)), V.si IntKind.i64 (IntKind.i64.wrap (1 + U.pick y 100000))]) := by kernel_rfl
theorem ok_madeRates (x : Int) (y : Int) (hc : (U.inr x && U.inr y) = true) : SemF Tryd.prog Γ 17 [.agg [.si .i64 x, .si .i64 y]] [] [] (U.rt (1 + U.pick x 100000) (1 + U.pick y 100000)) [] [] := by
  refine SemF.of_ev o26 mixed (nf_madeRates x y) ?_ ?_
  · show (_ : Bool) = true
    simpa using hc
  · have p := pick_bd x (show (0:Int) < 100000 by omega)
    have q := pick_bd y (show (0:Int) < 100000 by omega)
    simp only [rt, wrap_id (x := 1 + pick x 100000) (by omega) (by omega), wrap_id (x := 1 + pick y 100000) (by omega) (by omega)]
theorem o27 : OrcOk Tryd.prog Γ orc27 := OrcOk.cons o26 17 g_madeRates _ Tryd.func17 (by kernel_rfl) (by kernel_rfl) (fun args c v h hc => by
  unfold g_madeRates at h
  split at h
  · cases h; exact ok_madeRates _ _ (by simpa using hc)
  · cases h)
theorem nf_step (n : Int) : mergeT (tr27 25 [.si .i64 n]) = .ok (Option.some (U.inr n && Bool.true && Decidable.decide (0 ≤ U.pick n 5 ∧ U.pick n 5 < ((5 : Nat) : Int)))) (V.si IntKind.i64 (bif Decidable.decide (U.pick n 5 = 0) then 1 else bif Decidable.decide (U.pick n 5 - 1 = 0) then 10 else bif Decidable.decide (U.pick n 5 - 1 - 1 = 0) then 100 else bif Decidable.decide (U.pick n 5 - 1 - 1 - 1 = 0) then 1000 else 10000)) := by kernel_rfl
theorem ok_step (n : Int) (hc : (U.inr n) = true) : SemF Tryd.prog Γ 25 [.si .i64 n] [] [] (.si .i64 (U.step n)) [] [] := by
  refine SemF.of_ev o27 mixed (nf_step n) ?_ ?_
  · show (_ : Bool) = true
    have p := pick_bd n (show (0:Int) < 5 by omega)
    simp [hc]
    omega
  · simp only [step, V.si.injEq, true_and, Bool.cond_decide]; repeat' split
    all_goals omega
theorem o28 : OrcOk Tryd.prog Γ orc28 := OrcOk.cons o27 25 g_step _ Tryd.func25 (by kernel_rfl) (by kernel_rfl) (fun args c v h hc => by
  unfold g_step at h
  split at h
  · cases h; exact ok_step _ (by simpa using hc)
  · cases h)
theorem nf_partner (u : Int) (o : Bool) : mergeT (tr28 32 [.si .i64 u, .sb o]) = .ok (Option.none) (V.si IntKind.i64 (bif !o then u else bif u == 1 then u else bif u.tmod 2 == 0 then IntKind.i64.wrap (u + 1) else IntKind.i64.wrap (u - 1))) := by kernel_rfl
theorem ok_partner (u : Int) (o : Bool) : SemF Tryd.prog Γ 32 [.si .i64 u, .sb o] [] [] (.si .i64 (U.partner u o)) [] [] := by
  refine SemF.of_ev o28 mixed (nf_partner u o) ?_ ?_
  · rfl
  · simp only [partner, V.si.injEq, true_and]; cases o <;> by_cases h : u = 1 <;> by_cases k : u.tmod 2 = 0 <;> simp [h, k, Bool.cond_eq_ite]
theorem o29 : OrcOk Tryd.prog Γ orc29 := OrcOk.cons o28 32 g_partner _ Tryd.func32 (by kernel_rfl) (by kernel_rfl) (fun args c v h hc => by
  unfold g_partner at h
  split at h
  · cases h; exact ok_partner _ _
  · cases h)
theorem nf_closest (a : Int) (b : Int) (c : Int) (l : Int) (h : Int) (n : Int) (d : Int) : mergeT (tr29 34 [.agg [.si .i64 a, .si .i64 b, .si .i64 c], .si .i64 l, .si .i64 h, .si .i64 n, .si .i64 d]) = .ok (Option.none) (V.sb (bif Decidable.decide (IntKind.i64.wrap (a * d) ≤ IntKind.i64.wrap (l * n)) then bif Decidable.decide (IntKind.i64.wrap (IntKind.i64.wrap (a + 1) * d) > IntKind.i64.wrap (l * n)) then bif Decidable.decide (IntKind.i64.wrap (b * d) ≥ IntKind.i64.wrap (h * n)) then Decidable.decide (IntKind.i64.wrap (IntKind.i64.wrap (b - 1) * d) < IntKind.i64.wrap (h * n)) else Bool.false else Bool.false else Bool.false)) := by kernel_rfl
theorem ok_closest (a : Int) (b : Int) (c : Int) (l : Int) (h : Int) (n : Int) (d : Int) : SemF Tryd.prog Γ 34 [.agg [.si .i64 a, .si .i64 b, .si .i64 c], .si .i64 l, .si .i64 h, .si .i64 n, .si .i64 d] [] [] (.sb (U.closest a b l h n d)) [] [] := by
  refine SemF.of_ev o29 mixed (nf_closest a b c l h n d) ?_ ?_
  · rfl
  · simp only [closest, V.sb.injEq]; rw [Bool.eq_iff_iff]; simp [Bool.cond_eq_ite, and_assoc]
theorem o30 : OrcOk Tryd.prog Γ orc30 := OrcOk.cons o29 34 g_closest _ Tryd.func34 (by kernel_rfl) (by kernel_rfl) (fun args c v h hc => by
  unfold g_closest at h
  split at h
  · cases h; exact ok_closest _ _ _ _ _ _ _
  · cases h)
theorem nf_sane  : mergeT (tr30 9 []) = .ok (Option.none) (V.sb Bool.true) := by kernel_rfl
theorem ok_sane  : SemF Tryd.prog Γ 9 [] [] [] (.sb true) [] [] := by
  refine SemF.of_ev o30 mixed (nf_sane) ?_ ?_
  · rfl
  · rfl
theorem o31 : OrcOk Tryd.prog Γ orc31 := OrcOk.cons o30 9 g_sane _ Tryd.func9 (by kernel_rfl) (by kernel_rfl) (fun args c v h hc => by
  unfold g_sane at h
  split at h
  · cases h; exact ok_sane
  · cases h)
end U
end Go.Proofs.YtblnabilodbceaaDoor
