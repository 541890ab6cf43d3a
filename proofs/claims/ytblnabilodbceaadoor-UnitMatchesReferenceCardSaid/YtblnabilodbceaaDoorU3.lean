/- The unit's functions, reckoned. Written by wip/unit/nf.py. -/
import Derived.Test.YtblnabilodbceaaDoorU3a
set_option linter.unusedVariables false
set_option linter.unusedSimpArgs false
set_option maxRecDepth 100000
set_option maxHeartbeats 2000000
namespace Go.Proofs.YtblnabilodbceaaDoor
open Go
namespace U
theorem nf_kind (u : Int) : mergeT (tr0 23 [.si .i64 u]) = .ok (Option.some (Decidable.decide (u < 1) || (Decidable.decide (u > 7) || Decidable.decide (0 ≤ u ∧ u < 8)))) (V.si IntKind.i64 (bif Decidable.decide (u < 1) then 0 else bif Decidable.decide (u > 7) then 0 else bif Decidable.decide (u = 0) then 0 else bif Decidable.decide (u - 1 = 0) then 1 else bif Decidable.decide (u - 1 - 1 = 0) then 2 else bif Decidable.decide (u - 1 - 1 - 1 = 0) then 2 else bif Decidable.decide (u - 1 - 1 - 1 - 1 = 0) then 3 else bif Decidable.decide (u - 1 - 1 - 1 - 1 - 1 = 0) then 3 else 4)) := by kernel_rfl
theorem ok_kind (u : Int) : SemF Tryd.prog Γ 23 [.si .i64 u] [] [] (.si .i64 (U.kind u)) [] [] := by
  refine SemF.of_ev o0 mixed (nf_kind u) ?_ ?_
  · show (_ : Bool) = true
    simp; omega
  · simp only [kind, V.si.injEq, true_and, Bool.cond_decide]; repeat' split
    all_goals omega
theorem o1 : OrcOk Tryd.prog Γ orc1 := OrcOk.cons o0 23 g_kind _ Tryd.func23 (by kernel_rfl) (by kernel_rfl) (fun args c v h hc => by
  unfold g_kind at h
  split at h
  · cases h; exact ok_kind _
  · cases h)
theorem nf_rKind (u : Int) : mergeT (tr1 24 [.si .i64 u]) = .ok (Option.none) (V.si IntKind.i64 (bif u == 1 then 1 else bif u == 2 then bif u == 2 then 2 else bif u == 4 then bif u == 4 then 3 else bif u == 6 then bif u == 6 then 4 else 0 else bif u == 7 then 4 else 0 else bif u == 5 then 3 else bif u == 6 then bif u == 6 then 4 else 0 else bif u == 7 then 4 else 0 else bif u == 3 then 2 else bif u == 4 then bif u == 4 then 3 else bif u == 6 then bif u == 6 then 4 else 0 else bif u == 7 then 4 else 0 else bif u == 5 then 3 else bif u == 6 then bif u == 6 then 4 else 0 else bif u == 7 then 4 else 0)) := by kernel_rfl
theorem ok_rKind (u : Int) : SemF Tryd.prog Γ 24 [.si .i64 u] [] [] (.si .i64 (U.kind u)) [] [] := by
  refine SemF.of_ev o1 mixed (nf_rKind u) ?_ ?_
  · rfl
  · simp only [kind, V.si.injEq, true_and, Bool.cond_eq_ite, beq_iff_eq]; repeat' split
    all_goals omega
theorem o2 : OrcOk Tryd.prog Γ orc2 := OrcOk.cons o1 24 g_rKind _ Tryd.func24 (by kernel_rfl) (by kernel_rfl) (fun args c v h hc => by
  unfold g_rKind at h
  split at h
  · cases h; exact ok_rKind _
  · cases h)
theorem nf_valid (a : Int) (b : Int) (c : Int) : mergeT (tr2 30 [.agg [.si .i64 a, .si .i64 b, .si .i64 c]]) = .ok (Option.none) (V.sb (bif a == 0 && (b == 0 && (c == 0 && Bool.true)) then Bool.true else bif Decidable.decide (U.kind c > 0) then bif Decidable.decide (0 ≤ a) then bif Decidable.decide (a ≤ b) then Decidable.decide (b ≤ 999999) else Bool.false else Bool.false else Bool.false)) := by kernel_rfl
theorem ok_valid (a : Int) (b : Int) (c : Int) : SemF Tryd.prog Γ 30 [.agg [.si .i64 a, .si .i64 b, .si .i64 c]] [] [] (.sb (U.valid a b c)) [] [] := by
  refine SemF.of_ev o2 mixed (nf_valid a b c) ?_ ?_
  · rfl
  · simp only [valid, V.sb.injEq]; rw [Bool.eq_iff_iff]; simp [Bool.cond_eq_ite]; try (constructor <;> intro h <;> omega)
theorem o3 : OrcOk Tryd.prog Γ orc3 := OrcOk.cons o2 30 g_valid _ Tryd.func30 (by kernel_rfl) (by kernel_rfl) (fun args c v h hc => by
  unfold g_valid at h
  split at h
  · cases h; exact ok_valid _ _ _
  · cases h)
theorem nf_rValid (a : Int) (b : Int) (c : Int) : mergeT (tr3 31 [.agg [.si .i64 a, .si .i64 b, .si .i64 c]]) = .ok (Option.none) (V.sb (bif a == 0 && (b == 0 && (c == 0 && Bool.true)) then Bool.true else bif Decidable.decide (U.kind c > 0) then bif Decidable.decide (a ≥ 0) then bif Decidable.decide (a ≤ b) then Decidable.decide (b ≤ 999999) else Bool.false else Bool.false else Bool.false)) := by kernel_rfl
theorem ok_rValid (a : Int) (b : Int) (c : Int) : SemF Tryd.prog Γ 31 [.agg [.si .i64 a, .si .i64 b, .si .i64 c]] [] [] (.sb (U.valid a b c)) [] [] := by
  refine SemF.of_ev o3 mixed (nf_rValid a b c) ?_ ?_
  · rfl
  · simp only [valid, V.sb.injEq]; rw [Bool.eq_iff_iff]; simp [Bool.cond_eq_ite]; try (constructor <;> intro h <;> omega)
theorem o4 : OrcOk Tryd.prog Γ orc4 := OrcOk.cons o3 31 g_rValid _ Tryd.func31 (by kernel_rfl) (by kernel_rfl) (fun args c v h hc => by
  unfold g_rValid at h
  split at h
  · cases h; exact ok_rValid _ _ _
  · cases h)
theorem nf_given (a : Int) (b : Int) (c : Int) : mergeT (tr4 40 [.agg [.si .i64 a, .si .i64 b, .si .i64 c]]) = .ok (Option.none) (V.sb (bif U.valid a b c then c != 0 else Bool.false)) := by kernel_rfl
theorem ok_given (a : Int) (b : Int) (c : Int) : SemF Tryd.prog Γ 40 [.agg [.si .i64 a, .si .i64 b, .si .i64 c]] [] [] (.sb (U.given a b c)) [] [] := by
  refine SemF.of_ev o4 mixed (nf_given a b c) ?_ ?_
  · rfl
  · simp only [given, V.sb.injEq]; rw [Bool.eq_iff_iff]; cases valid a b c <;> simp
theorem o5 : OrcOk Tryd.prog Γ orc5 := OrcOk.cons o4 40 g_given _ Tryd.func40 (by kernel_rfl) (by kernel_rfl) (fun args c v h hc => by
  unfold g_given at h
  split at h
  · cases h; exact ok_given _ _ _
  · cases h)
theorem nf_rGiven (a : Int) (b : Int) (c : Int) : mergeT (tr5 38 [.agg [.si .i64 a, .si .i64 b, .si .i64 c]]) = .ok (Option.none) (V.sb (bif U.valid a b c then c != 0 else Bool.false)) := by kernel_rfl
theorem ok_rGiven (a : Int) (b : Int) (c : Int) : SemF Tryd.prog Γ 38 [.agg [.si .i64 a, .si .i64 b, .si .i64 c]] [] [] (.sb (U.given a b c)) [] [] := by
  refine SemF.of_ev o5 mixed (nf_rGiven a b c) ?_ ?_
  · rfl
  · simp only [given, V.sb.injEq]; rw [Bool.eq_iff_iff]; cases valid a b c <;> simp
theorem o6 : OrcOk Tryd.prog Γ orc6 := OrcOk.cons o5 38 g_rGiven _ Tryd.func38 (by kernel_rfl) (by kernel_rfl) (fun args c v h hc => by
  unfold g_rGiven at h
  split at h
  · cases h; exact ok_rGiven _ _ _
  · cases h)
theorem nf_checked (a : Int) (b : Int) (c : Int) : mergeT (tr6 44 [.agg [.si .i64 a, .si .i64 b, .si .i64 c]]) = .ok (Option.none) (V.tup [V.agg [V.si IntKind.i64 (bif !U.given a b c then 0 else a), V.si IntKind.i64 (bif !U.given a b c then 0 else b), V.si IntKind.i64 (bif !U.given a b c then 0 else c)], V.si IntKind.i64 (bif !U.given a b c then 50 else 0)]) := by kernel_rfl
theorem ok_checked (a : Int) (b : Int) (c : Int) : SemF Tryd.prog Γ 44 [.agg [.si .i64 a, .si .i64 b, .si .i64 c]] [] [] (U.rv (U.checked a b c)) [] [] := by
  refine SemF.of_ev o6 mixed (nf_checked a b c) ?_ ?_
  · rfl
  · simp only [checked, rv, am, bad]; cases given a b c <;> rfl
theorem o7 : OrcOk Tryd.prog Γ orc7 := OrcOk.cons o6 44 g_checked _ Tryd.func44 (by kernel_rfl) (by kernel_rfl) (fun args c v h hc => by
  unfold g_checked at h
  split at h
  · cases h; exact ok_checked _ _ _
  · cases h)
theorem nf_rates (r : Int) (s : Int) : mergeT (tr7 21 [.agg [.si .i64 r, .si .i64 s]]) = .ok (Option.none) (V.sb (bif bif Decidable.decide (r ≥ 1) then Decidable.decide (r ≤ 100000) else Bool.false then bif Decidable.decide (s ≥ 1) then Decidable.decide (s ≤ 100000) else Bool.false else Bool.false)) := by kernel_rfl
theorem ok_rates (r : Int) (s : Int) : SemF Tryd.prog Γ 21 [.agg [.si .i64 r, .si .i64 s]] [] [] (.sb (U.rates r s)) [] [] := by
  refine SemF.of_ev o7 mixed (nf_rates r s) ?_ ?_
  · rfl
  · simp only [rates, V.sb.injEq]; rw [Bool.eq_iff_iff]; simp [Bool.cond_eq_ite]; try omega
theorem o8 : OrcOk Tryd.prog Γ orc8 := OrcOk.cons o7 21 g_rates _ Tryd.func21 (by kernel_rfl) (by kernel_rfl) (fun args c v h hc => by
  unfold g_rates at h
  split at h
  · cases h; exact ok_rates _ _
  · cases h)
theorem nf_rRates (r : Int) (s : Int) : mergeT (tr8 22 [.agg [.si .i64 r, .si .i64 s]]) = .ok (Option.none) (V.sb (bif Decidable.decide (r ≥ 1) then bif Decidable.decide (r ≤ 100000) then bif Decidable.decide (s ≥ 1) then Decidable.decide (s ≤ 100000) else Bool.false else Bool.false else Bool.false)) := by kernel_rfl
theorem ok_rRates (r : Int) (s : Int) : SemF Tryd.prog Γ 22 [.agg [.si .i64 r, .si .i64 s]] [] [] (.sb (U.rates r s)) [] [] := by
  refine SemF.of_ev o8 mixed (nf_rRates r s) ?_ ?_
  · rfl
  · simp only [rates, V.sb.injEq]; rw [Bool.eq_iff_iff]; simp [Bool.cond_eq_ite]; try omega
theorem o9 : OrcOk Tryd.prog Γ orc9 := OrcOk.cons o8 22 g_rRates _ Tryd.func22 (by kernel_rfl) (by kernel_rfl) (fun args c v h hc => by
  unfold g_rRates at h
  split at h
  · cases h; exact ok_rRates _ _
  · cases h)
theorem nf_worth (f : Int) (t : Int) (r : Int) (s : Int) : mergeT (tr9 33 [.si .i64 f, .si .i64 t, .agg [.si .i64 r, .si .i64 s]]) = .ok (Option.none) (V.tup [V.si IntKind.i64 (bif f == 3 then bif t == 2 then 3048 else bif f == 2 then bif t == 3 then 10000 else bif f == 5 then bif t == 4 then 45359237 else bif f == 4 then bif t == 5 then 100000000 else bif f == 6 then bif t == 7 then s else bif f == 7 then bif t == 6 then r else 1 else 1 else bif f == 7 then bif t == 6 then r else 1 else 1 else bif f == 6 then bif t == 7 then s else bif f == 7 then bif t == 6 then r else 1 else 1 else bif f == 7 then bif t == 6 then r else 1 else 1 else bif f == 4 then bif t == 5 then 100000000 else bif f == 6 then bif t == 7 then s else bif f == 7 then bif t == 6 then r else 1 else 1 else bif f == 7 then bif t == 6 then r else 1 else 1 else bif f == 6 then bif t == 7 then s else bif f == 7 then bif t == 6 then r else 1 else 1 else bif f == 7 then bif t == 6 then r else 1 else 1 else bif f == 5 then bif t == 4 then 45359237 else bif f == 4 then bif t == 5 then 100000000 else bif f == 6 then bif t == 7 then s else bif f == 7 then bif t == 6 then r else 1 else 1 else bif f == 7 then bif t == 6 then r else 1 else 1 else bif f == 6 then bif t == 7 then s else bif f == 7 then bif t == 6 then r else 1 else 1 else bif f == 7 then bif t == 6 then r else 1 else 1 else bif f == 4 then bif t == 5 then 100000000 else bif f == 6 then bif t == 7 then s else bif f == 7 then bif t == 6 then r else 1 else 1 else bif f == 7 then bif t == 6 then r else 1 else 1 else bif f == 6 then bif t == 7 then s else bif f == 7 then bif t == 6 then r else 1 else 1 else bif f == 7 then bif t == 6 then r else 1 else 1 else bif f == 2 then bif t == 3 then 10000 else bif f == 5 then bif t == 4 then 45359237 else bif f == 4 then bif t == 5 then 100000000 else bif f == 6 then bif t == 7 then s else bif f == 7 then bif t == 6 then r else 1 else 1 else bif f == 7 then bif t == 6 then r else 1 else 1 else bif f == 6 then bif t == 7 then s else bif f == 7 then bif t == 6 then r else 1 else 1 else bif f == 7 then bif t == 6 then r else 1 else 1 else bif f == 4 then bif t == 5 then 100000000 else bif f == 6 then bif t == 7 then s else bif f == 7 then bif t == 6 then r else 1 else 1 else bif f == 7 then bif t == 6 then r else 1 else 1 else bif f == 6 then bif t == 7 then s else bif f == 7 then bif t == 6 then r else 1 else 1 else bif f == 7 then bif t == 6 then r else 1 else 1 else bif f == 5 then bif t == 4 then 45359237 else bif f == 4 then bif t == 5 then 100000000 else bif f == 6 then bif t == 7 then s else bif f == 7 then bif t == 6 then r else 1 else 1 else bif f == 7 then bif t == 6 then r else 1 else 1 else bif f == 6 then bif t == 7 then s else bif f == 7 then bif t == 6 then r else 1 else 1 else bif f == 7 then bif t == 6 then r else 1 else 1 else bif f == 4 then bif t == 5 then 100000000 else bif f == 6 then bif t == 7 then s else bif f == 7 then bif t == 6 then r else 1 else 1 else bif f == 7 then bif t == 6 then r else 1 else 1 else bif f == 6 then bif t == 7 then s else bif f == 7 then bif t == 6 then r else 1 else 1 else bif f == 7 then bif t == 6 then r else 1 else 1), V.si IntKind.i64 (bif f == 3 then bif t == 2 then 10000 else bif f == 2 then bif t == 3 then 3048 else bif f == 5 then bif t == 4 then 100000000 else bif f == 4 then bif t == 5 then 45359237 else bif f == 6 then bif t == 7 then r else bif f == 7 then bif t == 6 then s else 1 else 1 else bif f == 7 then bif t == 6 then s else 1 else 1 else bif f == 6 then bif t == 7 then r else bif f == 7 then bif t == 6 then s else 1 else 1 else bif f == 7 then bif t == 6 then s else 1 else 1 else bif f == 4 then bif t == 5 then 45359237 else bif f == 6 then bif t == 7 then r else bif f == 7 then bif t == 6 then s else 1 else 1 else bif f == 7 then bif t == 6 then s else 1 else 1 else bif f == 6 then bif t == 7 then r else bif f == 7 then bif t == 6 then s else 1 else 1 else bif f == 7 then bif t == 6 then s else 1 else 1 else bif f == 5 then bif t == 4 then 100000000 else bif f == 4 then bif t == 5 then 45359237 else bif f == 6 then bif t == 7 then r else bif f == 7 then bif t == 6 then s else 1 else 1 else bif f == 7 then bif t == 6 then s else 1 else 1 else bif f == 6 then bif t == 7 then r else bif f == 7 then bif t == 6 then s else 1 else 1 else bif f == 7 then bif t == 6 then s else 1 else 1 else bif f == 4 then bif t == 5 then 45359237 else bif f == 6 then bif t == 7 then r else bif f == 7 then bif t == 6 then s else 1 else 1 else bif f == 7 then bif t == 6 then s else 1 else 1 else bif f == 6 then bif t == 7 then r else bif f == 7 then bif t == 6 then s else 1 else 1 else bif f == 7 then bif t == 6 then s else 1 else 1 else bif f == 2 then bif t == 3 then 3048 else bif f == 5 then bif t == 4 then 100000000 else bif f == 4 then bif t == 5 then 45359237 else bif f == 6 then bif t == 7 then r else bif f == 7 then bif t == 6 then s else 1 else 1 else bif f == 7 then bif t == 6 then s else 1 else 1 else bif f == 6 then bif t == 7 then r else bif f == 7 then bif t == 6 then s else 1 else 1 else bif f == 7 then bif t == 6 then s else 1 else 1 else bif f == 4 then bif t == 5 then 45359237 else bif f == 6 then bif t == 7 then r else bif f == 7 then bif t == 6 then s else 1 else 1 else bif f == 7 then bif t == 6 then s else 1 else 1 else bif f == 6 then bif t == 7 then r else bif f == 7 then bif t == 6 then s else 1 else 1 else bif f == 7 then bif t == 6 then s else 1 else 1 else bif f == 5 then bif t == 4 then 100000000 else bif f == 4 then bif t == 5 then 45359237 else bif f == 6 then bif t == 7 then r else bif f == 7 then bif t == 6 then s else 1 else 1 else bif f == 7 then bif t == 6 then s else 1 else 1 else bif f == 6 then bif t == 7 then r else bif f == 7 then bif t == 6 then s else 1 else 1 else bif f == 7 then bif t == 6 then s else 1 else 1 else bif f == 4 then bif t == 5 then 45359237 else bif f == 6 then bif t == 7 then r else bif f == 7 then bif t == 6 then s else 1 else 1 else bif f == 7 then bif t == 6 then s else 1 else 1 else bif f == 6 then bif t == 7 then r else bif f == 7 then bif t == 6 then s else 1 else 1 else bif f == 7 then bif t == 6 then s else 1 else 1)]) := by kernel_rfl
theorem ok_worth (f : Int) (t : Int) (r : Int) (s : Int) : SemF Tryd.prog Γ 33 [.si .i64 f, .si .i64 t, .agg [.si .i64 r, .si .i64 s]] [] [] (.tup [.si .i64 (U.worth f t r s).1, .si .i64 (U.worth f t r s).2]) [] [] := by
  refine SemF.of_ev o9 mixed (nf_worth f t r s) ?_ ?_
  · rfl
  · by_cases h3 : f = 3
    · subst h3; by_cases ht : t = 2 <;> simp [worth, ht, Bool.cond_eq_ite]
    by_cases h2 : f = 2
    · subst h2; by_cases ht : t = 3 <;> simp [worth, ht, Bool.cond_eq_ite]
    by_cases h5 : f = 5
    · subst h5; by_cases ht : t = 4 <;> simp [worth, ht, Bool.cond_eq_ite]
    by_cases h4 : f = 4
    · subst h4; by_cases ht : t = 5 <;> simp [worth, ht, Bool.cond_eq_ite]
    by_cases h6 : f = 6
    · subst h6; by_cases ht : t = 7 <;> simp [worth, ht, Bool.cond_eq_ite]
    by_cases h7 : f = 7
    · subst h7; by_cases ht : t = 6 <;> simp [worth, ht, Bool.cond_eq_ite]
    simp [worth, h3, h2, h5, h4, h6, h7, Bool.cond_eq_ite]
theorem o10 : OrcOk Tryd.prog Γ orc10 := OrcOk.cons o9 33 g_worth _ Tryd.func33 (by kernel_rfl) (by kernel_rfl) (fun args c v h hc => by
  unfold g_worth at h
  split at h
  · cases h; exact ok_worth _ _ _ _
  · cases h)
end U
end Go.Proofs.YtblnabilodbceaaDoor
