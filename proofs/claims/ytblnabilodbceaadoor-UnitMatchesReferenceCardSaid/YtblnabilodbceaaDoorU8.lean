/- Package unit: the reference's Coarse, whose loop counts up to a multiple of the step. -/
import Derived.Test.YtblnabilodbceaaDoorU7
import Derived.Test.YtblnabilodbceaaDoorDv22
set_option linter.unusedVariables false
set_option linter.unusedSimpArgs false
set_option maxRecDepth 100000
set_option maxHeartbeats 2000000
namespace Go.Proofs.YtblnabilodbceaaDoor
open Go
namespace U
noncomputable def body27 : Code := match Tryd.f27.body with | some c => ((loops c)[0]?).getD .skip | none => .skip
def vs27 (s : Int) : List V := [.si .i64 s, .ptr 1 0, .ptr 2 0]
def ob27 (o0 o1 : Option (List V)) (lo hi u : Int) : Ob := [o0, o1, some [.si .i64 lo, .si .i64 hi, .si .i64 u]]
def go27 (vs : List V) (ob : Ob) (nm : Nm) : Option (Tr (Ex × St)) :=
  match vs, ob with
  | [.si .i64 s, .ptr 1 0, .ptr 2 0], [o0, o1, some [.si .i64 lo, .si .i64 hi, .si .i64 u]] =>
    some (.br (decide (1 ≤ s ∧ s ≤ 10000 ∧ 0 ≤ hi ∧ hi ≤ 999999)) (.leaf (some (.exit 0, St.of 57 [1, 4, 6] (vs27 s) (ob27 o0 o1 lo ((hi + s - 1) / s * s) u) nm))) (.leaf none))
  | _, _ => none
def lo27 : LOrc := fun f i => if f = 27 then if i = 0 then some ⟨57, [1, 4, 6], go27⟩ else none else none
theorem round27 (s lo hi u : Int) (o0 o1 : Option (List V)) (nm : Nm) : outs (evCK Tryd.prog Γ (cfD Tryd.prog Γ orc31 60 8) (fun _ => none) [] 60 0 body27 (St.of 57 [1, 4, 6] (vs27 s) (ob27 o0 o1 lo hi u) nm)) [1, 4, 6] =
    .br (decide (s ≠ 0)) (.br (hi.tmod s != 0) (.leaf (some (.normal, vs27 s, ob27 o0 o1 lo (IntKind.i64.wrap (hi + 1)) u, nm, 57))) (.leaf (some (.exit 0, vs27 s, ob27 o0 o1 lo hi u, nm, 57)))) (.leaf none) := by kernel_rfl
theorem loop27 (s lo u : Int) (o0 o1 : Option (List V)) (nm : Nm) (h1 : 1 ≤ s) (h2 : s ≤ 10000) : ∀ (k : Nat) (hi : Int), 0 ≤ hi → hi + k ≤ 1100000 → (hi + s - 1) / s * s - hi = k →
    SemL Tryd.prog Γ body27 (St.of 57 [1, 4, 6] (vs27 s) (ob27 o0 o1 lo hi u) nm) (.exit 0) (St.of 57 [1, 4, 6] (vs27 s) (ob27 o0 o1 lo ((hi + s - 1) / s * s) u) nm)
  | 0, hi, h0, hm, hk => by
    have e : (hi + s - 1) / s * s = hi := by omega
    have t : hi.tmod s = 0 := by
      rw [Int.tmod_eq_emod_of_nonneg h0, ← e]
      exact Int.mul_emod_left _ _
    rw [e]
    refine SemL.out (by simp) (SemC.of_evK (e := .exit 0) o31 mixed (n := 60) (d := 8) (lv := []) ?_)
    rw [round27]
    have hs : s ≠ 0 := by omega
    simp [t, hs, Tr.run]
  | k + 1, hi, h0, hm, hk => by
    have l1 := Int.ediv_mul_le (hi + s - 1) (show s ≠ 0 by omega)
    have hs : s ≠ 0 := by omega
    have t : hi.tmod s ≠ 0 := by
      rw [Int.tmod_eq_emod_of_nonneg h0]
      intro z
      have d := Int.mul_ediv_add_emod hi s
      rw [z, Int.add_zero] at d
      have q : (hi + s - 1) / s = hi / s := by
        have : hi + s - 1 = (s - 1) + s * (hi / s) := by omega
        rw [this, Int.add_mul_ediv_left _ _ hs, Int.ediv_eq_zero_of_lt (by omega) (by omega), Int.zero_add]
      rw [q, Int.mul_comm, d] at hk
      omega
    have q : (hi + 1 + s - 1) / s = (hi + s - 1) / s := by
      apply Int.le_antisymm
      · apply Int.le_of_lt_add_one
        rw [Int.ediv_lt_iff_lt_mul (by omega), Int.add_mul, Int.one_mul]
        generalize (hi + s - 1) / s * s = R at *
        omega
      · exact Int.ediv_le_ediv (by omega) (by omega)
    have ih := loop27 s lo u o0 o1 nm h1 h2 k (hi + 1) (by omega) (by omega) (by rw [q]; omega)
    rw [q] at ih
    refine SemL.next (SemC.of_evK (e := .normal) o31 mixed (n := 60) (d := 8) (lv := []) ?_) ih
    rw [round27]
    have w : IntKind.i64.wrap (hi + 1) = hi + 1 := wrap_id (by omega) (by omega)
    have t' : (hi.tmod s != 0) = true := by simpa using t
    simp [t', hs, Tr.run, w]
theorem lo27_ok : LOrcOk Tryd.prog Γ lo27 := by
  intro f i e h
  unfold lo27 at h
  split at h
  · rename_i hf
    subst hf
    split at h
    · rename_i hi
      subst hi
      cases h
      refine ⟨Tryd.f27, _, body27, Tryd.func27, rfl, by kernel_rfl, fun vs ob nm t ex s hg ht => ?_⟩
      simp only [go27] at hg
      split at hg
      · rename_i s o0 o1 lo hi u
        cases hg
        simp only [Tr.run] at ht
        split at ht
        · rename_i hc
          simp only [decide_eq_true_eq] at hc
          cases ht
          have := loop27 s lo u o0 o1 nm hc.1 hc.2.1 ((hi + s - 1) / s * s - hi).toNat hi hc.2.2.1 (by
            have l2 := Int.ediv_mul_le (hi + s - 1) (show s ≠ 0 by omega)
            omega) (by
            have l1 := Int.lt_ediv_add_one_mul_self (hi + s - 1) (show 0 < s by omega)
            rw [Int.add_mul] at l1
            omega)
          exact this
        · cases ht
      · cases hg
    · cases h
  · cases h
theorem nf_rCoarse (a b c s : Int) : mergeT (evFK Tryd.prog Γ (cfD Tryd.prog Γ orc31 60 8) lo27 [29] 60 27 [.agg [.si .i64 a, .si .i64 b, .si .i64 c], .si .i64 s] [] []) = .ok (some ((bif !U.given a b c then true else bif s != 1 then bif s != 10 then bif s != 100 then bif s != 1000 then s != 10000 else false else false else false else false) || decide (s ≠ 0) && decide (1 ≤ s ∧ s ≤ 10000 ∧ 0 ≤ b ∧ b ≤ 999999))) (V.tup [V.agg [V.si IntKind.i64 (bif bif !U.given a b c then true else bif s != 1 then bif s != 10 then bif s != 100 then bif s != 1000 then s != 10000 else false else false else false else false then 0 else bif !U.given (IntKind.i64.wrap (a - a.tmod s)) ((b + s - 1) / s * s) c then 0 else IntKind.i64.wrap (a - a.tmod s)), V.si IntKind.i64 (bif bif !U.given a b c then true else bif s != 1 then bif s != 10 then bif s != 100 then bif s != 1000 then s != 10000 else false else false else false else false then 0 else bif !U.given (IntKind.i64.wrap (a - a.tmod s)) ((b + s - 1) / s * s) c then 0 else (b + s - 1) / s * s), V.si IntKind.i64 (bif bif !U.given a b c then true else bif s != 1 then bif s != 10 then bif s != 100 then bif s != 1000 then s != 10000 else false else false else false else false then 0 else bif !U.given (IntKind.i64.wrap (a - a.tmod s)) ((b + s - 1) / s * s) c then 0 else c)], V.si IntKind.i64 (bif bif !U.given a b c then true else bif s != 1 then bif s != 10 then bif s != 100 then bif s != 1000 then s != 10000 else false else false else false else false then 50 else bif !U.given (IntKind.i64.wrap (a - a.tmod s)) ((b + s - 1) / s * s) c then 50 else 0)]) := by kernel_rfl
theorem ok_rCoarse (a b c s : Int) : SemF Tryd.prog Γ 27 [.agg [.si .i64 a, .si .i64 b, .si .i64 c], .si .i64 s] [] [] (rv (coarse a b c s)) [] [] := by
  have nf := nf_rCoarse a b c s
  cases hg : given a b c with
  | false =>
    simp only [hg, Bool.not_false, cond_true, Bool.true_or] at nf
    exact SemF.of_evK o31 mixed lo27_ok nf rfl (by simp [coarse, hg, rv, am, bad])
  | true =>
    have b1 := given_bd hg
    by_cases hs : isStep s = true
    · have hs' := hs
      simp only [isStep, decide_eq_true_eq] at hs'
      have e1 : (bif !given a b c then true else bif s != 1 then bif s != 10 then bif s != 100 then bif s != 1000 then s != 10000 else false else false else false else false) = false := by
        rw [hg]
        rcases hs' with rfl | rfl | rfl | rfl | rfl <;> rfl
      have l : IntKind.i64.wrap (a - a.tmod s) = a / s * s := by
        rw [Int.tmod_eq_emod_of_nonneg b1.1]
        have d := Int.mul_ediv_add_emod a s
        have p := Int.emod_nonneg a (show s ≠ 0 by omega)
        have q := Int.mul_nonneg (Int.ediv_nonneg b1.1 (show 0 ≤ s by omega)) (show 0 ≤ s by omega)
        rw [Int.mul_comm] at d
        rw [wrap_id (by omega) (by omega)]
        omega
      rw [hg] at e1
      simp only [hg, e1, l, cond_false, Bool.false_or] at nf
      refine SemF.of_evK o31 mixed lo27_ok nf ?_ ?_
      · simp
        omega
      · simp only [coarse, hg, hs, Bool.and_self, if_true, checked, rv, am]
        cases hq : given (a / s * s) ((b + s - 1) / s * s) c <;> simp [bad]
    · have e1 : (bif !given a b c then true else bif s != 1 then bif s != 10 then bif s != 100 then bif s != 1000 then s != 10000 else false else false else false else false) = true := by
        rw [hg]
        simp only [isStep, decide_eq_true_eq] at hs
        simp [Bool.cond_eq_ite]
        omega
      rw [hg] at e1
      simp only [hg, e1, cond_true, Bool.true_or] at nf
      exact SemF.of_evK o31 mixed lo27_ok nf rfl (by simp [coarse, hg, hs, rv, am, bad])
def g_rCoarse : List V → Option (Option Bool × V)
  | [.agg [.si .i64 a, .si .i64 b, .si .i64 c], .si .i64 s] => some (none, rv (coarse a b c s))
  | _ => none
def orc32 : Orc := fun f args => if f = 27 then g_rCoarse args else orc31 f args
theorem o32 : OrcOk Tryd.prog Γ orc32 := OrcOk.cons o31 27 g_rCoarse _ Tryd.func27 (by kernel_rfl) (by kernel_rfl) (fun args c v h hc => by
  unfold g_rCoarse at h
  split at h
  · cases h; exact ok_rCoarse _ _ _ _
  · cases h)
noncomputable def trK (lv : List Nat) (f : FuncId) (args : List V) : Tr (V × St) := evFJ Tryd.prog Γ (cfD Tryd.prog Γ orc32 60 8) lv 60 f args [] []
end U
end Go.Proofs.YtblnabilodbceaaDoor
