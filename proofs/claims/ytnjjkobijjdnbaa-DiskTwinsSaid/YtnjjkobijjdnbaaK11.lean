/- Package disk: DiskReadsBack answers true. -/
import Derived.Test.YtnjjkobijjdnbaaK10
set_option linter.unusedVariables false
set_option linter.unusedSimpArgs false
set_option maxRecDepth 100000
set_option maxHeartbeats 4000000
namespace Go.Proofs.Ytnjjkobijjdnbaa
open Go
namespace D
/-- A size from 1 to m. -/
def sz (n m : Int) : Int := IntKind.i64.wrap (1 + pickD n m)
theorem sz_in {n m : Int} (h : 0 < m) (h2 : m ≤ 1000) : 1 ≤ sz n m ∧ sz n m ≤ m := by
  have := pickD_lt (k := n) h
  unfold sz
  rw [wrap_in (by omega) (by omega)]
  omega
theorem rb_run (n : Int) (l : List (Ty.den wt)) : run cfgS 6 [.si .i64 n, .slst .ro wt l] = .ok (some (inr n && decide ((300 : Int) ≠ 0) && (!decide (sz n 300 < 1) && (some (!decide (sz n 300 > 4194304) && (some (decide (0 ≤ sz n 300 ∧ sz n 300 ≤ sz n 300 ∧ 1 * sz n 300 ≤ 281474976710656 ∧ sz n 300 ≤ 9223372036854775807) && (some (decide (0 ≤ sz n 300 ∧ sz n 300 ≤ sz n 300 ∧ 1 * sz n 300 ≤ 281474976710656 ∧ sz n 300 ≤ 9223372036854775807) && true)).getD true)).getD true)).getD true && (decide (0 ≤ sz n 300 ∧ sz n 300 ≤ sz n 300 ∧ 1 * sz n 300 ≤ 281474976710656 ∧ sz n 300 ≤ 9223372036854775807) && (decide ((sz n 300).toNat = (sz n 300).toNat ∧ (sz n 300).toNat = (sz n 300).toNat ∧ (sz n 300).toNat = (sz n 300).toNat ∧ 1 ≤ sz n 300 ∧ sz n 300 ≤ 300 ∧ (List.replicate (sz n 300).toNat (0 : Int)).length = (sz n 300).toNat ∧ (List.replicate (sz n 300).toNat (0 : Int)).length = (sz n 300).toNat) && eqL (List.replicate (sz n 300).toNat (0 : Int)) (List.replicate (sz n 300).toNat (0 : Int)) && (show List (Ty.den wt) from l).all fun w => inr (wO w)))))) (V.b true) := by kernel_rfl
theorem law6 (n : Int) (l : List (Ty.den wt)) (hn : inr n = true) (hl : ∀ w ∈ l, inr (wO w) = true) : SemF Try.prog G0 6 [.si .i64 n, .slst .ro wt l] [] [] (.sb true) [] [] := by
  have : SemF Try.prog G0 6 [.si .i64 n, .slst .ro wt l] [] [] (.b true) [] [] := by
    refine of_run cfgS_ok (rb_run n l) ?_ rfl
    obtain ⟨h1, h2⟩ := sz_in (n := n) (m := 300) (by decide) (by decide)
    generalize sz n 300 = N at *
    have e1 : decide (N < 1) = false := decide_eq_false (by omega)
    have e2 : decide (N > 4194304) = false := decide_eq_false (by omega)
    have e3 : decide (0 ≤ N ∧ N ≤ N ∧ 1 * N ≤ 281474976710656 ∧ N ≤ 9223372036854775807) = true := decide_eq_true ⟨by omega, by omega, by omega, by omega⟩
    have e4 : (show List (Ty.den wt) from l).all (fun w => inr (wO w)) = true := List.all_eq_true.2 hl
    have e5 : eqL (List.replicate N.toNat (0 : Int)) (List.replicate N.toNat (0 : Int)) = true := decide_eq_true rfl
    rw [hn, e1, e2, e3, e4, e5, List.length_replicate]
    have e6 : decide (N.toNat = N.toNat ∧ N.toNat = N.toNat ∧ N.toNat = N.toNat ∧ 1 ≤ N ∧ N ≤ 300 ∧ N.toNat = N.toNat ∧ N.toNat = N.toNat) = true := decide_eq_true ⟨rfl, rfl, rfl, h1, h2, rfl, rfl⟩
    rw [e6]
    rfl
  exact this.weaken fun G cv h => by cases h; exact .sb _
end D
end Go.Proofs.Ytnjjkobijjdnbaa
