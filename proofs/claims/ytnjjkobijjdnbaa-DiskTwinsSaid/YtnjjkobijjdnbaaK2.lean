/- Package disk: an index out of any number; a new disk. -/
import Derived.Test.YtnjjkobijjdnbaaK1
set_option linter.unusedVariables false
set_option linter.unusedSimpArgs false
set_option maxRecDepth 100000
set_option maxHeartbeats 4000000
namespace Go.Proofs.Ytnjjkobijjdnbaa
open Go
namespace D
def inr (n : Int) : Bool := decide (-9223372036854775808 ≤ n ∧ n ≤ 9223372036854775807)
theorem wrap_in {n : Int} (h1 : -9223372036854775808 ≤ n) (h2 : n ≤ 9223372036854775807) : IntKind.i64.wrap n = n := by
  have e1 : (2 : Int) ^ 64 = 18446744073709551616 := rfl
  have e2 : (2 : Int) ^ (64 - 1) = 9223372036854775808 := rfl
  simp only [IntKind.wrap, IntKind.signed, IntKind.bits, Bool.true_and, decide_eq_true_eq, e1, e2]
  split <;> omega
/-- An index from 0 to n-1. -/
def pickD (k n : Int) : Int := if k < 0 then (-(k + 1)).tmod n else k.tmod n
theorem pickD_lt {k n : Int} (h : 0 < n) : 0 ≤ pickD k n ∧ pickD k n < n := by
  unfold pickD
  split
  · exact ⟨Int.tmod_nonneg _ (by omega), Int.tmod_lt_of_pos _ h⟩
  · exact ⟨Int.tmod_nonneg _ (by omega), Int.tmod_lt_of_pos _ h⟩
theorem pick_run (k n : Int) : run (cfg none0 fun _ _ => none) 15 [.si .i64 k, .si .i64 n] = .ok (some (bif decide (k < 0) then decide (n ≠ 0) else decide (n ≠ 0))) (.si .i64 (bif decide (k < 0) then (IntKind.i64.wrap (0 - IntKind.i64.wrap (k + 1))).tmod n else k.tmod n)) := by kernel_rfl
theorem pick_ok (k n : Int) (hk : inr k = true) (hn : n ≠ 0) : SemF Try.prog G0 15 [.si .i64 k, .si .i64 n] [] [] (.si .i64 (pickD k n)) [] [] := by
  refine of_run (cfg_ok none0_ok) (pick_run k n) (by simp [hn]) ?_
  have hk := of_decide_eq_true hk
  unfold pickD
  by_cases h : k < 0
  · rw [wrap_in (n := k + 1) (by omega) (by omega), wrap_in (by omega) (by omega)]
    simp [h, Int.neg_add]
  · simp [h]
def pickE (k n : Int) : Option Bool × V := (some (inr k && decide (n ≠ 0)), .si .i64 (pickD k n))
theorem pick_of (k n : Int) (h : (pickE k n).1.getD true = true) : SemF Try.prog G0 15 [.si .i64 k, .si .i64 n] [] [] (pickE k n).2 [] [] := by
  have h : (inr k && decide (n ≠ 0)) = true := h
  simp only [Bool.and_eq_true, decide_eq_true_eq] at h
  exact pick_ok k n h.1 h.2
/-- The table with 'sane' and 'pick'. -/
noncomputable def orc1 : Orc := fun f args => if f = 15 then (Ty.ofVs [.int .i64, .int .i64] args).map (fun x => pickE x.1 x.2.1) else (fun f args => if f = 12 then (Ty.ofVs [] args).map (fun _ => (none, .b true)) else none0 f args) f args
theorem orc1_ok : OrcOk Try.prog G0 orc1 :=
  (none0_ok.plain 12 [] (fun _ => (none, .b true)) Try.f12 Try.func12 rfl (by kernel_rfl) (fun x _ => sane_ok)).plain 15 [.int .i64, .int .i64] (fun x => pickE x.1 x.2.1) Try.f15 Try.func15 rfl (by kernel_rfl)
    (fun ⟨k, n, _⟩ hx => pick_of k n hx)
end D
end Go.Proofs.Ytnjjkobijjdnbaa
