/- Package disk: New and the nil disk: the laws answer true. -/
import Derived.Test.YtnjjkobijjdnbaaK3
set_option linter.unusedVariables false
set_option linter.unusedSimpArgs false
set_option maxRecDepth 100000
set_option maxHeartbeats 4000000
namespace Go.Proofs.Ytnjjkobijjdnbaa
open Go
namespace D
theorem law3 (n k : Int) (hk : inr k = true) : SemF Try.prog G0 3 [.si .i64 n, .si .i64 k] [] [] (.sb true) [] [] := by
  by_cases h1 : n < 1
  · exact of_run (cfg_ok orc1_ok) (new_run1 n k) (by simp [h1]) (by simp [h1])
  · by_cases h2 : n > 4194304
    · exact of_run (cfg_ok orc1_ok) (new_run2 n k) (by simp [h1, h2]) (by simp [h1, h2])
    · obtain ⟨r1, r2⟩ := pickD_lt (k := k) (n := n) (by omega)
      have hL : List.take n.toNat (List.drop 0 (List.replicate n.toNat (0 : Int))) = List.replicate n.toNat (0 : Int) := by simp
      have hw : IntKind.i64.wrap ((Nat.cast n.toNat : Int) - pickD k n) = n - pickD k n := by
        rw [wrap_in (by omega) (by omega)]; omega
      have hs : List.drop (pickD k n).toNat (List.replicate n.toNat (0 : Int)) = List.replicate (n.toNat - (pickD k n).toNat) (0 : Int) := by simp
      have h0 : ¬ n = 0 := by omega
      have h3 : (Nat.cast n.toNat : Int) = n := by omega
      have hin : inr k = true := hk
      generalize hr : pickD k n = r at *
      have hto : (List.take 1 (List.replicate (n.toNat - r.toNat) (0 : Int))) = [0] := by
        obtain ⟨m, hm⟩ : ∃ m, n.toNat - r.toNat = m + 1 := ⟨n.toNat - r.toNat - 1, by omega⟩
        rw [hm]; rfl
      refine of_run (cfg_ok orc1_ok) (new_run3 n k) ?_ ?_
      · rw [hr]
        simp only [hL, Bd.lo, Bd.hi, List.length_replicate, List.take_replicate, Nat.min_self, hs, hw, h3, hin]
        simp [h0, hs, h3]
        omega
      · rw [hr]
        simp only [hL, Bd.lo, Bd.hi, List.length_replicate, List.take_replicate, Nat.min_self, hs, hw, h3, hin]
        have hw' : IntKind.i64.wrap (n - r) = n - r := wrap_in (by omega) (by omega)
        have a1 : decide (0 ≤ r) = true := by simp; omega
        have a2 : decide (r ≤ n) = true := by simp; omega
        have a3 : decide (1 ≤ n - r) = true := by simp; omega
        have a4 : min 1 (n.toNat - r.toNat) = 1 := by omega
        have a5 : (strOfNums (List.replicate 1 0)).toList = [0] := by kernel_rfl
        simp [h1, h2, hw', a1, a2, a3, a4]
        exact a5
theorem law5 (n k : Int) (s : ByteArray) (l : List Int) : SemF Try.prog G0 5 [.si .i64 n, .si .i64 k, .ss s, .slst .ro (.int .i64) l] [] [] (.sb true) [] [] := by
  have : SemF Try.prog G0 5 [.si .i64 n, .si .i64 k, .ss s, .slst .ro (.int .i64) l] [] [] (.b true) [] [] := by
    refine of_run (cfg_ok orc1_ok) (nil_run n k s l) ?_ rfl
    rw [Option.getD_some, Bool.and_eq_true, decide_eq_true_eq, decide_eq_true_eq]
    simp only [Bd.hi]
    refine ⟨⟨by omega, ?_, ?_⟩, by omega, ?_, ?_⟩ <;> split <;> omega
  exact this.weaken fun G cv h => by cases h; exact .sb _
end D
end Go.Proofs.Ytnjjkobijjdnbaa
