/- Package disk: DiskTwins answers true. -/
import Derived.Test.YtnjjkobijjdnbaaK17
set_option linter.unusedVariables false
set_option linter.unusedSimpArgs false
set_option maxRecDepth 100000
set_option maxHeartbeats 4000000
namespace Go.Proofs.Ytnjjkobijjdnbaa
open Go
namespace D
noncomputable def zt (n : Int) (l : List (Ty.den wt)) : DS × DS := zW (sz n 100) l (rep (sz n 100)) (rep (sz n 100)) (rep (sz n 100)) (rep (sz n 100))
def entW (N : Int) (a b c d : List Int) : Bool := decide (N.toNat = N.toNat ∧ N.toNat = N.toNat ∧ N.toNat = N.toNat ∧ N.toNat = N.toNat ∧ N.toNat = N.toNat ∧ N.toNat = N.toNat ∧ 1 ≤ N ∧ N ≤ 300 ∧ a.length = N.toNat ∧ b.length = N.toNat ∧ c.length = N.toNat ∧ d.length = N.toNat)
def rdV (s : DS) (n : Int) : ByteArray := strOfNums (List.take n.toNat (part s.vis n))
theorem w_run (n : Int) (l : List (Ty.den wt)) : run cfgW 11 [.si .i64 n, .slst .ro wt l] =
  .ok (some (inr n && decide ((100 : Int) ≠ 0) && (newOk (sz n 100) && (newOk (sz n 100) && (newOk (sz n 100) && ((entW (sz n 100) (rep (sz n 100)) (rep (sz n 100)) (rep (sz n 100)) (rep (sz n 100)) && (eqL (rep (sz n 100)) (rep (sz n 100)) && (eqL (rep (sz n 100)) (rep (sz n 100)) && (show List (Ty.den wt) from l).all fun w => inr (wO w)))) && (rdOk (zt n l).1.dur (zt n l).1.vis (sz n 100) && rdOk (zt n l).2.dur (zt n l).2.vis (sz n 100))))))))
    (.sb (bif true then bif true then bif (rdV (zt n l).1 (sz n 100)).toList == (rdV (zt n l).2 (sz n 100)).toList then ((List.take (zt n l).1.m (List.drop 0 (zt n l).1.q)).length : Int) == ((List.take (zt n l).2.m (List.drop 0 (zt n l).2.q)).length : Int) else false else false else false)) := by kernel_rfl
theorem law11 (n : Int) (l : List (Ty.den wt)) (hn : inr n = true) (hl : ∀ w ∈ l, inr (wO w) = true) : SemF Try.prog G0 11 [.si .i64 n, .slst .ro wt l] [] [] (.sb true) [] [] := by
  obtain ⟨h1, h2⟩ := sz_in (n := n) (m := 100) (by decide) (by decide)
  have hz : PostW (sz n 100) (zt n l) := (zW_ok (x := rep (sz n 100)) (y := rep (sz n 100)) (dx := rep (sz n 100)) (dy := rep (sz n 100)) h1 (by omega) hl (rep_len _) (rep_len _) (rep_len _) (rep_len _)).1
  obtain ⟨z1, z2, z3⟩ := hz
  have z3 : (zt n l).1 = (zt n l).2 := z3
  have e4 : (show List (Ty.den wt) from l).all (fun w => inr (wO w)) = true := List.all_eq_true.2 hl
  refine of_run cfgW_ok (w_run n l) ?_ ?_
  · rw [hn, newOk_true h1 (by omega), show entW (sz n 100) (rep (sz n 100)) (rep (sz n 100)) (rep (sz n 100)) (rep (sz n 100)) = true from decide_eq_true ⟨rfl, rfl, rfl, rfl, rfl, rfl, h1, by omega, rep_len _, rep_len _, rep_len _, rep_len _⟩, rdOk_true (by omega) (by omega) z1.1 z1.2, rdOk_true (by omega) (by omega) z2.1 z2.2, e4, show eqL (rep (sz n 100)) (rep (sz n 100)) = true from decide_eq_true rfl]
    rfl
  · rw [z3]
    simp
end D
end Go.Proofs.Ytnjjkobijjdnbaa
