/- Package disk: DiskSynced answers true. -/
import Derived.Test.YtnjjkobijjdnbaaK13
set_option linter.unusedVariables false
set_option linter.unusedSimpArgs false
set_option maxRecDepth 100000
set_option maxHeartbeats 4000000
namespace Go.Proofs.Ytnjjkobijjdnbaa
open Go
namespace D
/-- What New and make ask for. -/
def mkOk (N : Int) : Bool := decide (0 ≤ N ∧ N ≤ N ∧ 1 * N ≤ 281474976710656 ∧ N ≤ 9223372036854775807)
def newOk (N : Int) : Bool := !decide (N < 1) && (some (!decide (N > 4194304) && (some (mkOk N && (some (mkOk N && true)).getD true)).getD true)).getD true
theorem mkOk_true {N : Int} (h1 : 1 ≤ N) (h2 : N ≤ 1000) : mkOk N = true := decide_eq_true ⟨by omega, by omega, by omega, by omega⟩
theorem newOk_true {N : Int} (h1 : 1 ≤ N) (h2 : N ≤ 1000) : newOk N = true := by
  unfold newOk
  rw [mkOk_true h1 h2, decide_eq_false (show ¬ N < 1 by omega), decide_eq_false (show ¬ N > 4194304 by omega)]
  rfl
def rep (N : Int) : List Int := List.replicate N.toNat 0
theorem rep_len (N : Int) : (rep N).length = N.toNat := List.length_replicate
/-- What the loop's entry asks for. -/
def entOk (N : Int) (b dur : List Int) : Bool := decide (N.toNat = N.toNat ∧ N.toNat = N.toNat ∧ N.toNat = N.toNat ∧ 1 ≤ N ∧ N ≤ 300 ∧ b.length = N.toNat ∧ dur.length = N.toNat)
theorem entOk_true {N : Int} {b dur : List Int} (h1 : 1 ≤ N) (h2 : N ≤ 300) (h3 : b.length = N.toNat) (h4 : dur.length = N.toNat) : entOk N b dur = true := decide_eq_true ⟨rfl, rfl, rfl, h1, h2, h3, h4⟩
def cSl (m : Nat) : Bool := decide ((0 : Int) ≤ 0 ∧ 0 ≤ Bd.hi (some (IntKind.i64, 0, false)) m ∧ Bd.hi (some (IntKind.i64, 0, false)) m ≤ (m : Int)) && true && true
theorem cSl_true (m : Nat) : cSl m = true := by
  unfold cSl
  rw [decide_eq_true (by simp only [Bd.hi]; omega)]; rfl
def rdOk (dur vis : List Int) (n : Int) : Bool := decide (0 ≤ n ∧ n ≤ ((part dur n).length : Int) ∧ n ≤ ((part vis n).length : Int) ∧ (part dur n).length ≤ 4194304)
theorem rdOk_true {dur vis : List Int} {n : Int} (hn : 0 ≤ n) (hn2 : n ≤ 1000) (hd : dur.length = n.toNat) (hb : vis.length = n.toNat) : rdOk dur vis n = true := by
  unfold rdOk
  rw [part_all hd, part_all hb]
  exact decide_eq_true ⟨hn, by omega, by omega, by omega⟩
noncomputable def zz (n k : Int) (l : List (Ty.den wt)) : ZS := zS (sz n 300) k l (rep (sz n 300)) (rep (sz n 300))
theorem s_run (n k : Int) (l : List (Ty.den wt)) : run cfgT 7 [.si .i64 n, .slst .ro wt l, .si .i64 k] =
  .ok (some (inr n && decide ((300 : Int) ≠ 0) && (newOk (sz n 300) && (mkOk (sz n 300) && ((entOk (sz n 300) (rep (sz n 300)) (rep (sz n 300)) && (eqL (rep (sz n 300)) (rep (sz n 300)) && (eqB (strOfNums (part (rep (sz n 300)) (sz n 300))) (strOfNums (rep (sz n 300))) && (show List (Ty.den wt) from l).all fun w => inr (wO w)))) && (cSl (zz n k l).m && rdOk (zz n k l).dur (durS (zz n k l).vis (zz n k l).dur (sz n 300)) (sz n 300)))))))
    (.sb (bif true then bif (strOfNums (List.take (sz n 300).toNat (part (durS (zz n k l).vis (zz n k l).dur (sz n 300)) (sz n 300)))).toList == (strOfNums (zz n k l).dur).toList then ((0 : Nat) : Int) == (0 : Int) else false else false)) := by kernel_rfl
theorem law7 (n k : Int) (l : List (Ty.den wt)) (hn : inr n = true) (hl : ∀ w ∈ l, inr (wO w) = true) : SemF Try.prog G0 7 [.si .i64 n, .slst .ro wt l, .si .i64 k] [] [] (.sb true) [] [] := by
  obtain ⟨h1, h2⟩ := sz_in (n := n) (m := 300) (by decide) (by decide)
  have hz := (zS_ok (torn := k) (b := rep (sz n 300)) (dur := rep (sz n 300)) h1 h2 hl (rep_len _) (rep_len _)).1
  have hz : (zz n k l).dur.length = (sz n 300).toNat ∧ (zz n k l).vis.length = (sz n 300).toNat ∧ (zz n k l).m ≤ 60 := hz
  have hv : durS (zz n k l).vis (zz n k l).dur (sz n 300) = (zz n k l).dur := by
    unfold durS
    rw [part_all hz.1]
    exact cpy_all hz.2.1 hz.1
  have e4 : (show List (Ty.den wt) from l).all (fun w => inr (wO w)) = true := List.all_eq_true.2 hl
  refine of_run cfgT_ok (s_run n k l) ?_ ?_
  · rw [hv, hn, newOk_true h1 (by omega), mkOk_true h1 (by omega), entOk_true h1 h2 (rep_len _) (rep_len _), part_all (rep_len _), cSl_true, rdOk_true (by omega) (by omega) hz.1 hz.1, e4, show eqL (rep (sz n 300)) (rep (sz n 300)) = true from decide_eq_true rfl, show eqB (strOfNums (rep (sz n 300))) (strOfNums (rep (sz n 300))) = true from decide_eq_true rfl]
    rfl
  · rw [hv, part_all hz.1, ← hz.1, List.take_length]
    simp
end D
end Go.Proofs.Ytnjjkobijjdnbaa
