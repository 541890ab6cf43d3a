/- Package disk: a crash that the first so many writes survive, reckoned for each number of them. Written by wip/disk/crash.py. -/
import Derived.Test.YtnjjkobijjdnbaaM10j
set_option linter.unusedVariables false
set_option linter.unusedSimpArgs false
set_option maxRecDepth 100000
set_option maxHeartbeats 8000000
namespace Go.Proofs.Ytnjjkobijjdnbaa
open Go
namespace D
noncomputable def cfgK : Cfg := { cfg orc2 (fun _ _ => none) with mem := fun f => (42 :: 48 :: mems).any (Nat.beq f) }
theorem cfgK_ok : CfgOk Try.prog G0 cfgK := { cfg_ok (wy := fun _ _ => none) orc2_ok with }
/-- The numbers from 0 on. -/
def ks (m : Nat) : List V := (List.range m).map fun i => .i .i64 (i : Nat)
noncomputable def crash (m : Nat) (n lf : Int) (dur vis b : List Int) (q : List (Ty.den wp)) : MR := mergeM 1 5 (evFK Try.prog G0 (cfM Try.prog G0 cfgK 30) (cfgK.lo) [] 400 25 [.ptr 0 0, .bs false 1 0 m, .i .i64 (-1)] [some [.b true, .si .i64 lf, .bs true 2 0 n.toNat, .bs true 3 0 n.toNat, .bs false 4 0 m]] [u8 b, some (.live (.cs 1 (ks m))), u8 dur, u8 vis, pq q])
/-- A pending write's parts. -/
def pO (q : List (Ty.den wp)) (i : Nat) : Int := (show Int × ByteArray × Unit from q.getD i wp.dflt).1
def pS (q : List (Ty.den wp)) (i : Nat) : ByteArray := (show Int × ByteArray × Unit from q.getD i wp.dflt).2.1
/-- What the writes from i on ask for; what they make of a content. -/
def cC (q : List (Ty.den wp)) (n : Int) : Nat → Nat → Option Bool
  | _, 0 => none
  | i, r + 1 => some (decide (i < q.length) && (some (decide (0 ≤ pO q i ∧ pO q i ≤ Bd.hi none n.toNat ∧ Bd.hi none n.toNat ≤ (n.toNat : Int)) && true && (cC q n (i + 1) r).getD true)).getD true)
def durC (q : List (Ty.den wp)) (n : Int) : Nat → Nat → List Int → List Int
  | _, 0, d => d
  | i, r + 1, d => durC q n (i + 1) r (cpy d (pO q i).toNat n.toNat (bytesOf (pS q i)))
/-- What a crash leaves. -/
def crashE (m : Nat) (n lf : Int) (dur vis b : List Int) (q : List (Ty.den wp)) : MR := .ok (cC q n 0 m) (.i .i64 0) [some [.b false, .i .i64 0, .bs true 2 0 n.toNat, .bs true 3 0 n.toNat, .bs false 4 0 0]] [u8 b, some (.live (.cs 1 (ks m))), u8 (durC q n 0 m dur), u8 (durS vis (durC q n 0 m dur) n), pq (qS q m)]
theorem crash_0 (n lf : Int) (dur vis b : List Int) (q : List (Ty.den wp)) : crash 0 n lf dur vis b q = crashE 0 n lf dur vis b q := by kernel_rfl
theorem crash_1 (n lf : Int) (dur vis b : List Int) (q : List (Ty.den wp)) : crash 1 n lf dur vis b q = crashE 1 n lf dur vis b q := by kernel_rfl
theorem crash_2 (n lf : Int) (dur vis b : List Int) (q : List (Ty.den wp)) : crash 2 n lf dur vis b q = crashE 2 n lf dur vis b q := by kernel_rfl
theorem crash_3 (n lf : Int) (dur vis b : List Int) (q : List (Ty.den wp)) : crash 3 n lf dur vis b q = crashE 3 n lf dur vis b q := by kernel_rfl
theorem crash_4 (n lf : Int) (dur vis b : List Int) (q : List (Ty.den wp)) : crash 4 n lf dur vis b q = crashE 4 n lf dur vis b q := by kernel_rfl
theorem crash_5 (n lf : Int) (dur vis b : List Int) (q : List (Ty.den wp)) : crash 5 n lf dur vis b q = crashE 5 n lf dur vis b q := by kernel_rfl
theorem crash_6 (n lf : Int) (dur vis b : List Int) (q : List (Ty.den wp)) : crash 6 n lf dur vis b q = crashE 6 n lf dur vis b q := by kernel_rfl
theorem crash_7 (n lf : Int) (dur vis b : List Int) (q : List (Ty.den wp)) : crash 7 n lf dur vis b q = crashE 7 n lf dur vis b q := by kernel_rfl
theorem crash_8 (n lf : Int) (dur vis b : List Int) (q : List (Ty.den wp)) : crash 8 n lf dur vis b q = crashE 8 n lf dur vis b q := by kernel_rfl
end D
end Go.Proofs.Ytnjjkobijjdnbaa

