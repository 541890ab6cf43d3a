/- Package disk: a round of the loop of DiskReadsBack, reckoned. -/
import Derived.Test.YtnjjkobijjdnbaaK7
set_option linter.unusedVariables false
set_option linter.unusedSimpArgs false
set_option maxRecDepth 100000
set_option maxHeartbeats 8000000
namespace Go.Proofs.Ytnjjkobijjdnbaa
open Go
namespace D
/-- With put's loop taken as its entry says. -/
noncomputable def cfgR (wy : FuncId → List V → Option (List Bool)) : Cfg := { cfg orc2 wy with lo := lo1, mem := fun f => (27 :: mems).any (Nat.beq f) }
theorem cfgR_ok (wy : FuncId → List V → Option (List Bool)) : CfgOk Try.prog G0 (cfgR wy) := { cfg_ok (wy := wy) orc2_ok with lo := lo1_ok }
/-- A write's parts. -/
def wO (w : Ty.den wt) : Int := (show Int × ByteArray × Bool × Unit from w).1
def wS (w : Ty.den wt) : ByteArray := (show Int × ByteArray × Bool × Unit from w).2.1
def wY (w : Ty.den wt) : Bool := (show Int × ByteArray × Bool × Unit from w).2.2.1
def mkP (o : Int) (s : ByteArray) : Ty.den wp := (show Int × ByteArray × Unit from (o, s, ()))
/-- What a content is behind a copy. -/
def cpy {α : Type} (v : List α) (o len : Nat) (y : List α) : List α :=
  List.take (0 + o) (List.drop 0 v) ++ List.take (Nat.min y.length (len - o)) (List.drop 0 y) ++ List.take (v.length - (0 + o + Nat.min y.length (len - o))) (List.drop (0 + o + Nat.min y.length (len - o)) v)
/-- The contents behind a write; behind a Sync. -/
def visW (vis : List Int) (n : Int) (w : Ty.den wt) : List Int := cpy vis (fo (wO w) n).toNat n.toNat (bytesOf (fs (wS w) (wO w) n))
def bW (b : List Int) (n : Int) (w : Ty.den wt) : List Int := putN b (fo (wO w) n).toNat (fs (wS w) (wO w) n) (fs (wS w) (wO w) n).size
def qW (q : List (Ty.den wp)) (m : Nat) (n : Int) (w : Ty.den wt) : List (Ty.den wp) := List.take m (List.drop 0 q) ++ [mkP (fo (wO w) n) (fs (wS w) (wO w) n)]
def part (v : List Int) (n : Int) : List Int := List.take n.toNat (List.drop 0 v)
def durS (dur vis : List Int) (n : Int) : List Int := cpy dur 0 n.toNat (part vis n)
def qS (q : List (Ty.den wp)) (m : Nat) : List (Ty.den wp) := List.take 0 (List.drop 0 q) ++ List.take m (List.drop 0 (List.replicate m wp.dflt)) ++ List.take (q.length - (0 + m)) (List.drop (0 + m) q)
/-- At the head of the law's loop. -/
noncomputable def hd (n i : Int) (dur vis b : List Int) (q : List (Ty.den wp)) (m : Nat) (l : List (Ty.den wt)) : St := St.of 79 [0, 1, 5, 6, 8, 9] [.si .i64 n, .slst .ro wt l, .b true, .ptr 0 0, .bs true 0 0 n.toNat, .si .i64 i]
  [some [.b false, .i .i64 0, .bs true 1 0 n.toNat, .bs true 2 0 n.toNat, .bs true 3 0 m]] [some (.live (.arr (.int .u8) b)), some (.live (.arr (.int .u8) dur)), some (.live (.arr (.int .u8) vis)), some (.live (.arr wp q))]
def lve : Ex → List Nat | .normal => [0, 1, 5, 6, 8, 9] | _ => [5]
def wy6 : FuncId → List V → Option (List Bool) := fun f _ => match Nat.beq f 21 with | true => some [false, true, true] | false => none
noncomputable def rnd (n i : Int) (dur vis b : List Int) (q : List (Ty.den wp)) (m : Nat) (l : List (Ty.den wt)) := outa lve (evCK Try.prog G0 (cfM Try.prog G0 (cfgR wy6) 30) ((cfgR wy6).lo 6) [] 60 1 (lp 6 0) (hd n i dur vis b q m l))
def dsA : List Bool := [true, true, true, true, true, true, false, true, false, false]
def dsB : List Bool := [true, true, true, true, true, true, true, true, true, false, false]
/-- What a write asks for. -/
def cW (dur b : List Int) (m : Nat) (n : Int) (o : Int) (s : ByteArray) : List Bool :=
  [decide (0 ≤ o ∧ o + (s.size : Int) ≤ (n.toNat : Int) ∧ n.toNat ≤ b.length ∧ n.toNat ≤ 4194304) && true,
   (!(!(bif decide (o ≥ 0) then bif decide ((s.size : Int) ≥ 0) then bif decide (o ≤ ((part dur n).length : Int)) then decide ((s.size : Int) ≤ IntKind.i64.wrap (((part dur n).length : Int) - o)) else false else false else false))) &&
     (some (decide ((m + 1) * 2 * 24 ≤ 281474976710656) && (some (decide (0 ≤ o ∧ o ≤ Bd.hi none n.toNat ∧ Bd.hi none n.toNat ≤ (n.toNat : Int)) && true && true)).getD true)).getD true]
def cR (dur vis b : List Int) (n : Int) : List Bool :=
  [decide (0 ≤ n ∧ n ≤ ((part dur n).length : Int) ∧ n ≤ ((part vis n).length : Int) ∧ (part dur n).length ≤ 4194304), false, !((strOfNums (List.take n.toNat (part vis n))).toList == (strOfNums (part b n)).toList)]
section
variable (n i : Int) (dur vis b : List Int) (q : List (Ty.den wp)) (m : Nat) (l : List (Ty.den wt))
theorem rnd_A : (rnd n i dur vis b q m l).path dsA = some (.normal, [.si .i64 n, .slst .ro wt l, .b true, .ptr 0 0, .bs true 0 0 n.toNat, .si .i64 (IntKind.i64.wrap (i + 1))],
  [some [.b false, .i .i64 0, .bs true 1 0 n.toNat, .bs true 2 0 n.toNat, .bs true 3 0 (m + 1)]], [some (.live (.arr (.int .u8) (bW b n (l.getD i.toNat wt.dflt)))), some (.live (.arr (.int .u8) dur)), some (.live (.arr (.int .u8) (visW vis n (l.getD i.toNat wt.dflt)))), some (.live (.arr wp (qW q m n (l.getD i.toNat wt.dflt))))], 79, 0, 0) := by kernel_rfl
theorem rnd_B : (rnd n i dur vis b q m l).path dsB = some (.normal, [.si .i64 n, .slst .ro wt l, .b true, .ptr 0 0, .bs true 0 0 n.toNat, .si .i64 (IntKind.i64.wrap (i + 1))],
  [some [.b false, .i .i64 0, .bs true 1 0 n.toNat, .bs true 2 0 n.toNat, .bs true 3 0 0]], [some (.live (.arr (.int .u8) (bW b n (l.getD i.toNat wt.dflt)))), some (.live (.arr (.int .u8) (durS dur (visW vis n (l.getD i.toNat wt.dflt)) n))), some (.live (.arr (.int .u8) (visW vis n (l.getD i.toNat wt.dflt)))), some (.live (.arr wp (qS (qW q m n (l.getD i.toNat wt.dflt)) (m + 1))))], 79, 0, 0) := by kernel_rfl
theorem rnd_E : (rnd n i dur vis b q m l).path [false] = some (.exit 0, [.b true], [], [], 79, 0, 0) := by kernel_rfl
theorem rnd_F : (rnd n i dur vis b q m l).path [true, false] = some (.exit 0, [.b true], [], [], 79, 0, 0) := by kernel_rfl
theorem rnd_EC : (rnd n i dur vis b q m l).conds [false] = [decide (i < (l.length : Int))] := by kernel_rfl
theorem rnd_FC : (rnd n i dur vis b q m l).conds [true, false] = [decide (i < (l.length : Int)), decide (i < 60)] := by kernel_rfl
theorem rnd_AC : (rnd n i dur vis b q m l).conds dsA = [decide (i < (l.length : Int)), decide (i < 60), decide (0 ≤ i ∧ i < (l.length : Int)), inr (wO (l.getD i.toNat wt.dflt)) && decide (0 ≤ n ∧ n ≤ 4194304)] ++
  cW dur b m n (fo (wO (l.getD i.toNat wt.dflt)) n) (fs (wS (l.getD i.toNat wt.dflt)) (wO (l.getD i.toNat wt.dflt)) n) ++ [wY (l.getD i.toNat wt.dflt)] ++ cR dur (visW vis n (l.getD i.toNat wt.dflt)) (bW b n (l.getD i.toNat wt.dflt)) n := by kernel_rfl
theorem rnd_BC : (rnd n i dur vis b q m l).conds dsB = [decide (i < (l.length : Int)), decide (i < 60), decide (0 ≤ i ∧ i < (l.length : Int)), inr (wO (l.getD i.toNat wt.dflt)) && decide (0 ≤ n ∧ n ≤ 4194304)] ++
  cW dur b m n (fo (wO (l.getD i.toNat wt.dflt)) n) (fs (wS (l.getD i.toNat wt.dflt)) (wO (l.getD i.toNat wt.dflt)) n) ++ [wY (l.getD i.toNat wt.dflt), decide ((0 : Int) ≤ 0 ∧ 0 ≤ Bd.hi (some (IntKind.i64, 0, false)) (m + 1) ∧ Bd.hi (some (IntKind.i64, 0, false)) (m + 1) ≤ ((m + 1 : Nat) : Int)) && true && true] ++
  cR (durS dur (visW vis n (l.getD i.toNat wt.dflt)) n) (visW vis n (l.getD i.toNat wt.dflt)) (bW b n (l.getD i.toNat wt.dflt)) n := by kernel_rfl
end
end D
end Go.Proofs.Ytnjjkobijjdnbaa
