/- Package disk: a round of the loop of DiskTwins, reckoned; the loop. -/
import Derived.Test.YtnjjkobijjdnbaaK14
set_option linter.unusedVariables false
set_option linter.unusedSimpArgs false
set_option maxRecDepth 100000
set_option maxHeartbeats 8000000
namespace Go.Proofs.Ytnjjkobijjdnbaa
open Go
namespace D
/-- A disk's contents: durable, visible; the pending writes, so many. -/
structure DS where
  dur : List Int
  vis : List Int
  q : List (Ty.den wp)
  m : Nat
def u8 (l : List Int) : Option Bf := some (.live (.arr (.int .u8) l))
def pq (l : List (Ty.den wp)) : Option Bf := some (.live (.arr wp l))
def dob (n : Int) (k m : Nat) : Option (List V) := some [.b false, .i .i64 0, .bs true k 0 n.toNat, .bs true (k + 1) 0 n.toNat, .bs true (k + 2) 0 m]
/-- Behind a write, a Sync, a crash in which nothing survives. -/
def DS.w (s : DS) (n : Int) (w : Ty.den wt) : DS := ⟨s.dur, visW s.vis n w, qW s.q s.m n w, s.m + 1⟩
def DS.s (s : DS) (n : Int) : DS := ⟨durS s.dur s.vis n, s.vis, qS s.q s.m, 0⟩
def DS.c (s : DS) (n : Int) : DS := ⟨s.dur, durS s.vis s.dur n, qS s.q s.m, 0⟩
noncomputable def hdW (n i : Int) (c d a : DS) (l : List (Ty.den wt)) : St := St.of 150 [0, 1, 5, 6, 8, 10, 12] [.si .i64 n, .slst .ro wt l, .b true, .ptr 0 0, .ptr 1 0, .ptr 2 0, .si .i64 i]
  [dob n 0 c.m, dob n 3 d.m, dob n 6 a.m] [u8 c.dur, u8 c.vis, pq c.q, u8 d.dur, u8 d.vis, pq d.q, u8 a.dur, u8 a.vis, pq a.q]
def lveW : Ex → List Nat | .normal => [0, 1, 5, 6, 8, 10, 12] | _ => [0, 5, 6, 10]
noncomputable def rndW (n i : Int) (c d a : DS) (l : List (Ty.den wt)) := outa lveW (evCK Try.prog G0 (cfM Try.prog G0 (cfgR wy6) 30) ((cfgR wy6).lo 11) [] 60 1 (lp 11 0) (hdW n i c d a l))
/-- A round's end. -/
def endW (n i : Int) (c d a : DS) (l : List (Ty.den wt)) : Option (Ex × List V × Ob × Nm × Nat × Nat × Nat) := some (.normal, [.si .i64 n, .slst .ro wt l, .b true, .ptr 0 0, .ptr 1 0, .ptr 2 0, .si .i64 (IntKind.i64.wrap (i + 1))],
  [dob n 0 c.m, dob n 3 d.m, dob n 6 a.m], [u8 c.dur, u8 c.vis, pq c.q, u8 d.dur, u8 d.vis, pq d.q, u8 a.dur, u8 a.vis, pq a.q], 150, 0, 0)
def exW (n : Int) (c a : DS) : Option (Ex × List V × Ob × Nm × Nat × Nat × Nat) := some (.exit 0, [.si .i64 n, .b true, .ptr 0 0, .ptr 1 0], [dob n 0 c.m, dob n 3 a.m], [u8 c.dur, u8 c.vis, pq c.q, u8 a.dur, u8 a.vis, pq a.q], 150, 0, 0)
/-- What Write asks for. -/
def cV (dur : List Int) (m : Nat) (n : Int) (w : Ty.den wt) : Bool :=
  (!(!(bif decide (fo (wO w) n ≥ 0) then bif decide (((fs (wS w) (wO w) n).size : Int) ≥ 0) then bif decide (fo (wO w) n ≤ ((part dur n).length : Int)) then decide (((fs (wS w) (wO w) n).size : Int) ≤ IntKind.i64.wrap (((part dur n).length : Int) - fo (wO w) n)) else false else false else false))) &&
     (some (decide ((m + 1) * 2 * 24 ≤ 281474976710656) && (some (decide (0 ≤ fo (wO w) n ∧ fo (wO w) n ≤ Bd.hi none n.toNat ∧ Bd.hi none n.toNat ≤ (n.toNat : Int)) && true && true)).getD true)).getD true
def cT (n i : Int) (l : List (Ty.den wt)) (w : Ty.den wt) : List Bool := [decide (i < (l.length : Int)), decide (i < 30), decide (0 ≤ i ∧ i < (l.length : Int)), inr (wO w) && decide (0 ≤ n ∧ n ≤ 4194304), i.tmod 2 == 1]
def c7 (n : Int) (w : Ty.den wt) : Bool := (fo (wO w) n).tmod 7 == 3
section
variable (n i : Int) (c d a : DS) (l : List (Ty.den wt))
theorem rndW_1 : (rndW n i c d a l).path [true, true, true, true, true, true, false, false] = endW n i c (d.w n (l.getD i.toNat wt.dflt)) a l := by kernel_rfl
theorem rndW_2 : (rndW n i c d a l).path [true, true, true, true, true, true, false, true, true] = endW n i c ((d.w n (l.getD i.toNat wt.dflt)).c n) a l := by kernel_rfl
theorem rndW_3 : (rndW n i c d a l).path [true, true, true, true, true, true, true, true, false] = endW n i c ((d.w n (l.getD i.toNat wt.dflt)).s n) a l := by kernel_rfl
theorem rndW_4 : (rndW n i c d a l).path [true, true, true, true, true, true, true, true, true, true] = endW n i c (((d.w n (l.getD i.toNat wt.dflt)).s n).c n) a l := by kernel_rfl
theorem rndW_5 : (rndW n i c d a l).path [true, true, true, true, false, true, true, false] = endW n i (c.w n (l.getD i.toNat wt.dflt)) d (a.w n (l.getD i.toNat wt.dflt)) l := by kernel_rfl
theorem rndW_6 : (rndW n i c d a l).path [true, true, true, true, false, true, true, true, true, true] = endW n i ((c.w n (l.getD i.toNat wt.dflt)).s n) d ((a.w n (l.getD i.toNat wt.dflt)).s n) l := by kernel_rfl
theorem rndW_E : (rndW n i c d a l).path [false] = exW n c a := by kernel_rfl
theorem rndW_F : (rndW n i c d a l).path [true, false] = exW n c a := by kernel_rfl
theorem rndW_1C : (rndW n i c d a l).conds [true, true, true, true, true, true, false, false] = cT n i l (l.getD i.toNat wt.dflt) ++ [cV d.dur d.m n (l.getD i.toNat wt.dflt), wY (l.getD i.toNat wt.dflt), c7 n (l.getD i.toNat wt.dflt)] := by kernel_rfl
theorem rndW_2C : (rndW n i c d a l).conds [true, true, true, true, true, true, false, true, true] = cT n i l (l.getD i.toNat wt.dflt) ++ [cV d.dur d.m n (l.getD i.toNat wt.dflt), wY (l.getD i.toNat wt.dflt), c7 n (l.getD i.toNat wt.dflt), cS d.m] := by kernel_rfl
theorem rndW_3C : (rndW n i c d a l).conds [true, true, true, true, true, true, true, true, false] = cT n i l (l.getD i.toNat wt.dflt) ++ [cV d.dur d.m n (l.getD i.toNat wt.dflt), wY (l.getD i.toNat wt.dflt), cS d.m, c7 n (l.getD i.toNat wt.dflt)] := by kernel_rfl
theorem rndW_4C : (rndW n i c d a l).conds [true, true, true, true, true, true, true, true, true, true] = cT n i l (l.getD i.toNat wt.dflt) ++ [cV d.dur d.m n (l.getD i.toNat wt.dflt), wY (l.getD i.toNat wt.dflt), cS d.m, c7 n (l.getD i.toNat wt.dflt), cSl 0] := by kernel_rfl
theorem rndW_5C : (rndW n i c d a l).conds [true, true, true, true, false, true, true, false] = cT n i l (l.getD i.toNat wt.dflt) ++ [cV c.dur c.m n (l.getD i.toNat wt.dflt), cV a.dur a.m n (l.getD i.toNat wt.dflt), wY (l.getD i.toNat wt.dflt)] := by kernel_rfl
theorem rndW_6C : (rndW n i c d a l).conds [true, true, true, true, false, true, true, true, true, true] = cT n i l (l.getD i.toNat wt.dflt) ++ [cV c.dur c.m n (l.getD i.toNat wt.dflt), cV a.dur a.m n (l.getD i.toNat wt.dflt), wY (l.getD i.toNat wt.dflt), cS c.m, cS a.m] := by kernel_rfl
theorem rndW_EC : (rndW n i c d a l).conds [false] = [decide (i < (l.length : Int))] := by kernel_rfl
theorem rndW_FC : (rndW n i c d a l).conds [true, false] = [decide (i < (l.length : Int)), decide (i < 30)] := by kernel_rfl
end
end D
end Go.Proofs.Ytnjjkobijjdnbaa
