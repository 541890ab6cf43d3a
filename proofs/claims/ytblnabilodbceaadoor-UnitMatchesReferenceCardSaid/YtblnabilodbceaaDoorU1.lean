/- Package unit: the plain functions that its functions and the reference's come to. No program in sight. -/
import Derived.Test.YtblnabilodbceaaDoorDv17
set_option linter.unusedVariables false
set_option linter.unusedSimpArgs false
namespace Go.Proofs.YtblnabilodbceaaDoor
open Go
namespace U

def kind (u : Int) : Int := if u < 1 then 0 else if u > 7 then 0 else if u = 1 then 1 else if u ≤ 3 then 2 else if u ≤ 5 then 3 else 4
def valid (a b c : Int) : Bool := decide (a = 0 ∧ b = 0 ∧ c = 0) || decide (kind c > 0 ∧ 0 ≤ a ∧ a ≤ b ∧ b ≤ 999999)
def given (a b c : Int) : Bool := valid a b c && decide (c ≠ 0)
def rates (r s : Int) : Bool := decide (1 ≤ r ∧ r ≤ 100000 ∧ 1 ≤ s ∧ s ≤ 100000)
/-- An amount and an error. -/
structure R where
  lo : Int
  hi : Int
  u : Int
  e : Int
def bad : R := ⟨0, 0, 0, 50⟩
def checked (a b c : Int) : R := if given a b c then ⟨a, b, c, 0⟩ else bad
def scaled (a b u n d : Int) : R := checked (a * n / d) ((b * n + d - 1) / d) u
def okS (a b n d : Int) : Bool := decide (0 ≤ a ∧ a ≤ 999999 ∧ 0 ≤ b ∧ b ≤ 999999 ∧ 0 ≤ n ∧ n ≤ 100000000 ∧ 1 ≤ d ∧ d ≤ 100000000)
/-- What one unit is worth in another one of its kind. -/
def worth (f t r s : Int) : Int × Int :=
  if f = 3 ∧ t = 2 then (3048, 10000) else if f = 2 ∧ t = 3 then (10000, 3048) else if f = 5 ∧ t = 4 then (45359237, 100000000) else if f = 4 ∧ t = 5 then (100000000, 45359237)
  else if f = 6 ∧ t = 7 then (s, r) else if f = 7 ∧ t = 6 then (r, s) else (1, 1)
def convert (a b c t r s : Int) : R := if given a b c && rates r s && decide (kind t = kind c) then scaled a b t (worth c t r s).1 (worth c t r s).2 else bad
def isStep (s : Int) : Bool := decide (s = 1 ∨ s = 10 ∨ s = 100 ∨ s = 1000 ∨ s = 10000)
def coarse (a b c s : Int) : R := if given a b c && isStep s then checked (a / s * s) ((b + s - 1) / s * s) c else bad
def share (a b c n d : Int) : R := if given a b c && decide (0 ≤ n ∧ n ≤ 1000000 ∧ 1 ≤ d ∧ d ≤ 1000000) then scaled a b c n d else bad
def add (a b c d e f : Int) : R := if given a b c && given d e f && decide (c = f) then checked (a + d) (b + e) c else bad
def meet (a b c d e f : Int) : R := if given a b c && given d e f && decide (c = f) then checked (max a d) (min b e) c else bad
def contains (a b c d e f : Int) : Bool := valid a b c && valid d e f && decide (c = f ∧ a ≤ d ∧ b ≥ e)
def pick (c n : Int) : Int := (if c < 0 then -(c + 1) else c).tmod n

def inr (x : Int) : Bool := decide (-9223372036854775808 ≤ x ∧ x ≤ 9223372036854775807)
def madeM (c : Int) : Int := if pick c 4 = 0 then 9 else if pick c 4 = 1 then 100 else if pick c 4 = 2 then 5000 else 999999
def madeLo (x y z : Int) : Int := min (pick x (madeM z + 1)) (pick y (madeM z + 1))
def madeHi (x y z : Int) : Int := max (pick x (madeM z + 1)) (pick y (madeM z + 1))
def madeU (z : Int) : Int := 1 + pick (z.tdiv 4) 7
def step (n : Int) : Int := if pick n 5 = 0 then 1 else if pick n 5 = 1 then 10 else if pick n 5 = 2 then 100 else if pick n 5 = 3 then 1000 else 10000
def partner (u : Int) (o : Bool) : Int := if !o || decide (u = 1) then u else if u.tmod 2 = 0 then IntKind.i64.wrap (u + 1) else IntKind.i64.wrap (u - 1)
def closest (a b l h n d : Int) : Bool := decide (IntKind.i64.wrap (a * d) ≤ IntKind.i64.wrap (l * n)) && decide (IntKind.i64.wrap (IntKind.i64.wrap (a + 1) * d) > IntKind.i64.wrap (l * n)) && decide (IntKind.i64.wrap (b * d) ≥ IntKind.i64.wrap (h * n)) && decide (IntKind.i64.wrap (IntKind.i64.wrap (b - 1) * d) < IntKind.i64.wrap (h * n))

def am (a b c : Int) : V := .agg [.si .i64 a, .si .i64 b, .si .i64 c]
def rt (r s : Int) : V := .agg [.si .i64 r, .si .i64 s]
def rv (x : R) : V := .tup [am x.lo x.hi x.u, .si .i64 x.e]
def mcell (a b c : Int) : List V := [.i .i64 a, .i .i64 b, .i .i64 c]
/-- The package's variables. -/
def Γ : Nat → Option V
  | 0 => some (.pel [.agg (mcell 0 0 0 ++ mcell 1 1 1 ++ mcell 2 1 1 ++ mcell 2 3048 10000 ++ mcell 3 1 1 ++ mcell 3 45359237 100000000 ++ mcell 4 1 1 ++ mcell 4 1 1)] 0 0)
  | 1 => some (.pel [.agg [.fn (.func 61) [] [], .fn (.func 62) [] []]] 0 0)
  | _ => none

theorem wrap_id {x : Int} (h1 : -9223372036854775808 ≤ x) (h2 : x ≤ 9223372036854775807) : IntKind.i64.wrap x = x := by
  simp [IntKind.wrap, IntKind.bits, IntKind.signed]
  omega
end U

section
variable {P : Program} {Γ : Nat → Option V}
/-- The same, what is known forgotten. -/
theorem SemF.to {f : FuncId} {args : List V} {ob ob' : Ob} {nm nm' : Nm} {v v' : V} (h : SemF P Γ f args ob nm v ob' nm') (e : v.sy = v') : SemF P Γ f args ob nm v' ob' nm' := by
  subst e
  exact h.weaken fun G cv hr => hr.sy
end
end Go.Proofs.YtblnabilodbceaaDoor
