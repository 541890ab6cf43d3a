/- The contracts' tables. Written by wip/unit/gen.py. -/
import Derived.Test.YtblnabilodbceaaDoorU1
import Derived.Test.YtblnabilodbceaaDoorProg
set_option linter.unusedVariables false
namespace Go.Proofs.YtblnabilodbceaaDoor
open Go
namespace U
def orc0 : Orc := fun _ _ => none
def g_kind : List V → Option (Option Bool × V)
  | [.si .i64 u] => some (none, .si .i64 (U.kind u))
  | _ => none
def orc1 : Orc := fun f args => if f = 23 then g_kind args else orc0 f args
def g_rKind : List V → Option (Option Bool × V)
  | [.si .i64 u] => some (none, .si .i64 (U.kind u))
  | _ => none
def orc2 : Orc := fun f args => if f = 24 then g_rKind args else orc1 f args
def g_valid : List V → Option (Option Bool × V)
  | [.agg [.si .i64 a, .si .i64 b, .si .i64 c]] => some (none, .sb (U.valid a b c))
  | _ => none
def orc3 : Orc := fun f args => if f = 30 then g_valid args else orc2 f args
def g_rValid : List V → Option (Option Bool × V)
  | [.agg [.si .i64 a, .si .i64 b, .si .i64 c]] => some (none, .sb (U.valid a b c))
  | _ => none
def orc4 : Orc := fun f args => if f = 31 then g_rValid args else orc3 f args
def g_given : List V → Option (Option Bool × V)
  | [.agg [.si .i64 a, .si .i64 b, .si .i64 c]] => some (none, .sb (U.given a b c))
  | _ => none
def orc5 : Orc := fun f args => if f = 40 then g_given args else orc4 f args
def g_rGiven : List V → Option (Option Bool × V)
  | [.agg [.si .i64 a, .si .i64 b, .si .i64 c]] => some (none, .sb (U.given a b c))
  | _ => none
def orc6 : Orc := fun f args => if f = 38 then g_rGiven args else orc5 f args
def g_checked : List V → Option (Option Bool × V)
  | [.agg [.si .i64 a, .si .i64 b, .si .i64 c]] => some (none, U.rv (U.checked a b c))
  | _ => none
def orc7 : Orc := fun f args => if f = 44 then g_checked args else orc6 f args
def g_rates : List V → Option (Option Bool × V)
  | [.agg [.si .i64 r, .si .i64 s]] => some (none, .sb (U.rates r s))
  | _ => none
def orc8 : Orc := fun f args => if f = 21 then g_rates args else orc7 f args
def g_rRates : List V → Option (Option Bool × V)
  | [.agg [.si .i64 r, .si .i64 s]] => some (none, .sb (U.rates r s))
  | _ => none
def orc9 : Orc := fun f args => if f = 22 then g_rRates args else orc8 f args
def g_worth : List V → Option (Option Bool × V)
  | [.si .i64 f, .si .i64 t, .agg [.si .i64 r, .si .i64 s]] => some (none, .tup [.si .i64 (U.worth f t r s).1, .si .i64 (U.worth f t r s).2])
  | _ => none
def orc10 : Orc := fun f args => if f = 33 then g_worth args else orc9 f args
def g_scaled : List V → Option (Option Bool × V)
  | [.agg [.si .i64 a, .si .i64 b, .si .i64 c], .si .i64 u, .si .i64 n, .si .i64 d] => some (some (U.okS a b n d), U.rv (U.scaled a b u n d))
  | _ => none
def orc11 : Orc := fun f args => if f = 41 then g_scaled args else orc10 f args
def g_times : List V → Option (Option Bool × V)
  | [.agg [.si .i64 a, .si .i64 b, .si .i64 c], .si .i64 u, .si .i64 n, .si .i64 d] => some (some (U.okS a b n d), U.rv (U.scaled a b u n d))
  | _ => none
def orc12 : Orc := fun f args => if f = 42 then g_times args else orc11 f args
def g_convert : List V → Option (Option Bool × V)
  | [.agg [.si .i64 a, .si .i64 b, .si .i64 c], .si .i64 t, .agg [.si .i64 r, .si .i64 s]] => some (none, U.rv (U.convert a b c t r s))
  | _ => none
def orc13 : Orc := fun f args => if f = 19 then g_convert args else orc12 f args
def g_rConvert : List V → Option (Option Bool × V)
  | [.agg [.si .i64 a, .si .i64 b, .si .i64 c], .si .i64 t, .agg [.si .i64 r, .si .i64 s]] => some (none, U.rv (U.convert a b c t r s))
  | _ => none
def orc14 : Orc := fun f args => if f = 20 then g_rConvert args else orc13 f args
def g_coarse : List V → Option (Option Bool × V)
  | [.agg [.si .i64 a, .si .i64 b, .si .i64 c], .si .i64 s] => some (none, U.rv (U.coarse a b c s))
  | _ => none
def orc15 : Orc := fun f args => if f = 26 then g_coarse args else orc14 f args
def g_share : List V → Option (Option Bool × V)
  | [.agg [.si .i64 a, .si .i64 b, .si .i64 c], .si .i64 n, .si .i64 d] => some (none, U.rv (U.share a b c n d))
  | _ => none
def orc16 : Orc := fun f args => if f = 28 then g_share args else orc15 f args
def g_rShare : List V → Option (Option Bool × V)
  | [.agg [.si .i64 a, .si .i64 b, .si .i64 c], .si .i64 n, .si .i64 d] => some (none, U.rv (U.share a b c n d))
  | _ => none
def orc17 : Orc := fun f args => if f = 29 then g_rShare args else orc16 f args
def g_add : List V → Option (Option Bool × V)
  | [.agg [.si .i64 a, .si .i64 b, .si .i64 c], .agg [.si .i64 d, .si .i64 e, .si .i64 f]] => some (none, U.rv (U.add a b c d e f))
  | _ => none
def orc18 : Orc := fun f args => if f = 11 then g_add args else orc17 f args
def g_rAdd : List V → Option (Option Bool × V)
  | [.agg [.si .i64 a, .si .i64 b, .si .i64 c], .agg [.si .i64 d, .si .i64 e, .si .i64 f]] => some (none, U.rv (U.add a b c d e f))
  | _ => none
def orc19 : Orc := fun f args => if f = 12 then g_rAdd args else orc18 f args
def g_meet : List V → Option (Option Bool × V)
  | [.agg [.si .i64 a, .si .i64 b, .si .i64 c], .agg [.si .i64 d, .si .i64 e, .si .i64 f]] => some (none, U.rv (U.meet a b c d e f))
  | _ => none
def orc20 : Orc := fun f args => if f = 13 then g_meet args else orc19 f args
def g_rMeet : List V → Option (Option Bool × V)
  | [.agg [.si .i64 a, .si .i64 b, .si .i64 c], .agg [.si .i64 d, .si .i64 e, .si .i64 f]] => some (none, U.rv (U.meet a b c d e f))
  | _ => none
def orc21 : Orc := fun f args => if f = 14 then g_rMeet args else orc20 f args
def g_contains : List V → Option (Option Bool × V)
  | [.agg [.si .i64 a, .si .i64 b, .si .i64 c], .agg [.si .i64 d, .si .i64 e, .si .i64 f]] => some (none, .sb (U.contains a b c d e f))
  | _ => none
def orc22 : Orc := fun f args => if f = 15 then g_contains args else orc21 f args
def g_rContains : List V → Option (Option Bool × V)
  | [.agg [.si .i64 a, .si .i64 b, .si .i64 c], .agg [.si .i64 d, .si .i64 e, .si .i64 f]] => some (none, .sb (U.contains a b c d e f))
  | _ => none
def orc23 : Orc := fun f args => if f = 16 then g_rContains args else orc22 f args
def g_pick : List V → Option (Option Bool × V)
  | [.si .i64 c, .si .i64 n] => some (some (U.inr c && decide (0 < n)), .si .i64 (U.pick c n))
  | _ => none
def orc24 : Orc := fun f args => if f = 18 then g_pick args else orc23 f args
def g_rPick : List V → Option (Option Bool × V)
  | [.si .i64 c, .si .i64 n] => some (some (U.inr c && decide (0 < n)), .si .i64 (U.pick c n))
  | _ => none
def orc25 : Orc := fun f args => if f = 35 then g_rPick args else orc24 f args
def g_made : List V → Option (Option Bool × V)
  | [.agg [.si .i64 x, .si .i64 y, .si .i64 z]] => some (some (U.inr x && (U.inr y && U.inr z)), U.am (U.madeLo x y z) (U.madeHi x y z) (U.madeU z))
  | _ => none
def orc26 : Orc := fun f args => if f = 10 then g_made args else orc25 f args
def g_madeRates : List V → Option (Option Bool × V)
  | [.agg [.si .i64 x, .si .i64 y]] => some (some (U.inr x && U.inr y), U.rt (1 + U.pick x 100000) (1 + U.pick y 100000))
  | _ => none
def orc27 : Orc := fun f args => if f = 17 then g_madeRates args else orc26 f args
def g_step : List V → Option (Option Bool × V)
  | [.si .i64 n] => some (some (U.inr n), .si .i64 (U.step n))
  | _ => none
def orc28 : Orc := fun f args => if f = 25 then g_step args else orc27 f args
def g_partner : List V → Option (Option Bool × V)
  | [.si .i64 u, .sb o] => some (none, .si .i64 (U.partner u o))
  | _ => none
def orc29 : Orc := fun f args => if f = 32 then g_partner args else orc28 f args
def g_closest : List V → Option (Option Bool × V)
  | [.agg [.si .i64 a, .si .i64 b, .si .i64 c], .si .i64 l, .si .i64 h, .si .i64 n, .si .i64 d] => some (none, .sb (U.closest a b l h n d))
  | _ => none
def orc30 : Orc := fun f args => if f = 34 then g_closest args else orc29 f args
def g_sane : List V → Option (Option Bool × V)
  | [] => some (none, .sb true)
  | _ => none
def orc31 : Orc := fun f args => if f = 9 then g_sane args else orc30 f args
noncomputable def tr0 (f : FuncId) (args : List V) : Tr (V × St) := evF Tryd.prog Γ (cfD Tryd.prog Γ orc0 60 8) 60 f args [] []
noncomputable def tr1 (f : FuncId) (args : List V) : Tr (V × St) := evF Tryd.prog Γ (cfD Tryd.prog Γ orc1 60 8) 60 f args [] []
noncomputable def tr2 (f : FuncId) (args : List V) : Tr (V × St) := evF Tryd.prog Γ (cfD Tryd.prog Γ orc2 60 8) 60 f args [] []
noncomputable def tr3 (f : FuncId) (args : List V) : Tr (V × St) := evF Tryd.prog Γ (cfD Tryd.prog Γ orc3 60 8) 60 f args [] []
noncomputable def tr4 (f : FuncId) (args : List V) : Tr (V × St) := evF Tryd.prog Γ (cfD Tryd.prog Γ orc4 60 8) 60 f args [] []
noncomputable def tr5 (f : FuncId) (args : List V) : Tr (V × St) := evF Tryd.prog Γ (cfD Tryd.prog Γ orc5 60 8) 60 f args [] []
noncomputable def tr6 (f : FuncId) (args : List V) : Tr (V × St) := evF Tryd.prog Γ (cfD Tryd.prog Γ orc6 60 8) 60 f args [] []
noncomputable def tr7 (f : FuncId) (args : List V) : Tr (V × St) := evF Tryd.prog Γ (cfD Tryd.prog Γ orc7 60 8) 60 f args [] []
noncomputable def tr8 (f : FuncId) (args : List V) : Tr (V × St) := evF Tryd.prog Γ (cfD Tryd.prog Γ orc8 60 8) 60 f args [] []
noncomputable def tr9 (f : FuncId) (args : List V) : Tr (V × St) := evF Tryd.prog Γ (cfD Tryd.prog Γ orc9 60 8) 60 f args [] []
noncomputable def tr10 (f : FuncId) (args : List V) : Tr (V × St) := evF Tryd.prog Γ (cfD Tryd.prog Γ orc10 60 8) 60 f args [] []
noncomputable def tr11 (f : FuncId) (args : List V) : Tr (V × St) := evF Tryd.prog Γ (cfD Tryd.prog Γ orc11 60 8) 60 f args [] []
noncomputable def tr12 (f : FuncId) (args : List V) : Tr (V × St) := evF Tryd.prog Γ (cfD Tryd.prog Γ orc12 60 8) 60 f args [] []
noncomputable def tr13 (f : FuncId) (args : List V) : Tr (V × St) := evF Tryd.prog Γ (cfD Tryd.prog Γ orc13 60 8) 60 f args [] []
noncomputable def tr14 (f : FuncId) (args : List V) : Tr (V × St) := evF Tryd.prog Γ (cfD Tryd.prog Γ orc14 60 8) 60 f args [] []
noncomputable def tr15 (f : FuncId) (args : List V) : Tr (V × St) := evF Tryd.prog Γ (cfD Tryd.prog Γ orc15 60 8) 60 f args [] []
noncomputable def tr16 (f : FuncId) (args : List V) : Tr (V × St) := evF Tryd.prog Γ (cfD Tryd.prog Γ orc16 60 8) 60 f args [] []
noncomputable def tr17 (f : FuncId) (args : List V) : Tr (V × St) := evF Tryd.prog Γ (cfD Tryd.prog Γ orc17 60 8) 60 f args [] []
noncomputable def tr18 (f : FuncId) (args : List V) : Tr (V × St) := evF Tryd.prog Γ (cfD Tryd.prog Γ orc18 60 8) 60 f args [] []
noncomputable def tr19 (f : FuncId) (args : List V) : Tr (V × St) := evF Tryd.prog Γ (cfD Tryd.prog Γ orc19 60 8) 60 f args [] []
noncomputable def tr20 (f : FuncId) (args : List V) : Tr (V × St) := evF Tryd.prog Γ (cfD Tryd.prog Γ orc20 60 8) 60 f args [] []
noncomputable def tr21 (f : FuncId) (args : List V) : Tr (V × St) := evF Tryd.prog Γ (cfD Tryd.prog Γ orc21 60 8) 60 f args [] []
noncomputable def tr22 (f : FuncId) (args : List V) : Tr (V × St) := evF Tryd.prog Γ (cfD Tryd.prog Γ orc22 60 8) 60 f args [] []
noncomputable def tr23 (f : FuncId) (args : List V) : Tr (V × St) := evF Tryd.prog Γ (cfD Tryd.prog Γ orc23 60 8) 60 f args [] []
noncomputable def tr24 (f : FuncId) (args : List V) : Tr (V × St) := evF Tryd.prog Γ (cfD Tryd.prog Γ orc24 60 8) 60 f args [] []
noncomputable def tr25 (f : FuncId) (args : List V) : Tr (V × St) := evF Tryd.prog Γ (cfD Tryd.prog Γ orc25 60 8) 60 f args [] []
noncomputable def tr26 (f : FuncId) (args : List V) : Tr (V × St) := evF Tryd.prog Γ (cfD Tryd.prog Γ orc26 60 8) 60 f args [] []
noncomputable def tr27 (f : FuncId) (args : List V) : Tr (V × St) := evF Tryd.prog Γ (cfD Tryd.prog Γ orc27 60 8) 60 f args [] []
noncomputable def tr28 (f : FuncId) (args : List V) : Tr (V × St) := evF Tryd.prog Γ (cfD Tryd.prog Γ orc28 60 8) 60 f args [] []
noncomputable def tr29 (f : FuncId) (args : List V) : Tr (V × St) := evF Tryd.prog Γ (cfD Tryd.prog Γ orc29 60 8) 60 f args [] []
noncomputable def tr30 (f : FuncId) (args : List V) : Tr (V × St) := evF Tryd.prog Γ (cfD Tryd.prog Γ orc30 60 8) 60 f args [] []
noncomputable def tr31 (f : FuncId) (args : List V) : Tr (V × St) := evF Tryd.prog Γ (cfD Tryd.prog Γ orc31 60 8) 60 f args [] []
end U
end Go.Proofs.YtblnabilodbceaaDoor

