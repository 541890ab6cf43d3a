/- Package disk: what its calls come to; the fixed examples of 'sane'. -/
import Derived.Test.YtnjjkobijjdnbaaEv26
import Derived.Test.YtnjjkobijjdnbaaEv19
import Derived.Test.YtnjjkobijjdnbaaProg
set_option linter.unusedVariables false
set_option linter.unusedSimpArgs false
set_option maxRecDepth 100000
set_option maxHeartbeats 4000000
namespace Go.Proofs.Ytnjjkobijjdnbaa
open Go
namespace D
def G0 : Nat → Option V := fun _ => none
/-- The functions that are reckoned with memory. -/
def mems : List Nat := [13, 21, 23, 24, 25, 36, 37, 35, 39, 40, 38, 41, 45, 46, 49, 50, 52]
noncomputable def cfg (orc : Orc) (wy : FuncId → List V → Option (List Bool)) : Cfg := ⟨orc, fun _ => false, fun _ _ _ _ => none, fun _ _ => none, fun _ => [], fun f => mems.any (Nat.beq f), 60, wy⟩
theorem cfg_ok {orc : Orc} {wy : FuncId → List V → Option (List Bool)} (h : OrcOk Try.prog G0 orc) : CfgOk Try.prog G0 (cfg orc wy) where
  orc := h
  om := fun f args ob nm out h => by cases h
  fit := ⟨(fun f args ob nm out h => by cases h), (fun f args ob nm out h => by cases h)⟩
  lo := fun f i e h => by cases h
  mixed := by kernel_rfl
noncomputable def run (C : Cfg) (f : FuncId) (args : List V) : MRes := mergeT (evFK Try.prog G0 (cfM Try.prog G0 C 30) C.lo [] 60 f args [] [])
theorem of_run {C : Cfg} (hC : CfgOk Try.prog G0 C) {f : FuncId} {args : List V} {c : Option Bool} {v v' : V} (h : run C f args = .ok c v) (hc : c.getD true = true) (hv : v = v') : SemF Try.prog G0 f args [] [] v' [] [] := SemF.of_evM hC h hc hv
def none0 : Orc := fun _ _ => none
theorem none0_ok : OrcOk Try.prog G0 none0 := fun f args c v h => by cases h
theorem sane_run : run (cfg none0 fun _ _ => none) 12 [] = .ok none (.b true) := by kernel_rfl
theorem sane_ok : SemF Try.prog G0 12 [] [] [] (.b true) [] [] := of_run (cfg_ok none0_ok) sane_run rfl rfl
end D
end Go.Proofs.Ytnjjkobijjdnbaa
