/- Parts of the library of texts, one after the other: L1, L2, L3, L4, L5, L6, L7, L8, L9, L10, L11, L12, L13, L14, L15, L16, L17, L19, L20, L21, L22, L23, L24. -/
import Derived.Test.YthjiodeaepigmaaDoorLrh
import Derived.Test.YthjiodeaepigmaaDoorLrj
import Derived.Test.YthjiodeaepigmaaDoorProg
/- Package label: what its calls come to; the fixed examples of 'sane'. -/
set_option linter.unusedVariables false
set_option linter.unusedSimpArgs false
set_option maxRecDepth 100000
set_option maxHeartbeats 4000000
namespace Go.Proofs.YthjiodeaepigmaaDoor
open Go
namespace L
def reas : V := .lst .ro [.agg [.i .i64 2, .fn (.func 111) [] []], .agg [.i .i64 3, .fn (.func 112) [] []], .agg [.i .i64 4, .fn (.func 113) [] []], .agg [.i .i64 5, .fn (.func 114) [] []], .agg [.i .i64 6, .fn (.func 117) [] []], .agg [.i .i64 7, .fn (.func 121) [] []]]
def Γ : Nat → Option V := fun g => match g with | 0 => some (.pel [.agg [reas]] 0 0) | _ => none
def mems : List Nat := [47, 50, 53, 55, 62, 63, 74, 75, 76, 77, 78, 84, 85, 89, 90, 92, 123]
def clones : List Nat := [55, 63]
noncomputable def cfgM (orc : Orc) (mem : List Nat) (omd : FuncId → Bool) (om : CallF) : Cfg := ⟨orc, omd, om, fun _ _ => none, fun _ => [], fun f => mem.any (Nat.beq f), 80, fun _ _ => none⟩
theorem cfgM_ok {orc : Orc} {mem : List Nat} {omd : FuncId → Bool} {om : CallF} (h : OrcOk Tryd.prog Γ orc) (h2 : CallsOk Tryd.prog Γ om) (h3 : CallsFit om) : CfgOk Tryd.prog Γ (cfgM orc mem omd om) where
 orc := h
 om := h2
 fit := h3
 lo := fun f i e h => by cases h
 mixed := by kernel_rfl
noncomputable def run (C : Cfg) (f : FuncId) (args : List V) : MRes := mergeT (evFK Tryd.prog Γ (cfM Tryd.prog Γ C 30) C.lo [] 80 f args [] [])
theorem of_run {C : Cfg} (hC : CfgOk Tryd.prog Γ C) {f : FuncId} {args : List V} {c : Option Bool} {v v' : V} (h : run C f args = .ok c v) (hc : c.getD true = true) (hv : v = v') : SemF Tryd.prog Γ f args [] [] v' [] [] := SemF.of_evM hC h hc hv
def none0 : Orc := fun _ _ => none
theorem none0_ok : OrcOk Tryd.prog Γ none0 := fun f args c v h => by cases h
def omN : CallF := fun _ _ _ _ => none
theorem omN_ok : CallsOk Tryd.prog Γ omN := fun f args ob nm out h => by cases h
theorem omN_fit : CallsFit omN := ⟨(fun f args ob nm out h => by cases h), (fun f args ob nm out h => by cases h)⟩
noncomputable def cfgA : Cfg := cfgM none0 [] (fun _ => false) omN
theorem cfgA_ok : CfgOk Tryd.prog Γ cfgA := cfgM_ok none0_ok omN_ok omN_fit
noncomputable def cfgB : Cfg := cfgM none0 mems (fun _ => false) omN
theorem cfgB_ok : CfgOk Tryd.prog Γ cfgB := cfgM_ok none0_ok omN_ok omN_fit
theorem run55n : run cfgA 55 [.nls] = .ok none (.lst .full []) := by kernel_rfl
theorem run55e : run cfgA 55 [.els] = .ok none (.lst .ro []) := by kernel_rfl
theorem run63n : run cfgA 63 [.nls] = .ok none (.lst .full []) := by kernel_rfl
theorem run63e : run cfgA 63 [.els] = .ok none (.lst .ro []) := by kernel_rfl
theorem clone55 (t : Tag) : SemF Tryd.prog Γ 55 [.lst t []] [] [] (.lst .ro []) [] [] :=
 SemF.byNil (fun _ _ h => h.nil_or) ((of_run cfgA_ok run55n rfl rfl).weaken lst_ro_any) (of_run cfgA_ok run55e rfl rfl)
theorem clone63 (t : Tag) : SemF Tryd.prog Γ 63 [.lst t []] [] [] (.lst .ro []) [] [] :=
 SemF.byNil (fun _ _ h => h.nil_or) ((of_run cfgA_ok run63n rfl rfl).weaken lst_ro_any) (of_run cfgA_ok run63e rfl rfl)
def isClone (f : FuncId) : Bool := clones.any (Nat.beq f)
theorem isClone_ok (f : FuncId) (h : isClone f = true) : (∀ t, SemF Tryd.prog Γ f [.lst t []] [] [] (.lst .ro []) [] []) ∧ Named Tryd.prog f := by
 have h : (Nat.beq f 55 || (Nat.beq f 63 || false)) = true := h
 simp only [Bool.or_false, Bool.or_eq_true] at h
 rcases h with h | h
 · obtain rfl := Nat.eq_of_beq_eq_true h
   exact ⟨clone55, .inr ⟨by decide, Tryd.f55, Tryd.func55, by kernel_rfl, by kernel_rfl⟩⟩
 · obtain rfl := Nat.eq_of_beq_eq_true h
   exact ⟨clone63, .inr ⟨by decide, Tryd.f63, Tryd.func63, by kernel_rfl, by kernel_rfl⟩⟩
noncomputable def om1 : CallF := omC isClone (cfM Tryd.prog Γ cfgB 30)
theorem om1_ok : CallsOk Tryd.prog Γ om1 ∧ CallsFit om1 := omC_ok isClone_ok (cfM_fit cfgB_ok 30).1 (cfM_fit cfgB_ok 30).2
noncomputable def cfg0 : Cfg := cfgM none0 mems isClone om1
theorem cfg0_ok : CfgOk Tryd.prog Γ cfg0 := cfgM_ok none0_ok om1_ok.1 om1_ok.2
noncomputable def cf0 : CallF := cfM Tryd.prog Γ cfg0 30
theorem cf0_ok : CallsOk Tryd.prog Γ cf0 := (cfM_fit cfg0_ok 30).1
theorem cf0_fit : CallsFit cf0 := (cfM_fit cfg0_ok 30).2
noncomputable def orcD : Orc := orcG Tryd.prog Γ cf0 (pfD Tryd.prog Γ cf0 80 4) 80 (fun f => Nat.beq f 32) none0
theorem orcD_ok : OrcOk Tryd.prog Γ orcD := orcG_ok cf0_ok cf0_fit (by kernel_rfl) (pfD_ok cf0_ok cf0_fit (by kernel_rfl) 80 4) none0_ok (fun f hf => by
 obtain rfl := Nat.eq_of_beq_eq_true hf
 exact ⟨Tryd.f32, Tryd.func32, by kernel_rfl, by kernel_rfl⟩)
noncomputable def cfg1 : Cfg := cfgM orcD mems isClone om1
theorem cfg1_ok : CfgOk Tryd.prog Γ cfg1 := cfgM_ok orcD_ok om1_ok.1 om1_ok.2
end L
end Go.Proofs.YthjiodeaepigmaaDoor

/- Package label: sane; the loops of rising, counts. -/
set_option linter.unusedVariables false
set_option linter.unusedSimpArgs false
set_option maxRecDepth 100000
set_option maxHeartbeats 4000000
namespace Go.Proofs.YthjiodeaepigmaaDoor
open Go
namespace L
theorem sane_run : run cfg1 11 [] = .ok none (.b true) := by kernel_rfl
theorem sane_ok : SemF Tryd.prog Γ 11 [] [] [] (.b true) [] [] := of_run cfg1_ok sane_run rfl rfl
noncomputable def root (f : Nat) : Code := match Tryd.prog.funcs[f]? with | some fn => fn.body.getD .skip | none => .skip
noncomputable def lp (f i : Nat) : Code := ((loops (root f))[i]?).getD .skip
theorem wrap_in {n : Int} (h1 : -9223372036854775808 ≤ n) (h2 : n ≤ 9223372036854775807) : IntKind.i64.wrap n = n := by
 have e1 : (2 : Int) ^ 64 = 18446744073709551616 := rfl
 have e2 : (2 : Int) ^ (64 - 1) = 9223372036854775808 := rfl
 simp only [IntKind.wrap, IntKind.signed, IntKind.bits, Bool.true_and, decide_eq_true_eq, e1, e2]
 split <;> omega
abbrev ity : Ty := .int .i64
abbrev conf : Ty := .agg [ity, ity]
abbrev lockT : Ty := .agg [ity, .slice ity]
abbrev labT : Ty := .agg [ity, .slice ity, .slice conf, ity, ity, .slice lockT]
abbrev momT : Ty := .agg [ity, ity, .slice ity, .slice conf, .slice ity]
abbrev redT : Ty := .agg [ity, ity]
abbrev cF (x : Ty.den conf) : Int := x.1
abbrev cC (x : Ty.den conf) : Int := x.2.1
abbrev kN (x : Ty.den lockT) : Int := x.1
abbrev kK (x : Ty.den lockT) : List Int := x.2.1
def allI (n : Nat) (p : Nat → Bool) : Bool := (List.range n).all p
theorem allI_true {n : Nat} {p : Nat → Bool} : allI n p = true ↔ ∀ i, i < n → p i = true := by
 unfold allI; rw [List.all_eq_true]
 exact ⟨fun h i hi => h i (List.mem_range.2 hi), fun h i hi => h i (List.mem_range.1 hi)⟩
theorem allI_false {n : Nat} {p : Nat → Bool} {i : Nat} (hi : i < n) (h : p i = false) : allI n p = false := by
 cases hc : allI n p with
 | false => rfl
 | true => rw [allI_true.1 hc i hi] at h; cases h
noncomputable def cfg2 : Cfg := cfg0
theorem cfg2_ok : CfgOk Tryd.prog Γ cfg2 := cfg0_ok
def hp_ri : HP := { n := 32, lv := [0, 1, 7, 8, 9], sp := [.ty (.slice ity), .ty ity, .ty (.slice ity), .ty ity, .ty ity], op := [], bp := [] }
def lve_ri : Ex → List Nat
 | .normal => [0, 1, 7, 8, 9]
 | .ret => [4]
 | .exit 0 => []
 | _ => []
theorem bd_ri : Tryd.f41.body = some (root 41) := by kernel_rfl
theorem le_ri : (loops (root 41))[0]? = some (lp 41 0) := by kernel_rfl
theorem li_ri : Lies (root 41) 1 (lp 41 0) := Lies.of_take (n := 0) (by kernel_rfl)
def st_ri (l : List Int) (m : Int) (l2 : List Int) (n i : Int) : St := hp_ri.st ⟨(l, m, l2, n, i, ()), (), ()⟩
noncomputable def rn_ri (l : List Int) (m : Int) (l2 : List Int) (n i : Int) := outa lve_ri (evCK Tryd.prog Γ (cfM Tryd.prog Γ cfg2 30) (cfg2.lo 41) [30] 60 1 (lp 41 0) (st_ri l m l2 n i))
theorem rn_ri_eq (l : List Int) (m : Int) (l2 : List Int) (n i : Int) : (rn_ri l m l2 n i).run = (bif decide (i < n) then (bif decide ((0 : Int) ≤ i ∧ i < (l2.length : Int)) then (bif (some ((!bif decide (l2.getD i.toNat (0 : Int) ≥ (0 : Int)) then decide (l2.getD i.toNat (0 : Int) ≤ m) else false) || (!decide (i > (0 : Int)) || decide ((0 : Int) ≤ IntKind.i64.wrap (i - (1 : Int)) ∧ IntKind.i64.wrap (i - (1 : Int)) < (l.length : Int))))).getD true then (bif bif !bif decide (l2.getD i.toNat (0 : Int) ≥ (0 : Int)) then decide (l2.getD i.toNat (0 : Int) ≤ m) else false then true else bif decide (i > (0 : Int)) then decide (l.getD (IntKind.i64.wrap (i - (1 : Int))).toNat (0 : Int) ≥ l2.getD i.toNat (0 : Int)) else false then (some (Ex.ret, [V.b false], [], [], 32, 0, 0)) else (some (Ex.normal, [V.slst .ro ity l, V.si .i64 m, V.slst .ro ity l2, V.si .i64 n, V.si .i64 (IntKind.i64.wrap (i + (1 : Int)))], [], [], 32, 0, 0))) else none) else none) else (some (Ex.exit 0, [], [], [], 32, 0, 0))) := by kernel_rfl
theorem rn_ri_c (l : List Int) (m : Int) (l2 : List Int) (n i : Int) {e : Ex} {vs : List V} {ob : Ob} {nm : Nm} {n' kh kt : Nat} (h : (rn_ri l m l2 n i).run = some (e, vs, ob, nm, n', kh, kt)) : SemC Tryd.prog Γ (lp 41 0) (st_ri l m l2 n i) e.to (St.of n' (lve_ri e) vs ob nm kh kt) := SemC.of_evM cfg2_ok Tryd.func41 bd_ri li_ri h
def hp_co : HP := { n := 41, lv := [0, 1, 7, 8, 9], sp := [.ty (.slice conf), .ty ity, .ty (.slice conf), .ty ity, .ty ity], op := [], bp := [] }
def lve_co : Ex → List Nat
 | .normal => [0, 1, 7, 8, 9]
 | .ret => [4]
 | .exit 0 => []
 | _ => []
theorem bd_co : Tryd.f43.body = some (root 43) := by kernel_rfl
theorem le_co : (loops (root 43))[0]? = some (lp 43 0) := by kernel_rfl
theorem li_co : Lies (root 43) 1 (lp 43 0) := Lies.of_take (n := 0) (by kernel_rfl)
def st_co (l : List (Ty.den conf)) (m : Int) (l2 : List (Ty.den conf)) (n i : Int) : St := hp_co.st ⟨(l, m, l2, n, i, ()), (), ()⟩
noncomputable def rn_co (l : List (Ty.den conf)) (m : Int) (l2 : List (Ty.den conf)) (n i : Int) := outa lve_co (evCK Tryd.prog Γ (cfM Tryd.prog Γ cfg2 30) (cfg2.lo 43) [39] 60 1 (lp 43 0) (st_co l m l2 n i))
theorem rn_co_eq (l : List (Ty.den conf)) (m : Int) (l2 : List (Ty.den conf)) (n i : Int) : (rn_co l m l2 n i).run = (bif decide (i < n) then (bif decide ((0 : Int) ≤ i ∧ i < (l2.length : Int)) then (bif (some ((!bif decide ((cF (l2.getD i.toNat conf.dflt)) ≥ (0 : Int)) then decide ((cF (l2.getD i.toNat conf.dflt)) ≤ (15 : Int)) else false) || ((!bif decide ((cC (l2.getD i.toNat conf.dflt)) ≥ m) then decide ((cC (l2.getD i.toNat conf.dflt)) ≤ (12 : Int)) else false) || (!decide (i > (0 : Int)) || decide ((0 : Int) ≤ IntKind.i64.wrap (i - (1 : Int)) ∧ IntKind.i64.wrap (i - (1 : Int)) < (l.length : Int)))))).getD true then (bif bif !bif decide ((cF (l2.getD i.toNat conf.dflt)) ≥ (0 : Int)) then decide ((cF (l2.getD i.toNat conf.dflt)) ≤ (15 : Int)) else false then true else bif !bif decide ((cC (l2.getD i.toNat conf.dflt)) ≥ m) then decide ((cC (l2.getD i.toNat conf.dflt)) ≤ (12 : Int)) else false then true else bif decide (i > (0 : Int)) then decide ((cF (l.getD (IntKind.i64.wrap (i - (1 : Int))).toNat conf.dflt)) ≥ (cF (l2.getD i.toNat conf.dflt))) else false then (some (Ex.ret, [V.b false], [], [], 41, 0, 0)) else (some (Ex.normal, [V.slst .ro conf l, V.si .i64 m, V.slst .ro conf l2, V.si .i64 n, V.si .i64 (IntKind.i64.wrap (i + (1 : Int)))], [], [], 41, 0, 0))) else none) else none) else (some (Ex.exit 0, [], [], [], 41, 0, 0))) := by kernel_rfl
theorem rn_co_c (l : List (Ty.den conf)) (m : Int) (l2 : List (Ty.den conf)) (n i : Int) {e : Ex} {vs : List V} {ob : Ob} {nm : Nm} {n' kh kt : Nat} (h : (rn_co l m l2 n i).run = some (e, vs, ob, nm, n', kh, kt)) : SemC Tryd.prog Γ (lp 43 0) (st_co l m l2 n i) e.to (St.of n' (lve_co e) vs ob nm kh kt) := SemC.of_evM cfg2_ok Tryd.func43 bd_co li_co h
end L
end Go.Proofs.YthjiodeaepigmaaDoor

/- Package label: rising, counts; contracts. -/
set_option linter.unusedVariables false
set_option linter.unusedSimpArgs false
set_option maxRecDepth 100000
set_option maxHeartbeats 4000000
namespace Go.Proofs.YthjiodeaepigmaaDoor
open Go
namespace L
instance : DecidableEq (Ty.den conf) := inferInstanceAs (DecidableEq (Int × Int × Unit))
instance : DecidableEq (Ty.den lockT) := inferInstanceAs (DecidableEq (Int × List Int × Unit))
def lvT : List (Nat × List Nat) := [(3, [135, 185]), (4, [64, 100, 167, 205]), (5, [102, 141, 172, 218]), (6, [56, 97]), (7, [4, 9, 10]), (8, [77]), (9, [10]), (10, [6, 50]), (11, [0, 16, 17, 18]), (12, [83]), (13, [29]), (14, [2, 26, 62]), (15, [38, 78]), (16, [15]), (17, [19, 50, 91, 116, 147]), (18, [51]), (19, [14]), (20, [8, 44]), (21, [4]), (24, [29]), (25, [31]), (28, [2]), (29, [2]), (33, [76]), (35, [7]), (39, [4]), (40, [6]), (41, [30]), (43, [39]), (44, [6]), (45, [34]), (46, [46]), (47, [18]), (50, [18]), (53, [18]), (56, [22]), (60, [4]), (61, [15]), (74, [31]), (76, [27]), (83, [12]), (86, [11]), (87, [18, 60]), (88, [20, 30, 74]), (92, [15]), (120, [3])]
def lvF (f : FuncId) : List Nat := match lvT.find? fun p => Nat.beq p.1 f with | some p => p.2 | none => []
noncomputable def cfgO (orc : Orc) (lo : LOrc) : Cfg := ⟨orc, isClone, om1, lo, lvF, fun f => mems.any (Nat.beq f), 80, fun _ _ => none⟩
theorem cfgO_ok {orc : Orc} {lo : LOrc} (h : OrcOk Tryd.prog Γ orc) (hl : LOrcOk Tryd.prog Γ lo) : CfgOk Tryd.prog Γ (cfgO orc lo) where
 orc := h
 om := om1_ok.1
 fit := om1_ok.2
 lo := hl
 mixed := by kernel_rfl
noncomputable def runL (C : Cfg) (f : FuncId) (args : List V) : MRes := mergeT (evFK Tryd.prog Γ (cfM Tryd.prog Γ C 30) C.lo (C.lv f) 80 f args [] [])
theorem of_runL {C : Cfg} (hC : CfgOk Tryd.prog Γ C) {f : FuncId} {args : List V} {c : Option Bool} {v v' : V} (h : runL C f args = .ok c v) (hc : c.getD true = true) (hv : v = v') : SemF Tryd.prog Γ f args [] [] v' [] [] := SemF.of_evM hC h hc hv
def riB (l : List Int) (m : Int) (i : Nat) : Bool := decide (0 ≤ l.getD i 0 ∧ l.getD i 0 ≤ m ∧ (0 < i → l.getD (i - 1) 0 < l.getD i 0))
def risingD (l : List Int) (m : Int) : Bool := allI l.length (riB l m)
abbrev pre_ri (l : List Int) (m : Int) (l2 : List Int) (n i : Int) : Prop := l2 = l ∧ n = (l.length : Int) ∧ i = 0 ∧ l.length ≤ 1000000
def rs_ri (l : List Int) (m : Int) (l2 : List Int) (n i : Int) : Ex × St := if risingD l m = true then (.exit 0, St.of 32 (lve_ri (.exit 0)) [] [] [] hp_ri.kh hp_ri.kt) else (.ret, St.of 32 (lve_ri (.ret)) [.b false] [] [] hp_ri.kh hp_ri.kt)
def res_ri (l : List Int) (m : Int) (l2 : List Int) (n i : Int) : Tr (Ex × St) := .br (decide (pre_ri l m l2 n i)) (.br (decide (risingD l m = true)) (.leaf (some (.exit 0, St.of 32 (lve_ri (.exit 0)) [] [] [] hp_ri.kh hp_ri.kt))) (.leaf (some (.ret, St.of 32 (lve_ri (.ret)) [.b false] [] [] hp_ri.kh hp_ri.kt)))) (.leaf none)
def ent_ri : LEnt := LEnt.by hp_ri fun ⟨(l, m, l2, n, i, _), _, _⟩ => res_ri l m l2 n i
theorem ent_ri_ok (hgo : ∀ (l : List Int) (m : Int) (l2 : List Int) (n i : Int), pre_ri l m l2 n i → SemL Tryd.prog Γ (lp 41 0) (st_ri l m l2 n i) (rs_ri l m l2 n i).1.to (rs_ri l m l2 n i).2) : EntOk Tryd.prog Γ (lp 41 0) ent_ri := LEnt.by_ok fun ⟨(l, m, l2, n, i, _), _, _⟩ _ _ h_ => SemL.br (out := rs_ri l m l2 n i) (Tr.run_ite rfl rfl) (hgo l m l2 n i) h_
theorem ri_go (l : List Int) (m : Int) (l2 : List Int) (n i : Int) (h : pre_ri l m l2 n i) : SemL Tryd.prog Γ (lp 41 0) (st_ri l m l2 n i) (rs_ri l m l2 n i).1.to (rs_ri l m l2 n i).2 := by
 obtain ⟨rfl, rfl, rfl, hc⟩ := h
 have eq0 : ∀ i : Nat, i < l2.length → (rn_ri l2 m l2 l2.length i).run = (bif riB l2 m i then (some (Ex.normal, [V.slst Tag.ro ity l2, V.si IntKind.i64 m, V.slst Tag.ro ity l2, V.si IntKind.i64 l2.length, V.si IntKind.i64 ((i + 1 : Nat) : Int)], [], [], (32 : Nat), (0 : Nat), (0 : Nat))) else (some (Ex.ret, [V.b false], [], [], (32 : Nat), (0 : Nat), (0 : Nat)))) := by
  intro i hi
  have hw : IntKind.i64.wrap ((i : Int) + 1) = ((i + 1 : Nat) : Int) := by rw [wrap_in (by omega) (by omega)]; rfl
  rw [rn_ri_eq, hw, decide_eq_true (by omega : (i : Int) < l2.length), decide_eq_true (by omega : (0 : Int) ≤ (i : Int) ∧ (i : Int) < l2.length), Int.toNat_natCast]
  have hchk : (!decide ((i : Int) > 0) || decide ((0 : Int) ≤ IntKind.i64.wrap ((i : Int) - 1) ∧ IntKind.i64.wrap ((i : Int) - 1) < (Nat.cast l2.length : Int))) = true := by
   by_cases h0 : (i : Int) > 0
   · rw [wrap_in (by omega) (by omega)]; simp; omega
   · rw [decide_eq_false h0]; rfl
  rw [hchk]
  simp only [Bool.or_true, Option.getD_some, cond_true]
  unfold riB
  generalize l2.getD i 0 = x
  by_cases h0 : i = 0
  · subst h0
    by_cases h1 : 0 ≤ x <;> by_cases h2 : x ≤ m <;> simp [h1, h2]
  · have hw2 : IntKind.i64.wrap ((i : Int) - 1) = ((i - 1 : Nat) : Int) := by rw [wrap_in (by omega) (by omega)]; omega
    rw [hw2, Int.toNat_natCast]
    generalize l2.getD (i - 1) 0 = y
    have hi0 : 0 < i := by omega
    have hgt : decide ((i : Int) > 0) = true := decide_eq_true (by omega)
    rw [hgt]
    have h5 : decide (y ≥ x) = !decide (y < x) := by
     by_cases h : y < x
     · simp [h]
     · simp [h]; omega
    rw [h5]
    by_cases h1 : 0 ≤ x <;> by_cases h2 : x ≤ m <;> by_cases h : y < x <;> simp [h1, h2, h, hi0]
 refine SemL.scan l2.length 0 (Nat.zero_le _) (fun i => st_ri l2 m l2 l2.length (i : Nat)) (riB l2 m) _ ?_ ?_ ?_
 · intro i _ hi hb hp
   refine rn_ri_c l2 m l2 l2.length i (e := .normal) ?_
   rw [eq0 i hi, hp]
   rfl
 · intro i _ hi hb hp
   have hr : ¬ risingD l2 m = true := by unfold risingD; rw [allI_false hi hp]; simp
   unfold rs_ri
   rw [if_neg hr]
   refine ⟨by simp [Ex.to], rn_ri_c l2 m l2 l2.length i (e := .ret) ?_⟩
   rw [eq0 i hi, hp]
   rfl
 · intro hb
   have hr : risingD l2 m = true := allI_true.2 fun i hi => hb i (Nat.zero_le _) hi
   unfold rs_ri
   rw [if_pos hr]
   refine ⟨by simp [Ex.to], rn_ri_c l2 m l2 l2.length l2.length (e := .exit 0) ?_⟩
   rw [rn_ri_eq, decide_eq_false (by omega)]
   rfl
def coB (l : List (Ty.den conf)) (m : Int) (i : Nat) : Bool := decide (0 ≤ cF (l.getD i conf.dflt) ∧ cF (l.getD i conf.dflt) ≤ 15 ∧ m ≤ cC (l.getD i conf.dflt) ∧ cC (l.getD i conf.dflt) ≤ 12 ∧ (0 < i → cF (l.getD (i - 1) conf.dflt) < cF (l.getD i conf.dflt)))
def countsD (l : List (Ty.den conf)) (m : Int) : Bool := allI l.length (coB l m)
abbrev pre_co (l : List (Ty.den conf)) (m : Int) (l2 : List (Ty.den conf)) (n i : Int) : Prop := l2 = l ∧ n = (l.length : Int) ∧ i = 0 ∧ l.length ≤ 1000000
def rs_co (l : List (Ty.den conf)) (m : Int) (l2 : List (Ty.den conf)) (n i : Int) : Ex × St := if countsD l m = true then (.exit 0, St.of 41 (lve_co (.exit 0)) [] [] [] hp_co.kh hp_co.kt) else (.ret, St.of 41 (lve_co (.ret)) [.b false] [] [] hp_co.kh hp_co.kt)
def res_co (l : List (Ty.den conf)) (m : Int) (l2 : List (Ty.den conf)) (n i : Int) : Tr (Ex × St) := .br (decide (pre_co l m l2 n i)) (.br (decide (countsD l m = true)) (.leaf (some (.exit 0, St.of 41 (lve_co (.exit 0)) [] [] [] hp_co.kh hp_co.kt))) (.leaf (some (.ret, St.of 41 (lve_co (.ret)) [.b false] [] [] hp_co.kh hp_co.kt)))) (.leaf none)
def ent_co : LEnt := LEnt.by hp_co fun ⟨(l, m, l2, n, i, _), _, _⟩ => res_co l m l2 n i
theorem ent_co_ok (hgo : ∀ (l : List (Ty.den conf)) (m : Int) (l2 : List (Ty.den conf)) (n i : Int), pre_co l m l2 n i → SemL Tryd.prog Γ (lp 43 0) (st_co l m l2 n i) (rs_co l m l2 n i).1.to (rs_co l m l2 n i).2) : EntOk Tryd.prog Γ (lp 43 0) ent_co := LEnt.by_ok fun ⟨(l, m, l2, n, i, _), _, _⟩ _ _ h_ => SemL.br (out := rs_co l m l2 n i) (Tr.run_ite rfl rfl) (hgo l m l2 n i) h_
theorem co_go (l : List (Ty.den conf)) (m : Int) (l2 : List (Ty.den conf)) (n i : Int) (h : pre_co l m l2 n i) : SemL Tryd.prog Γ (lp 43 0) (st_co l m l2 n i) (rs_co l m l2 n i).1.to (rs_co l m l2 n i).2 := by
 obtain ⟨rfl, rfl, rfl, hc⟩ := h
 have eq0 : ∀ i : Nat, i < l2.length → (rn_co l2 m l2 l2.length i).run = (bif coB l2 m i then (some (Ex.normal, [V.slst Tag.ro conf l2, V.si IntKind.i64 m, V.slst Tag.ro conf l2, V.si IntKind.i64 l2.length, V.si IntKind.i64 ((i + 1 : Nat) : Int)], [], [], (41 : Nat), (0 : Nat), (0 : Nat))) else (some (Ex.ret, [V.b false], [], [], (41 : Nat), (0 : Nat), (0 : Nat)))) := by
  intro i hi
  have hw : IntKind.i64.wrap ((i : Int) + 1) = ((i + 1 : Nat) : Int) := by rw [wrap_in (by omega) (by omega)]; rfl
  rw [rn_co_eq, hw, decide_eq_true (by omega : (i : Int) < l2.length), decide_eq_true (by omega : (0 : Int) ≤ (i : Int) ∧ (i : Int) < l2.length), Int.toNat_natCast]
  have hchk : (!decide ((i : Int) > 0) || decide ((0 : Int) ≤ IntKind.i64.wrap ((i : Int) - 1) ∧ IntKind.i64.wrap ((i : Int) - 1) < (Nat.cast l2.length : Int))) = true := by
   by_cases h0 : (i : Int) > 0
   · rw [wrap_in (by omega) (by omega)]; simp; omega
   · rw [decide_eq_false h0]; rfl
  rw [hchk]
  simp only [Bool.or_true, Option.getD_some, cond_true]
  unfold coB
  generalize l2.getD i conf.dflt = x
  by_cases h0 : i = 0
  · subst h0
    by_cases h1 : 0 ≤ cF x <;> by_cases h2 : cF x ≤ 15 <;> by_cases h3 : m ≤ cC x <;> by_cases h4 : cC x ≤ 12 <;> simp [h1, h2, h3, h4]
  · have hw2 : IntKind.i64.wrap ((i : Int) - 1) = ((i - 1 : Nat) : Int) := by rw [wrap_in (by omega) (by omega)]; omega
    rw [hw2, Int.toNat_natCast]
    generalize l2.getD (i - 1) conf.dflt = y
    have hi0 : 0 < i := by omega
    have hgt : decide ((i : Int) > 0) = true := decide_eq_true (by omega)
    rw [hgt]
    have h5 : decide (cF y ≥ cF x) = !decide (cF y < cF x) := by
     by_cases h : cF y < cF x
     · simp [h]
     · simp [h]; omega
    rw [h5]
    by_cases h1 : 0 ≤ cF x <;> by_cases h2 : cF x ≤ 15 <;> by_cases h3 : m ≤ cC x <;> by_cases h4 : cC x ≤ 12 <;> by_cases h : cF y < cF x <;> simp [h1, h2, h3, h4, h, hi0]
 refine SemL.scan l2.length 0 (Nat.zero_le _) (fun i => st_co l2 m l2 l2.length (i : Nat)) (coB l2 m) _ ?_ ?_ ?_
 · intro i _ hi hb hp
   refine rn_co_c l2 m l2 l2.length i (e := .normal) ?_
   rw [eq0 i hi, hp]
   rfl
 · intro i _ hi hb hp
   have hr : ¬ countsD l2 m = true := by unfold countsD; rw [allI_false hi hp]; simp
   unfold rs_co
   rw [if_neg hr]
   refine ⟨by simp [Ex.to], rn_co_c l2 m l2 l2.length i (e := .ret) ?_⟩
   rw [eq0 i hi, hp]
   rfl
 · intro hb
   have hr : countsD l2 m = true := allI_true.2 fun i hi => hb i (Nat.zero_le _) hi
   unfold rs_co
   rw [if_pos hr]
   refine ⟨by simp [Ex.to], rn_co_c l2 m l2 l2.length l2.length (e := .exit 0) ?_⟩
   rw [rn_co_eq, decide_eq_false (by omega)]
   rfl
def lo1 : LOrc := (LOrc.add (LOrc.add (fun _ _ => none) 41 0 ent_ri) 43 0 ent_co)
theorem lo1_ok : LOrcOk Tryd.prog Γ lo1 := (LOrcOk.add (LOrcOk.add LOrcOk.none 41 0 Tryd.func41 bd_ri le_ri (ent_ri_ok ri_go)) 43 0 Tryd.func43 bd_co le_co (ent_co_ok co_go))
noncomputable def cfg3 : Cfg := cfgO none0 lo1
theorem cfg3_ok : CfgOk Tryd.prog Γ cfg3 := cfgO_ok none0_ok lo1_ok
theorem c41_run (l : List Int) (m : Int) : runL cfg3 41 [.slst .ro ity l, .si .i64 m] = .ok (some (decide (pre_ri l m l (l.length : Int) (0 : Int)))) (V.sb (bif decide (risingD l m = true) then true else false)) := by kernel_rfl
theorem c43_run (l : List (Ty.den conf)) (m : Int) : runL cfg3 43 [.slst .ro conf l, .si .i64 m] = .ok (some (decide (pre_co l m l (l.length : Int) (0 : Int)))) (V.sb (bif decide (countsD l m = true) then true else false)) := by kernel_rfl
end L
end Go.Proofs.YthjiodeaepigmaaDoor

/- Package label: comparisons; searching. -/
set_option linter.unusedVariables false
set_option linter.unusedSimpArgs false
set_option maxRecDepth 100000
set_option maxHeartbeats 4000000
namespace Go.Proofs.YthjiodeaepigmaaDoor
open Go
namespace L
theorem c41_ok (l : List Int) (m : Int) (h : l.length ≤ 1000000) : SemF Tryd.prog Γ 41 [.slst .ro ity l, .si .i64 m] [] [] (.sb (risingD l m)) [] [] :=
 of_runL cfg3_ok (c41_run l m) (decide_eq_true ⟨rfl, rfl, rfl, h⟩) (by cases risingD l m <;> rfl)
theorem c43_ok (l : List (Ty.den conf)) (m : Int) (h : l.length ≤ 1000000) : SemF Tryd.prog Γ 43 [.slst .ro conf l, .si .i64 m] [] [] (.sb (countsD l m)) [] [] :=
 of_runL cfg3_ok (c43_run l m) (decide_eq_true ⟨rfl, rfl, rfl, h⟩) (by cases countsD l m <;> rfl)
def e41 (l : List Int) (m : Int) : Option Bool × V := (some (decide (l.length ≤ 1000000)), .sb (risingD l m))
def e43 (l : List (Ty.den conf)) (m : Int) : Option Bool × V := (some (decide (l.length ≤ 1000000)), .sb (countsD l m))
noncomputable def orc4 : Orc := fun f args => if f = 43 then (Ty.ofVs [.slice conf, ity] args).map (fun x => e43 x.1 x.2.1) else (fun f args => if f = 41 then (Ty.ofVs [.slice ity, ity] args).map (fun x => e41 x.1 x.2.1) else none0 f args) f args
theorem orc4_ok : OrcOk Tryd.prog Γ orc4 :=
 (none0_ok.plain 41 [.slice ity, ity] (fun x => e41 x.1 x.2.1) Tryd.f41 Tryd.func41 rfl (by kernel_rfl) (fun ⟨l, m, _⟩ h => c41_ok l m (of_decide_eq_true h))).plain 43 [.slice conf, ity] (fun x => e43 x.1 x.2.1) Tryd.f43 Tryd.func43 rfl (by kernel_rfl) (fun ⟨l, m, _⟩ h => c43_ok l m (of_decide_eq_true h))
noncomputable def cfg4 : Cfg := cfgO orc4 lo1
theorem cfg4_ok : CfgOk Tryd.prog Γ cfg4 := cfgO_ok orc4_ok lo1_ok
theorem c48_run (a b : Int) : runL cfg4 48 [.si .i64 a, .si .i64 b] = .ok (none) (V.si .i64 (bif a != a then bif b != b then (0 : Int) else (-1 : Int) else bif b != b then (1 : Int) else bif decide (a < b) then (-1 : Int) else bif decide (a > b) then (1 : Int) else (0 : Int))) := by kernel_rfl
def hp_cm : HP := { n := 36, lv := [0, 1, 9, 10, 11], sp := [.ty (.slice ity), .ty (.slice ity), .ty (.slice ity), .ty ity, .ty ity], op := [], bp := [] }
def lve_cm : Ex → List Nat
 | .normal => [0, 1, 9, 10, 11]
 | .ret => [4]
 | .exit 0 => [0, 1]
 | _ => []
theorem bd_cm : Tryd.f80.body = some (root 80) := by kernel_rfl
theorem le_cm : (loops (root 80))[0]? = some (lp 80 0) := by kernel_rfl
theorem li_cm : Lies (root 80) 1 (lp 80 0) := Lies.of_take (n := 0) (by kernel_rfl)
def hp_in : HP := { n := 19, lv := [0, 1, 7, 8], sp := [.ty (.slice ity), .ty ity, .ty ity, .ty ity], op := [], bp := [] }
def lve_in : Ex → List Nat
 | .normal => [0, 1, 7, 8]
 | .ret => [4]
 | .exit 0 => []
 | _ => []
theorem bd_in : Tryd.f128.body = some (root 128) := by kernel_rfl
theorem le_in : (loops (root 128))[0]? = some (lp 128 0) := by kernel_rfl
theorem li_in : Lies (root 128) 1 (lp 128 0) := Lies.of_take (n := 0) (by kernel_rfl)
end L
end Go.Proofs.YthjiodeaepigmaaDoor

/- Package label: comparisons of lists; searching: what the loops leave. -/
set_option linter.unusedVariables false
set_option linter.unusedSimpArgs false
set_option maxRecDepth 100000
set_option maxHeartbeats 4000000
namespace Go.Proofs.YthjiodeaepigmaaDoor
open Go
namespace L
def sgn (a b : Int) : Int := if a < b then -1 else if b < a then 1 else 0
theorem c48_ok (a b : Int) : SemF Tryd.prog Γ 48 [.si .i64 a, .si .i64 b] [] [] (.si .i64 (sgn a b)) [] [] :=
 of_runL cfg4_ok (c48_run a b) rfl (by
  unfold sgn
  by_cases h1 : a < b
  · simp [h1]
  · by_cases h2 : b < a <;> simp [h1, h2])
noncomputable def orc5 : Orc := fun f args => if f = 48 then (Ty.ofVs [ity, ity] args).map (fun x => ((none, V.si .i64 (sgn x.1 x.2.1)) : Option Bool × V)) else orc4 f args
theorem orc5_ok : OrcOk Tryd.prog Γ orc5 := orc4_ok.plain 48 [ity, ity] (fun x => ((none, V.si .i64 (sgn x.1 x.2.1)) : Option Bool × V)) Tryd.f48 Tryd.func48 rfl (by kernel_rfl) (fun ⟨a, b, _⟩ _ => c48_ok a b)
noncomputable def cfg5 : Cfg := cfgO orc5 lo1
theorem cfg5_ok : CfgOk Tryd.prog Γ cfg5 := cfgO_ok orc5_ok lo1_ok
def st_cm5 (a b a2 : List Int) (n i : Int) : St := hp_cm.st ⟨(a, b, a2, n, i, ()), (), ()⟩
noncomputable def rn_cm5 (a b a2 : List Int) (n i : Int) := outa lve_cm (evCK Tryd.prog Γ (cfM Tryd.prog Γ cfg5 30) (cfg5.lo 80) [] 60 1 (lp 80 0) (st_cm5 a b a2 n i))
theorem rn_cm5_eq (a b a2 : List Int) (n i : Int) : (rn_cm5 a b a2 n i).run = (bif decide (i < n) then (bif decide ((0 : Int) ≤ i ∧ i < (a2.length : Int)) then (bif decide (i ≥ (b.length : Int)) then (some (Ex.ret, [V.i .i64 (1 : Int)], [], [], 36, 0, 0)) else (bif decide ((0 : Int) ≤ i ∧ i < (b.length : Int)) then (bif sgn (a2.getD i.toNat (0 : Int)) (b.getD i.toNat (0 : Int)) != (0 : Int) then (some (Ex.ret, [V.si .i64 (sgn (a2.getD i.toNat (0 : Int)) (b.getD i.toNat (0 : Int)))], [], [], 36, 0, 0)) else (some (Ex.normal, [V.slst .ro ity a, V.slst .ro ity b, V.slst .ro ity a2, V.si .i64 n, V.si .i64 (IntKind.i64.wrap (i + (1 : Int)))], [], [], 36, 0, 0))) else none)) else none) else (some (Ex.exit 0, [V.slst .ro ity a, V.slst .ro ity b], [], [], 36, 0, 0))) := by kernel_rfl
theorem rn_cm5_c (a b a2 : List Int) (n i : Int) {e : Ex} {vs : List V} {ob : Ob} {nm : Nm} {n' kh kt : Nat} (h : (rn_cm5 a b a2 n i).run = some (e, vs, ob, nm, n', kh, kt)) : SemC Tryd.prog Γ (lp 80 0) (st_cm5 a b a2 n i) e.to (St.of n' (lve_cm e) vs ob nm kh kt) := SemC.of_evM cfg5_ok Tryd.func80 bd_cm li_cm h
def lexC : List Int → List Int → Int
 | [], [] => 0
 | [], _ :: _ => -1
 | _ :: _, [] => 1
 | x :: a, y :: b => if sgn x y ≠ 0 then sgn x y else lexC a b
def lexP (a b : List Int) (i : Nat) : Bool := decide (i < b.length) && decide (sgn (a.getD i 0) (b.getD i 0) = 0)
def pfx (a b : List Int) : Bool := allI a.length (lexP a b)
theorem drop_cons {l : List Int} {i : Nat} (h : i < l.length) : l.drop i = l.getD i 0 :: l.drop (i + 1) := by
 rw [List.drop_eq_getElem_cons h, List.getD, List.getElem?_eq_getElem h]; rfl
theorem lexC_drop {a b : List Int} : ∀ {i : Nat}, i ≤ a.length → (∀ j, j < i → lexP a b j = true) → lexC a b = lexC (a.drop i) (b.drop i)
 | 0, _, _ => rfl
 | i + 1, hi, h => by
  rw [lexC_drop (i := i) (by omega) (fun j hj => h j (by omega))]
  have hp := h i (by omega)
  unfold lexP at hp
  simp only [Bool.and_eq_true, decide_eq_true_eq] at hp
  rw [drop_cons (show i < a.length by omega), drop_cons hp.1]
  simp only [lexC, hp.2, ne_eq, not_true_eq_false, if_false]
theorem pfx_lex {a b : List Int} (h : pfx a b = true) : lexC a b = if a.length < b.length then -1 else 0 := by
 have h1 := allI_true.1 h
 rw [lexC_drop (Nat.le_refl _) h1, List.drop_length]
 by_cases hl : a.length < b.length
 · rw [if_pos hl, drop_cons hl]; rfl
 · rw [if_neg hl, List.drop_eq_nil_of_le (by omega)]; rfl
abbrev pre_cm5 (a b a2 : List Int) (n i : Int) : Prop := a2 = a ∧ n = (a.length : Int) ∧ i = 0 ∧ a.length ≤ 1000000 ∧ b.length ≤ 1000000
def rs_cm5 (a b a2 : List Int) (n i : Int) : Ex × St := if pfx a b = true then (.exit 0, St.of 36 (lve_cm (.exit 0)) [.slst .ro ity a, .slst .ro ity b] [] [] hp_cm.kh hp_cm.kt) else (.ret, St.of 36 (lve_cm (.ret)) [.si .i64 (lexC a b)] [] [] hp_cm.kh hp_cm.kt)
def res_cm5 (a b a2 : List Int) (n i : Int) : Tr (Ex × St) := .br (decide (pre_cm5 a b a2 n i)) (.br (decide (pfx a b = true)) (.leaf (some (.exit 0, St.of 36 (lve_cm (.exit 0)) [.slst .ro ity a, .slst .ro ity b] [] [] hp_cm.kh hp_cm.kt))) (.leaf (some (.ret, St.of 36 (lve_cm (.ret)) [.si .i64 (lexC a b)] [] [] hp_cm.kh hp_cm.kt)))) (.leaf none)
def ent_cm5 : LEnt := LEnt.by hp_cm fun ⟨(a, b, a2, n, i, _), _, _⟩ => res_cm5 a b a2 n i
theorem ent_cm5_ok (hgo : ∀ (a b a2 : List Int) (n i : Int), pre_cm5 a b a2 n i → SemL Tryd.prog Γ (lp 80 0) (st_cm5 a b a2 n i) (rs_cm5 a b a2 n i).1.to (rs_cm5 a b a2 n i).2) : EntOk Tryd.prog Γ (lp 80 0) ent_cm5 := LEnt.by_ok fun ⟨(a, b, a2, n, i, _), _, _⟩ _ _ h_ => SemL.br (out := rs_cm5 a b a2 n i) (Tr.run_ite rfl rfl) (hgo a b a2 n i) h_
theorem cm5_go (a b a2 : List Int) (n i : Int) (h : pre_cm5 a b a2 n i) : SemL Tryd.prog Γ (lp 80 0) (st_cm5 a b a2 n i) (rs_cm5 a b a2 n i).1.to (rs_cm5 a b a2 n i).2 := by
 obtain ⟨rfl, rfl, rfl, ha, hb⟩ := h
 refine SemL.scan a2.length 0 (Nat.zero_le _) (fun i => st_cm5 a2 b a2 a2.length (i : Nat)) (lexP a2 b) _ ?_ ?_ ?_
 · intro i _ hi hbb hp
   unfold lexP at hp
   simp only [Bool.and_eq_true, decide_eq_true_eq] at hp
   refine rn_cm5_c a2 b a2 a2.length i (e := .normal) ?_
   have hw : IntKind.i64.wrap ((i : Int) + 1) = ((i + 1 : Nat) : Int) := by rw [wrap_in (by omega) (by omega)]; rfl
   rw [rn_cm5_eq, hw, decide_eq_true (by omega : (i : Int) < a2.length), decide_eq_true (by omega : (0 : Int) ≤ (i : Int) ∧ (i : Int) < a2.length), decide_eq_false (by omega : ¬ (i : Int) ≥ b.length), decide_eq_true (by omega : (0 : Int) ≤ (i : Int) ∧ (i : Int) < b.length), Int.toNat_natCast, hp.2]
   rfl
 · intro i _ hi hbb hp
   have hr : ¬ pfx a2 b = true := by unfold pfx; rw [allI_false hi hp]; simp
   unfold rs_cm5
   rw [if_neg hr]
   have hlex := lexC_drop (i := i) (by omega) (fun j hj => hbb j (Nat.zero_le _) hj)
   refine ⟨by simp [Ex.to], ?_⟩
   by_cases h1 : i < b.length
   · have h2 : sgn (a2.getD i 0) (b.getD i 0) ≠ 0 := by
      intro h2
      unfold lexP at hp
      rw [decide_eq_true h1, decide_eq_true h2] at hp
      cases hp
     have e : lexC a2 b = sgn (a2.getD i 0) (b.getD i 0) := by
      rw [hlex, drop_cons hi, drop_cons h1]
      simp only [lexC, ne_eq, h2, not_false_eq_true, if_true]
     rw [e]
     refine rn_cm5_c a2 b a2 a2.length i (e := .ret) ?_
     have hne : (sgn (a2.getD i 0) (b.getD i 0) != (0 : Int)) = true := by simpa using h2
     rw [rn_cm5_eq, decide_eq_true (by omega : (i : Int) < a2.length), decide_eq_true (by omega : (0 : Int) ≤ (i : Int) ∧ (i : Int) < a2.length), decide_eq_false (by omega : ¬ (i : Int) ≥ b.length), decide_eq_true (by omega : (0 : Int) ≤ (i : Int) ∧ (i : Int) < b.length), Int.toNat_natCast, hne]
     rfl
   · have e : lexC a2 b = 1 := by
      rw [hlex, drop_cons hi, List.drop_eq_nil_of_le (show b.length ≤ i by omega)]
      rfl
     rw [e]
     refine SemC.post (rn_cm5_c a2 b a2 a2.length i (e := .ret) (vs := [V.i .i64 1]) ?_) (St.of_imps rfl fun G j v v' h1 h2 cv hr => ?_)
     · rw [rn_cm5_eq, decide_eq_true (by omega : (i : Int) < a2.length), decide_eq_true (by omega : (0 : Int) ≤ (i : Int) ∧ (i : Int) < a2.length), decide_eq_true (by omega : (i : Int) ≥ b.length)]
       rfl
     · match j with
       | 0 => cases h1; cases h2; cases hr; exact .si _ _
       | j + 1 => cases h1
 · intro hbb
   have hr : pfx a2 b = true := allI_true.2 fun i hi => hbb i (Nat.zero_le _) hi
   unfold rs_cm5
   rw [if_pos hr]
   refine ⟨by simp [Ex.to], rn_cm5_c a2 b a2 a2.length a2.length (e := .exit 0) ?_⟩
   rw [rn_cm5_eq, decide_eq_false (by omega)]
   rfl
def hasD (l : List Int) (x : Int) : Bool := decide (l.findIdx (fun y => x == y) < l.length)
def st_in5 (a : List Int) (x n i : Int) : St := hp_in.st ⟨(a, x, n, i, ()), (), ()⟩
noncomputable def rn_in5 (a : List Int) (x n i : Int) := outa lve_in (evCK Tryd.prog Γ (cfM Tryd.prog Γ cfg5 30) (cfg5.lo 128) [] 60 1 (lp 128 0) (st_in5 a x n i))
theorem rn_in5_eq (a : List Int) (x n i : Int) : (rn_in5 a x n i).run = (bif decide (i < n) then (bif decide ((0 : Int) ≤ i ∧ i < (a.length : Int)) then (bif x == a.getD i.toNat (0 : Int) then (some (Ex.ret, [V.si .i64 i], [], [], 19, 0, 0)) else (some (Ex.normal, [V.slst .ro ity a, V.si .i64 x, V.si .i64 n, V.si .i64 (IntKind.i64.wrap (i + (1 : Int)))], [], [], 19, 0, 0))) else none) else (some (Ex.exit 0, [], [], [], 19, 0, 0))) := by kernel_rfl
theorem rn_in5_c (a : List Int) (x n i : Int) {e : Ex} {vs : List V} {ob : Ob} {nm : Nm} {n' kh kt : Nat} (h : (rn_in5 a x n i).run = some (e, vs, ob, nm, n', kh, kt)) : SemC Tryd.prog Γ (lp 128 0) (st_in5 a x n i) e.to (St.of n' (lve_in e) vs ob nm kh kt) := SemC.of_evM cfg5_ok Tryd.func128 bd_in li_in h
abbrev pre_in5 (a : List Int) (x n i : Int) : Prop := n = (a.length : Int) ∧ i = 0 ∧ a.length ≤ 1000000
def rs_in5 (a : List Int) (x n i : Int) : Ex × St := if a.findIdx (fun y => x == y) < a.length then (.ret, St.of 19 (lve_in (.ret)) [.si .i64 (a.findIdx (fun y => x == y) : Nat)] [] [] hp_in.kh hp_in.kt) else (.exit 0, St.of 19 (lve_in (.exit 0)) [] [] [] hp_in.kh hp_in.kt)
def res_in5 (a : List Int) (x n i : Int) : Tr (Ex × St) := .br (decide (pre_in5 a x n i)) (.br (decide (a.findIdx (fun y => x == y) < a.length)) (.leaf (some (.ret, St.of 19 (lve_in (.ret)) [.si .i64 (a.findIdx (fun y => x == y) : Nat)] [] [] hp_in.kh hp_in.kt))) (.leaf (some (.exit 0, St.of 19 (lve_in (.exit 0)) [] [] [] hp_in.kh hp_in.kt)))) (.leaf none)
def ent_in5 : LEnt := LEnt.by hp_in fun ⟨(a, x, n, i, _), _, _⟩ => res_in5 a x n i
theorem ent_in5_ok (hgo : ∀ (a : List Int) (x n i : Int), pre_in5 a x n i → SemL Tryd.prog Γ (lp 128 0) (st_in5 a x n i) (rs_in5 a x n i).1.to (rs_in5 a x n i).2) : EntOk Tryd.prog Γ (lp 128 0) ent_in5 := LEnt.by_ok fun ⟨(a, x, n, i, _), _, _⟩ _ _ h_ => SemL.br (out := rs_in5 a x n i) (Tr.run_ite rfl rfl) (hgo a x n i) h_
theorem in5_go (a : List Int) (x n i : Int) (h : pre_in5 a x n i) : SemL Tryd.prog Γ (lp 128 0) (st_in5 a x n i) (rs_in5 a x n i).1.to (rs_in5 a x n i).2 := by
 obtain ⟨rfl, rfl, hc⟩ := h
 refine SemL.scan a.length 0 (Nat.zero_le _) (fun i => st_in5 a x a.length (i : Nat)) (fun i => !(x == a.getD i 0)) _ ?_ ?_ ?_
 · intro i _ hi hb hp
   refine rn_in5_c a x a.length i (e := .normal) ?_
   have hw : IntKind.i64.wrap ((i : Int) + 1) = ((i + 1 : Nat) : Int) := by rw [wrap_in (by omega) (by omega)]; rfl
   have hp' : (x == a.getD i 0) = false := by simpa using hp
   rw [rn_in5_eq, hw, decide_eq_true (by omega : (i : Int) < a.length), decide_eq_true (by omega : (0 : Int) ≤ (i : Int) ∧ (i : Int) < a.length), Int.toNat_natCast, hp']
   rfl
 · intro i _ hi hb hp
   have hp' : (x == a.getD i 0) = true := by simpa using hp
   have e : a.findIdx (fun y => x == y) = i := findIdx_at 0 hi (fun j hj => by simpa using hb j (Nat.zero_le _) hj) hp'
   unfold rs_in5
   rw [if_pos (by omega), e]
   refine ⟨by simp [Ex.to], rn_in5_c a x a.length i (e := .ret) ?_⟩
   rw [rn_in5_eq, decide_eq_true (by omega : (i : Int) < a.length), decide_eq_true (by omega : (0 : Int) ≤ (i : Int) ∧ (i : Int) < a.length), Int.toNat_natCast, hp']
   rfl
 · intro hb
   have e : a.findIdx (fun y => x == y) = a.length := findIdx_no 0 (fun j hj => by simpa using hb j (Nat.zero_le _) hj)
   unfold rs_in5
   rw [if_neg (by omega)]
   refine ⟨by simp [Ex.to], rn_in5_c a x a.length a.length (e := .exit 0) ?_⟩
   rw [rn_in5_eq, decide_eq_false (by omega)]
   rfl
def lo5 : LOrc := (LOrc.add (LOrc.add lo1 80 0 ent_cm5) 128 0 ent_in5)
theorem lo5_ok : LOrcOk Tryd.prog Γ lo5 := (LOrcOk.add (LOrcOk.add lo1_ok 80 0 Tryd.func80 bd_cm le_cm (ent_cm5_ok cm5_go)) 128 0 Tryd.func128 bd_in le_in (ent_in5_ok in5_go))
noncomputable def cfg6 : Cfg := cfgO orc5 lo5
theorem cfg6_ok : CfgOk Tryd.prog Γ cfg6 := cfgO_ok orc5_ok lo5_ok
theorem c80_run (a b : List Int) : runL cfg6 80 [.slst .ro ity a, .slst .ro ity b] = .ok (some (decide (pre_cm5 a b a (a.length : Int) (0 : Int)))) (V.si .i64 (bif decide (pfx a b = true) then bif decide ((a.length : Int) < (b.length : Int)) then (-1 : Int) else (0 : Int) else lexC a b)) := by kernel_rfl
theorem c126_run (a : List Int) (x : Int) : runL cfg6 126 [.slst .ro ity a, .si .i64 x] = .ok (some (decide (pre_in5 a x (a.length : Int) (0 : Int)))) (V.sb (decide ((bif decide (List.findIdx (fun y => x == y) a < a.length) then (Nat.cast ((List.findIdx (fun y => x == y) a)) : Int) else (-1 : Int)) ≥ (0 : Int)))) := by kernel_rfl
end L
end Go.Proofs.YthjiodeaepigmaaDoor

/- Package label: compareLocks, Contains, Valid's loop. -/
set_option linter.unusedVariables false
set_option linter.unusedSimpArgs false
set_option maxRecDepth 100000
set_option maxHeartbeats 4000000
namespace Go.Proofs.YthjiodeaepigmaaDoor
open Go
namespace L
theorem c80_ok (a b : List Int) (h : a.length ≤ 1000000 ∧ b.length ≤ 1000000) : SemF Tryd.prog Γ 80 [.slst .ro ity a, .slst .ro ity b] [] [] (.si .i64 (lexC a b)) [] [] :=
 of_runL cfg6_ok (c80_run a b) (decide_eq_true ⟨rfl, rfl, rfl, h.1, h.2⟩) (by
  by_cases hp : pfx a b = true
  · rw [decide_eq_true hp, pfx_lex hp]
    by_cases hl : a.length < b.length
    · rw [if_pos hl, decide_eq_true (by omega)]; rfl
    · rw [if_neg hl, decide_eq_false (by omega)]; rfl
  · rw [decide_eq_false hp]; rfl)
theorem c126_ok (a : List Int) (x : Int) (h : a.length ≤ 1000000) : SemF Tryd.prog Γ 126 [.slst .ro ity a, .si .i64 x] [] [] (.sb (hasD a x)) [] [] :=
 of_runL cfg6_ok (c126_run a x) (decide_eq_true ⟨rfl, rfl, h⟩) (by
  unfold hasD
  by_cases hp : List.findIdx (fun y => x == y) a < a.length
  · rw [decide_eq_true hp, cond_true, decide_eq_true (by omega : (Nat.cast (List.findIdx (fun y => x == y) a) : Int) ≥ 0)]
  · rw [decide_eq_false hp]; rfl)
def e80 (a b : List Int) : Option Bool × V := (some (decide (a.length ≤ 1000000 ∧ b.length ≤ 1000000)), .si .i64 (lexC a b))
def e126 (a : List Int) (x : Int) : Option Bool × V := (some (decide (a.length ≤ 1000000)), .sb (hasD a x))
noncomputable def orc6 : Orc := fun f args => if f = 126 then (Ty.ofVs [.slice ity, ity] args).map (fun x => e126 x.1 x.2.1) else (fun f args => if f = 80 then (Ty.ofVs [.slice ity, .slice ity] args).map (fun x => e80 x.1 x.2.1) else orc5 f args) f args
theorem orc6_ok : OrcOk Tryd.prog Γ orc6 :=
 (orc5_ok.plain 80 [.slice ity, .slice ity] (fun x => e80 x.1 x.2.1) Tryd.f80 Tryd.func80 rfl (by kernel_rfl) (fun ⟨l, m, _⟩ h => c80_ok l m (of_decide_eq_true h))).plain 126 [.slice ity, ity] (fun x => e126 x.1 x.2.1) Tryd.f126 Tryd.func126 rfl (by kernel_rfl) (fun ⟨l, m, _⟩ h => c126_ok l m (of_decide_eq_true h))
noncomputable def cfg7 : Cfg := cfgO orc6 lo5
theorem cfg7_ok : CfgOk Tryd.prog Γ cfg7 := cfgO_ok orc6_ok lo5_ok
theorem c42_run (n m : Int) (a b : List Int) : runL cfg7 42 [.agg [.si .i64 n, .slst .ro ity a], .agg [.si .i64 m, .slst .ro ity b]] = .ok (some (decide (a.length ≤ 1000000 ∧ b.length ≤ 1000000))) (V.si .i64 (bif sgn n m != (0 : Int) then sgn n m else bif lexC a b != (0 : Int) then lexC a b else (0 : Int))) := by kernel_rfl
end L
end Go.Proofs.YthjiodeaepigmaaDoor

/- Package label: Valid's loop, printed. -/
set_option linter.unusedVariables false
set_option linter.unusedSimpArgs false
set_option maxRecDepth 100000
set_option maxHeartbeats 4000000
namespace Go.Proofs.YthjiodeaepigmaaDoor
open Go
namespace L
def cmpL (x y : Ty.den lockT) : Int := if sgn (kN x) (kN y) ≠ 0 then sgn (kN x) (kN y) else lexC (kK x) (kK y)
theorem cmp_aux (s l : Int) : (bif s != (0 : Int) then s else bif l != (0 : Int) then l else (0 : Int)) = if s ≠ 0 then s else l := by
 have hb : ∀ x : Int, (x != (0 : Int)) = !decide (x = 0) := fun x => by
  by_cases h : x = 0
  · rw [h]; rfl
  · rw [decide_eq_false h]; simpa using h
 rw [hb, hb]
 by_cases h1 : s = 0
 · by_cases h2 : l = 0 <;> simp [h1, h2]
 · simp [h1]
theorem c42_ok (x y : Ty.den lockT) (h : (kK x).length ≤ 1000000 ∧ (kK y).length ≤ 1000000) : SemF Tryd.prog Γ 42 [lockT.val x, lockT.val y] [] [] (.si .i64 (cmpL x y)) [] [] := by
 obtain ⟨n, a, _⟩ := x
 obtain ⟨m, b, _⟩ := y
 refine of_runL cfg7_ok (c42_run n m a b) (decide_eq_true h) ?_
 exact congrArg (V.si .i64) (cmp_aux _ _)
def e42 (x y : Ty.den lockT) : Option Bool × V := (some (decide ((kK x).length ≤ 1000000 ∧ (kK y).length ≤ 1000000)), .si .i64 (cmpL x y))
noncomputable def orc7 : Orc := fun f args => if f = 42 then (Ty.ofVs [lockT, lockT] args).map (fun x => e42 x.1 x.2.1) else orc6 f args
theorem orc7_ok : OrcOk Tryd.prog Γ orc7 :=
 orc6_ok.plain 42 [lockT, lockT] (fun x => e42 x.1 x.2.1) Tryd.f42 Tryd.func42 rfl (by kernel_rfl) (fun ⟨l, m, _⟩ h => c42_ok l m (of_decide_eq_true h))
noncomputable def cfg8 : Cfg := cfgO orc7 lo5
theorem cfg8_ok : CfgOk Tryd.prog Γ cfg8 := cfgO_ok orc7_ok lo5_ok
def hp_va : HP := { n := 72, lv := [1, 28, 29, 30], sp := [.ptr 0 0, .ty (.slice lockT), .ty ity, .ty ity], op := [.cells [.ty ity, .ty (.slice ity), .ty (.slice conf), .ty ity, .ty ity, .ty (.slice lockT)]], bp := [] }
def lve_va : Ex → List Nat
 | .normal => [1, 28, 29, 30]
 | .ret => [2]
 | .exit 0 => [1]
 | _ => []
theorem bd_va : Tryd.f14.body = some (root 14) := by kernel_rfl
theorem le_va : (loops (root 14))[0]? = some (lp 14 0) := by kernel_rfl
theorem li_va : Lies (root 14) 1 (lp 14 0) := Lies.of_take (n := 0) (by kernel_rfl)
def st_va (l : List (Ty.den lockT)) (n i u : Int) (ev : List Int) (co : List (Ty.den conf)) (t c : Int) (l2 : List (Ty.den lockT)) : St := hp_va.st ⟨((), l, n, i, ()), ((u, ev, co, t, c, l2, ()), ()), ()⟩
noncomputable def rn_va (l : List (Ty.den lockT)) (n i u : Int) (ev : List Int) (co : List (Ty.den conf)) (t c : Int) (l2 : List (Ty.den lockT)) := outa lve_va (evCK Tryd.prog Γ (cfM Tryd.prog Γ cfg8 30) (cfg8.lo 14) [62] 60 1 (lp 14 0) (st_va l n i u ev co t c l2))
theorem rn_va_eq (l : List (Ty.den lockT)) (n i u : Int) (ev : List Int) (co : List (Ty.den conf)) (t c : Int) (l2 : List (Ty.den lockT)) : (rn_va l n i u ev co t c l2).run = (bif decide (i < n) then (bif decide ((0 : Int) ≤ i ∧ i < (l.length : Int)) then (bif (some (decide (List.length (kK (l.getD i.toNat lockT.dflt)) ≤ 1000000) && (!risingD (kK (l.getD i.toNat lockT.dflt)) (19 : Int) || ((!bif decide ((kN (l.getD i.toNat lockT.dflt)) ≥ (1 : Int)) then decide ((kN (l.getD i.toNat lockT.dflt)) ≤ (Nat.cast ((List.length (kK (l.getD i.toNat lockT.dflt)))) : Int)) else false) || (!decide (i > (0 : Int)) || decide ((0 : Int) ≤ IntKind.i64.wrap (i - (1 : Int)) ∧ IntKind.i64.wrap (i - (1 : Int)) < (l2.length : Int)) && decide ((kK (l2.getD (IntKind.i64.wrap (i - (1 : Int))).toNat lockT.dflt)).length ≤ 1000000 ∧ (kK (l.getD i.toNat lockT.dflt)).length ≤ 1000000)))))).getD true then (bif bif !risingD (kK (l.getD i.toNat lockT.dflt)) (19 : Int) then true else bif !bif decide ((kN (l.getD i.toNat lockT.dflt)) ≥ (1 : Int)) then decide ((kN (l.getD i.toNat lockT.dflt)) ≤ (Nat.cast ((List.length (kK (l.getD i.toNat lockT.dflt)))) : Int)) else false then true else bif decide (i > (0 : Int)) then decide (cmpL (l2.getD (IntKind.i64.wrap (i - (1 : Int))).toNat lockT.dflt) (l.getD i.toNat lockT.dflt) ≥ (0 : Int)) else false then (some (Ex.ret, [V.b false], [], [], 72, 0, 0)) else (some (Ex.normal, [V.ptr 0 0, V.slst .ro lockT l, V.si .i64 n, V.si .i64 (IntKind.i64.wrap (i + (1 : Int)))], [some [V.si .i64 u, V.slst .ro ity ev, V.slst .ro conf co, V.si .i64 t, V.si .i64 c, V.slst .ro lockT l2]], [], 72, 0, 0))) else none) else none) else (some (Ex.exit 0, [V.ptr 0 0], [some [V.si .i64 u, V.slst .ro ity ev, V.slst .ro conf co, V.si .i64 t, V.si .i64 c, V.slst .ro lockT l2]], [], 72, 0, 0))) := by kernel_rfl
theorem rn_va_c (l : List (Ty.den lockT)) (n i u : Int) (ev : List Int) (co : List (Ty.den conf)) (t c : Int) (l2 : List (Ty.den lockT)) {e : Ex} {vs : List V} {ob : Ob} {nm : Nm} {n' kh kt : Nat} (h : (rn_va l n i u ev co t c l2).run = some (e, vs, ob, nm, n', kh, kt)) : SemC Tryd.prog Γ (lp 14 0) (st_va l n i u ev co t c l2) e.to (St.of n' (lve_va e) vs ob nm kh kt) := SemC.of_evM cfg8_ok Tryd.func14 bd_va li_va h
def lkB (l : List (Ty.den lockT)) (i : Nat) : Bool := risingD (kK (l.getD i lockT.dflt)) 19 && (decide (kN (l.getD i lockT.dflt) ≥ 1) && decide (kN (l.getD i lockT.dflt) ≤ (kK (l.getD i lockT.dflt)).length)) && (!decide ((i : Int) > 0) || decide (cmpL (l.getD (i - 1) lockT.dflt) (l.getD i lockT.dflt) < 0))
theorem va_aux {α : Type} (r a b g z : Bool) (x y : α) : (bif bif !r then true else bif !bif a then b else false then true else bif g then !z else false then x else y) = bif (r && (a && b) && (!g || z)) then y else x := by
 cases r <;> cases a <;> cases b <;> cases g <;> cases z <;> rfl
def locksD (l : List (Ty.den lockT)) : Bool := allI l.length (lkB l)
def szL (l : List (Ty.den lockT)) : Prop := l.length ≤ 1000000 ∧ ∀ q ∈ l, (kK q).length ≤ 1000000
instance (l : List (Ty.den lockT)) : Decidable (szL l) := inferInstanceAs (Decidable (_ ∧ _))
abbrev pre_va (l : List (Ty.den lockT)) (n i u : Int) (ev : List Int) (co : List (Ty.den conf)) (t c : Int) (l2 : List (Ty.den lockT)) : Prop := l2 = l ∧ n = (l.length : Int) ∧ i = 0 ∧ szL l
def rs_va (l : List (Ty.den lockT)) (n i u : Int) (ev : List Int) (co : List (Ty.den conf)) (t c : Int) (l2 : List (Ty.den lockT)) : Ex × St := if locksD l = true then (.exit 0, St.of 72 (lve_va (.exit 0)) [.ptr 0 0] [some [.si .i64 u, .slst .ro ity ev, .slst .ro conf co, .si .i64 t, .si .i64 c, .slst .ro lockT l2]] [] hp_va.kh hp_va.kt) else (.ret, St.of 72 (lve_va (.ret)) [.b false] [] [] hp_va.kh hp_va.kt)
def res_va (l : List (Ty.den lockT)) (n i u : Int) (ev : List Int) (co : List (Ty.den conf)) (t c : Int) (l2 : List (Ty.den lockT)) : Tr (Ex × St) := .br (decide (pre_va l n i u ev co t c l2)) (.br (decide (locksD l = true)) (.leaf (some (.exit 0, St.of 72 (lve_va (.exit 0)) [.ptr 0 0] [some [.si .i64 u, .slst .ro ity ev, .slst .ro conf co, .si .i64 t, .si .i64 c, .slst .ro lockT l2]] [] hp_va.kh hp_va.kt))) (.leaf (some (.ret, St.of 72 (lve_va (.ret)) [.b false] [] [] hp_va.kh hp_va.kt)))) (.leaf none)
def ent_va : LEnt := LEnt.by hp_va fun ⟨(_, l, n, i, _), ((u, ev, co, t, c, l2, _), _), _⟩ => res_va l n i u ev co t c l2
theorem ent_va_ok (hgo : ∀ (l : List (Ty.den lockT)) (n i u : Int) (ev : List Int) (co : List (Ty.den conf)) (t c : Int) (l2 : List (Ty.den lockT)), pre_va l n i u ev co t c l2 → SemL Tryd.prog Γ (lp 14 0) (st_va l n i u ev co t c l2) (rs_va l n i u ev co t c l2).1.to (rs_va l n i u ev co t c l2).2) : EntOk Tryd.prog Γ (lp 14 0) ent_va := LEnt.by_ok fun ⟨(_, l, n, i, _), ((u, ev, co, t, c, l2, _), _), _⟩ _ _ h_ => SemL.br (out := rs_va l n i u ev co t c l2) (Tr.run_ite rfl rfl) (hgo l n i u ev co t c l2) h_
theorem getD_mem {α : Type} {l : List α} {i : Nat} (h : i < l.length) (d : α) : l.getD i d ∈ l := by
 rw [List.getD, List.getElem?_eq_getElem h]; exact List.getElem_mem h
theorem va_eq0 (l : List (Ty.den lockT)) (u : Int) (ev : List Int) (co : List (Ty.den conf)) (t c : Int) (hs : szL l) (i : Nat) (hi : i < l.length) : (rn_va l l.length i u ev co t c l).run = (bif lkB l i then (some (Ex.normal, [V.ptr (0 : Nat) (0 : Nat), V.slst Tag.ro lockT l, V.si IntKind.i64 l.length, V.si IntKind.i64 ((i + 1 : Nat) : Int)], [some [V.si IntKind.i64 u, V.slst Tag.ro ity ev, V.slst Tag.ro conf co, V.si IntKind.i64 t, V.si IntKind.i64 c, V.slst Tag.ro lockT l]], [], (72 : Nat), (0 : Nat), (0 : Nat))) else (some (Ex.ret, [V.b false], [], [], (72 : Nat), (0 : Nat), (0 : Nat)))) := by
 have hl := hs.1
 have hw : IntKind.i64.wrap ((i : Int) + 1) = ((i + 1 : Nat) : Int) := by rw [wrap_in (by omega) (by omega)]; rfl
 have hk := hs.2 _ (getD_mem hi lockT.dflt)
 rw [rn_va_eq, hw, decide_eq_true (by omega : (i : Int) < l.length), decide_eq_true (by omega : (0 : Int) ≤ (i : Int) ∧ (i : Int) < l.length), Int.toNat_natCast]
 have hchk : (!decide ((i : Int) > 0) || decide ((0 : Int) ≤ IntKind.i64.wrap ((i : Int) - 1) ∧ IntKind.i64.wrap ((i : Int) - 1) < (Nat.cast l.length : Int)) && decide ((kK (l.getD (IntKind.i64.wrap ((i : Int) - (1 : Int))).toNat lockT.dflt)).length ≤ 1000000 ∧ (kK (l.getD i lockT.dflt)).length ≤ 1000000)) = true := by
  by_cases h0 : (i : Int) > 0
  · have hw2 : IntKind.i64.wrap ((i : Int) - 1) = ((i - 1 : Nat) : Int) := by rw [wrap_in (by omega) (by omega)]; omega
    have hk2 := hs.2 _ (getD_mem (show i - 1 < l.length by omega) lockT.dflt)
    rw [hw2, Int.toNat_natCast, decide_eq_true (show (0 : Int) ≤ ((i - 1 : Nat) : Int) ∧ ((i - 1 : Nat) : Int) < (Nat.cast l.length : Int) by omega), decide_eq_true (And.intro hk2 hk), Bool.and_self, Bool.or_true]
  · rw [decide_eq_false h0]; rfl
 rw [hchk, decide_eq_true hk]
 simp only [Bool.or_true, Bool.and_true, Option.getD_some, cond_true]
 have h5 : (bif decide ((i : Int) > 0) then decide (cmpL (l.getD (IntKind.i64.wrap ((i : Int) - (1 : Int))).toNat lockT.dflt) (l.getD i lockT.dflt) ≥ 0) else false) = bif decide ((i : Int) > 0) then !decide (cmpL (l.getD (i - 1) lockT.dflt) (l.getD i lockT.dflt) < 0) else false := by
  by_cases h0 : (i : Int) > 0
  · have hw2 : IntKind.i64.wrap ((i : Int) - 1) = ((i - 1 : Nat) : Int) := by rw [wrap_in (by omega) (by omega)]; omega
    rw [hw2, Int.toNat_natCast, decide_eq_true h0]
    show decide (_ ≥ (0 : Int)) = !decide (_ < (0 : Int))
    by_cases h : cmpL (l.getD (i - 1) lockT.dflt) (l.getD i lockT.dflt) < 0
    · rw [decide_eq_false (by omega), decide_eq_true h]; rfl
    · rw [decide_eq_true (by omega), decide_eq_false h]; rfl
  · rw [decide_eq_false h0]; rfl
 rw [h5, va_aux]
 rfl
end L
end Go.Proofs.YthjiodeaepigmaaDoor

/- Package label: Valid, ValidMoment. -/
set_option linter.unusedVariables false
set_option linter.unusedSimpArgs false
set_option maxRecDepth 100000
set_option maxHeartbeats 4000000
namespace Go.Proofs.YthjiodeaepigmaaDoor
open Go
namespace L
theorem va_go (l : List (Ty.den lockT)) (n i u : Int) (ev : List Int) (co : List (Ty.den conf)) (t c : Int) (l2 : List (Ty.den lockT)) (h : pre_va l n i u ev co t c l2) : SemL Tryd.prog Γ (lp 14 0) (st_va l n i u ev co t c l2) (rs_va l n i u ev co t c l2).1.to (rs_va l n i u ev co t c l2).2 := by
 obtain ⟨rfl, rfl, rfl, hs⟩ := h
 have hl := hs.1
 refine SemL.scan l2.length 0 (Nat.zero_le _) (fun i => st_va l2 l2.length (i : Nat) u ev co t c l2) (lkB l2) _ ?_ ?_ ?_
 · intro i _ hi hb hp
   refine rn_va_c l2 l2.length i u ev co t c l2 (e := .normal) ?_
   rw [va_eq0 l2 u ev co t c hs i hi, hp]
   rfl
 · intro i _ hi hb hp
   have hr : ¬ locksD l2 = true := by unfold locksD; rw [allI_false hi hp]; simp
   unfold rs_va
   rw [if_neg hr]
   refine ⟨by simp [Ex.to], rn_va_c l2 l2.length i u ev co t c l2 (e := .ret) ?_⟩
   rw [va_eq0 l2 u ev co t c hs i hi, hp]
   rfl
 · intro hb
   have hr : locksD l2 = true := allI_true.2 fun i hi => hb i (Nat.zero_le _) hi
   unfold rs_va
   rw [if_pos hr]
   refine ⟨by simp [Ex.to], rn_va_c l2 l2.length l2.length u ev co t c l2 (e := .exit 0) ?_⟩
   rw [rn_va_eq, decide_eq_false (by omega)]
   rfl
def lo8 : LOrc := (LOrc.add lo5 14 0 ent_va)
theorem lo8_ok : LOrcOk Tryd.prog Γ lo8 := (LOrcOk.add lo5_ok 14 0 Tryd.func14 bd_va le_va (ent_va_ok va_go))
noncomputable def cfg9 : Cfg := cfgO orc7 lo8
theorem cfg9_ok : CfgOk Tryd.prog Γ cfg9 := cfgO_ok orc7_ok lo8_ok
theorem c14_run (u : Int) (ev : List Int) (co : List (Ty.den conf)) (t c : Int) (l : List (Ty.den lockT)) : runL cfg9 14 [.agg [.si .i64 u, .slst .ro ity ev, .slst .ro conf co, .si .i64 t, .si .i64 c, .slst .ro lockT l]] = .ok (some ((bif !bif decide (u ≥ (0 : Int)) then decide (u ≤ (50000000 : Int)) else false then true else bif !bif decide (t ≥ (0 : Int)) then decide (t ≤ (255 : Int)) else false then true else bif !bif decide (c ≥ (0 : Int)) then decide (c ≤ (255 : Int)) else false then true else decide ((l.length : Int) > (4 : Int))) || decide (pre_va l (l.length : Int) (0 : Int) u ev co t c l) && (!decide (locksD l = true) || decide (ev.length ≤ 1000000) && (!risingD ev (19 : Int) || decide (co.length ≤ 1000000))))) (V.sb (bif bif !bif decide (u ≥ (0 : Int)) then decide (u ≤ (50000000 : Int)) else false then true else bif !bif decide (t ≥ (0 : Int)) then decide (t ≤ (255 : Int)) else false then true else bif !bif decide (c ≥ (0 : Int)) then decide (c ≤ (255 : Int)) else false then true else decide ((l.length : Int) > (4 : Int)) then false else bif decide (locksD l = true) then bif risingD ev (19 : Int) then countsD co (1 : Int) else false else false)) := by kernel_rfl
theorem c28_run (n d : Int) (ev : List Int) (co : List (Ty.den conf)) (ks : List Int) : runL cfg9 28 [.agg [.si .i64 n, .si .i64 d, .slst .ro ity ev, .slst .ro conf co, .slst .ro ity ks]] = .ok (some ((some ((!bif decide (n ≥ (0 : Int)) then decide (n ≤ (50000000 : Int)) else false) || ((!bif decide (d ≥ (0 : Int)) then decide (d ≤ (1440 : Int)) else false) || decide (ev.length ≤ 1000000) && (!risingD ev (19 : Int) || decide (co.length ≤ 1000000) && (!countsD co (0 : Int) || decide (ks.length ≤ 1000000)))))).getD true)) (V.sb (bif bif decide (n ≥ (0 : Int)) then decide (n ≤ (50000000 : Int)) else false then bif bif decide (d ≥ (0 : Int)) then decide (d ≤ (1440 : Int)) else false then bif risingD ev (19 : Int) then bif countsD co (0 : Int) then risingD ks (19 : Int) else false else false else false else false)) := by kernel_rfl
end L
end Go.Proofs.YthjiodeaepigmaaDoor

/- Package label: Valid, ValidMoment as contracts; searching with closures, printed. -/
set_option linter.unusedVariables false
set_option linter.unusedSimpArgs false
set_option maxRecDepth 100000
set_option maxHeartbeats 4000000
namespace Go.Proofs.YthjiodeaepigmaaDoor
open Go
namespace L
def inR (x a b : Int) : Bool := decide (x ≥ a) && decide (x ≤ b)
theorem v14_aux (a1 a2 b1 b2 c1 c2 g k r q : Bool) : (bif bif !bif a1 then a2 else false then true else bif !bif b1 then b2 else false then true else bif !bif c1 then c2 else false then true else g then false else bif k then bif r then q else false else false) = ((a1 && a2) && (b1 && b2) && (c1 && c2) && !g && k && r && q) := by
 revert a1 a2 b1 b2 c1 c2 g k r q; decide
theorem v28_aux (a1 a2 b1 b2 r q s : Bool) : (bif bif a1 then a2 else false then bif bif b1 then b2 else false then bif r then bif q then s else false else false else false else false) = ((a1 && a2) && (b1 && b2) && r && q && s) := by
 revert a1 a2 b1 b2 r q s; decide
def validE (u : Int) (ev : List Int) (co : List (Ty.den conf)) (t c : Int) (l : List (Ty.den lockT)) : Bool := inR u 0 50000000 && inR t 0 255 && inR c 0 255 && !decide ((l.length : Int) > 4) && locksD l && risingD ev 19 && countsD co 1
def szE (ev : List Int) (co : List (Ty.den conf)) (l : List (Ty.den lockT)) : Prop := ev.length ≤ 1000000 ∧ co.length ≤ 1000000 ∧ szL l
instance (ev : List Int) (co : List (Ty.den conf)) (l : List (Ty.den lockT)) : Decidable (szE ev co l) := inferInstanceAs (Decidable (_ ∧ _))
def validM (n d : Int) (ev : List Int) (co : List (Ty.den conf)) (ks : List Int) : Bool := inR n 0 50000000 && inR d 0 1440 && risingD ev 19 && countsD co 0 && risingD ks 19
def szM (ev : List Int) (co : List (Ty.den conf)) (ks : List Int) : Prop := ev.length ≤ 1000000 ∧ co.length ≤ 1000000 ∧ ks.length ≤ 1000000
instance (ev : List Int) (co : List (Ty.den conf)) (ks : List Int) : Decidable (szM ev co ks) := inferInstanceAs (Decidable (_ ∧ _))
theorem c14_ok (u : Int) (ev : List Int) (co : List (Ty.den conf)) (t c : Int) (l : List (Ty.den lockT)) (h : szE ev co l) : SemF Tryd.prog Γ 14 [labT.val (u, ev, co, t, c, l, ())] [] [] (.sb (validE u ev co t c l)) [] [] :=
 of_runL cfg9_ok (c14_run u ev co t c l) (by
  have hp : pre_va l (Nat.cast l.length : Int) 0 u ev co t c l := ⟨rfl, rfl, rfl, h.2.2⟩
  rw [decide_eq_true hp, decide_eq_true h.1, decide_eq_true h.2.1]
  simp) (by
  rw [v14_aux]
  have : decide (locksD l = true) = locksD l := by cases locksD l <;> rfl
  rw [this]
  rfl)
theorem c28_ok (n d : Int) (ev : List Int) (co : List (Ty.den conf)) (ks : List Int) (h : szM ev co ks) : SemF Tryd.prog Γ 28 [momT.val (n, d, ev, co, ks, ())] [] [] (.sb (validM n d ev co ks)) [] [] :=
 of_runL cfg9_ok (c28_run n d ev co ks) (by rw [decide_eq_true h.1, decide_eq_true h.2.1, decide_eq_true h.2.2]; simp) (by rw [v28_aux]; rfl)
def e14' (u : Int) (ev : List Int) (co : List (Ty.den conf)) (t c : Int) (l : List (Ty.den lockT)) : Option Bool × V := (some (decide (szE ev co l)), .sb (validE u ev co t c l))
def e28' (n d : Int) (ev : List Int) (co : List (Ty.den conf)) (ks : List Int) : Option Bool × V := (some (decide (szM ev co ks)), .sb (validM n d ev co ks))
def e14 (x : Ty.den labT) : Option Bool × V := e14' x.1 x.2.1 x.2.2.1 x.2.2.2.1 x.2.2.2.2.1 x.2.2.2.2.2.1
def e28 (x : Ty.den momT) : Option Bool × V := e28' x.1 x.2.1 x.2.2.1 x.2.2.2.1 x.2.2.2.2.1
theorem e14'_of (u : Int) (ev : List Int) (co : List (Ty.den conf)) (t c : Int) (l : List (Ty.den lockT)) (h : (e14' u ev co t c l).1.getD true = true) : SemF Tryd.prog Γ 14 [labT.val (u, ev, co, t, c, l, ())] [] [] (e14' u ev co t c l).2 [] [] := c14_ok u ev co t c l (of_decide_eq_true h)
theorem e28'_of (n d : Int) (ev : List Int) (co : List (Ty.den conf)) (ks : List Int) (h : (e28' n d ev co ks).1.getD true = true) : SemF Tryd.prog Γ 28 [momT.val (n, d, ev, co, ks, ())] [] [] (e28' n d ev co ks).2 [] [] := c28_ok n d ev co ks (of_decide_eq_true h)
theorem e14_of (x : Ty.den labT) (h : (e14 x).1.getD true = true) : SemF Tryd.prog Γ 14 [labT.val x] [] [] (e14 x).2 [] [] := e14'_of x.1 x.2.1 x.2.2.1 x.2.2.2.1 x.2.2.2.2.1 x.2.2.2.2.2.1 h
theorem e28_of (x : Ty.den momT) (h : (e28 x).1.getD true = true) : SemF Tryd.prog Γ 28 [momT.val x] [] [] (e28 x).2 [] [] := e28'_of x.1 x.2.1 x.2.2.1 x.2.2.2.1 x.2.2.2.2.1 h
noncomputable def orc9 : Orc := fun f args => if f = 28 then (Ty.ofVs [momT] args).map (fun x => e28 x.1) else (fun f args => if f = 14 then (Ty.ofVs [labT] args).map (fun x => e14 x.1) else orc7 f args) f args
theorem orc9_ok : OrcOk Tryd.prog Γ orc9 :=
 (orc7_ok.plain 14 [labT] (fun x => e14 x.1) Tryd.f14 Tryd.func14 rfl (by kernel_rfl) (fun x h => e14_of x.1 h)).plain 28 [momT] (fun x => e28 x.1) Tryd.f28 Tryd.func28 rfl (by kernel_rfl) (fun x h => e28_of x.1 h)
noncomputable def cfg10 : Cfg := cfgO orc9 lo8
theorem cfg10_ok : CfgOk Tryd.prog Γ cfg10 := cfgO_ok orc9_ok lo8_ok
theorem scan_find {b : Code} {α : Type} (a : List α) (d : α) (p : α → Bool) (emb stR : Nat → St) (stE : St) (k : Nat)
 (hn : ∀ i, i < a.length → p (a.getD i d) = false → SemC Tryd.prog Γ b (emb i) .normal (emb (i + 1))) (hr : ∀ i, i < a.length → p (a.getD i d) = true → SemC Tryd.prog Γ b (emb i) .ret (stR i)) (he : SemC Tryd.prog Γ b (emb a.length) (.exit k) stE) :
 SemL Tryd.prog Γ b (emb 0) (if a.findIdx p < a.length then (Ex.ret, stR (a.findIdx p)) else (Ex.exit k, stE)).1.to (if a.findIdx p < a.length then (Ex.ret, stR (a.findIdx p)) else (Ex.exit k, stE)).2 := by
 refine SemL.scan a.length 0 (Nat.zero_le _) emb (fun i => !p (a.getD i d)) _ ?_ ?_ ?_
 · intro i _ hi _ hp
   exact hn i hi (by simpa using hp)
 · intro i _ hi hb hp
   have hp' : p (a.getD i d) = true := by simpa using hp
   have e : a.findIdx p = i := findIdx_at d hi (fun j hj => by simpa using hb j (Nat.zero_le _) hj) hp'
   rw [if_pos (by omega), e]
   exact ⟨by simp [Ex.to], hr i hi hp'⟩
 · intro hb
   have e : a.findIdx p = a.length := findIdx_no d (fun j hj => by simpa using hb j (Nat.zero_le _) hj)
   rw [if_neg (by omega)]
   exact ⟨by simp [Ex.to], he⟩
def hp_ic : HP := { n := 19, lv := [0, 1, 7, 8], sp := [.ty (.slice ity), .fn 125 [.pea [.ty (.slice ity)]], .ty ity, .ty ity], op := [], bp := [] }
def lve_ic : Ex → List Nat
 | .normal => [0, 1, 7, 8]
 | .ret => [4]
 | .exit 0 => []
 | _ => []
theorem bd_ic : Tryd.f124.body = some (root 124) := by kernel_rfl
theorem le_ic : (loops (root 124))[0]? = some (lp 124 0) := by kernel_rfl
theorem li_ic : Lies (root 124) 1 (lp 124 0) := Lies.of_take (n := 0) (by kernel_rfl)
def st_ic (a b : List Int) (n i : Int) : St := hp_ic.st ⟨(a, ((b, ()), ()), n, i, ()), (), ()⟩
noncomputable def rn_ic (a b : List Int) (n i : Int) := outa lve_ic (evCK Tryd.prog Γ (cfM Tryd.prog Γ cfg10 30) (cfg10.lo 124) [] 60 1 (lp 124 0) (st_ic a b n i))
theorem rn_ic_eq (a b : List Int) (n i : Int) : (rn_ic a b n i).run = (bif decide (i < n) then (bif decide ((0 : Int) ≤ i ∧ i < (a.length : Int)) then (bif decide (b.length ≤ 1000000) then (bif !hasD b (a.getD i.toNat (0 : Int)) then (some (Ex.ret, [V.si .i64 i], [], [], 19, 0, 0)) else (some (Ex.normal, [V.slst .ro ity a, V.fn (Fn.func (125 : FuncId)) [] [V.pel [V.agg [V.slst .ro ity b]] (0 : Nat) (0 : Nat)], V.si .i64 n, V.si .i64 (IntKind.i64.wrap (i + (1 : Int)))], [], [], 19, 0, 0))) else none) else none) else (some (Ex.exit 0, [], [], [], 19, 0, 0))) := by kernel_rfl
theorem rn_ic_c (a b : List Int) (n i : Int) {e : Ex} {vs : List V} {ob : Ob} {nm : Nm} {n' kh kt : Nat} (h : (rn_ic a b n i).run = some (e, vs, ob, nm, n', kh, kt)) : SemC Tryd.prog Γ (lp 124 0) (st_ic a b n i) e.to (St.of n' (lve_ic e) vs ob nm kh kt) := SemC.of_evM cfg10_ok Tryd.func124 bd_ic li_ic h
abbrev pre_ic (a b : List Int) (n i : Int) : Prop := n = (a.length : Int) ∧ i = 0 ∧ a.length ≤ 1000000 ∧ b.length ≤ 1000000
def rs_ic (a b : List Int) (n i : Int) : Ex × St := if a.findIdx (fun y => !hasD b y) < a.length then (.ret, St.of 19 (lve_ic (.ret)) [.si .i64 (a.findIdx (fun y => !hasD b y) : Nat)] [] [] hp_ic.kh hp_ic.kt) else (.exit 0, St.of 19 (lve_ic (.exit 0)) [] [] [] hp_ic.kh hp_ic.kt)
def res_ic (a b : List Int) (n i : Int) : Tr (Ex × St) := .br (decide (pre_ic a b n i)) (.br (decide (a.findIdx (fun y => !hasD b y) < a.length)) (.leaf (some (.ret, St.of 19 (lve_ic (.ret)) [.si .i64 (a.findIdx (fun y => !hasD b y) : Nat)] [] [] hp_ic.kh hp_ic.kt))) (.leaf (some (.exit 0, St.of 19 (lve_ic (.exit 0)) [] [] [] hp_ic.kh hp_ic.kt)))) (.leaf none)
def ent_ic : LEnt := LEnt.by hp_ic fun ⟨(a, ((b, _), _), n, i, _), _, _⟩ => res_ic a b n i
theorem ent_ic_ok (hgo : ∀ (a b : List Int) (n i : Int), pre_ic a b n i → SemL Tryd.prog Γ (lp 124 0) (st_ic a b n i) (rs_ic a b n i).1.to (rs_ic a b n i).2) : EntOk Tryd.prog Γ (lp 124 0) ent_ic := LEnt.by_ok fun ⟨(a, ((b, _), _), n, i, _), _, _⟩ _ _ h_ => SemL.br (out := rs_ic a b n i) (Tr.run_ite rfl rfl) (hgo a b n i) h_
theorem ic_go (a b : List Int) (n i : Int) (h : pre_ic a b n i) : SemL Tryd.prog Γ (lp 124 0) (st_ic a b n i) (rs_ic a b n i).1.to (rs_ic a b n i).2 := by
 obtain ⟨rfl, rfl, ha, hb⟩ := h
 refine scan_find a 0 (fun y => !hasD b y) (fun i => st_ic a b a.length (i : Nat)) (fun i => St.of 19 (lve_ic .ret) [.si .i64 (i : Nat)] [] [] 0 0) _ 0 (fun i hi hp => ?_) (fun i hi hp => ?_) ?_
 · refine rn_ic_c a b a.length i (e := .normal) ?_
   have hw : IntKind.i64.wrap ((i : Int) + 1) = ((i + 1 : Nat) : Int) := by rw [wrap_in (by omega) (by omega)]; rfl
   rw [rn_ic_eq, hw, decide_eq_true (by omega : (i : Int) < a.length), decide_eq_true (by omega : (0 : Int) ≤ (i : Int) ∧ (i : Int) < a.length), Int.toNat_natCast, decide_eq_true hb, hp]
   rfl
 · refine rn_ic_c a b a.length i (e := .ret) ?_
   rw [rn_ic_eq, decide_eq_true (by omega : (i : Int) < a.length), decide_eq_true (by omega : (0 : Int) ≤ (i : Int) ∧ (i : Int) < a.length), Int.toNat_natCast, decide_eq_true hb, hp]
   rfl
 · refine rn_ic_c a b a.length a.length (e := .exit 0) ?_
   rw [rn_ic_eq, decide_eq_false (by omega)]
   rfl
def enough (f c : Int) (y : Ty.den conf) : Bool := bif cF y == f then decide (cC y ≥ c) else false
def hp_iy : HP := { n := 19, lv := [0, 1, 7, 8], sp := [.ty (.slice conf), .fn 120 [.pel conf], .ty ity, .ty ity], op := [], bp := [] }
def lve_iy : Ex → List Nat
 | .normal => [0, 1, 7, 8]
 | .ret => [4]
 | .exit 0 => []
 | _ => []
theorem bd_iy : Tryd.f127.body = some (root 127) := by kernel_rfl
theorem le_iy : (loops (root 127))[0]? = some (lp 127 0) := by kernel_rfl
theorem li_iy : Lies (root 127) 1 (lp 127 0) := Lies.of_take (n := 0) (by kernel_rfl)
def st_iy (a : List (Ty.den conf)) (xf xc n i : Int) : St := hp_iy.st ⟨(a, ((xf, xc, ()), ()), n, i, ()), (), ()⟩
noncomputable def rn_iy (a : List (Ty.den conf)) (xf xc n i : Int) := outa lve_iy (evCK Tryd.prog Γ (cfM Tryd.prog Γ cfg10 30) (cfg10.lo 127) [3] 60 1 (lp 127 0) (st_iy a xf xc n i))
theorem rn_iy_eq (a : List (Ty.den conf)) (xf xc n i : Int) : (rn_iy a xf xc n i).run = (bif decide (i < n) then (bif decide ((0 : Int) ≤ i ∧ i < (a.length : Int)) then (bif bif (cF (a.getD i.toNat conf.dflt)) == xf then decide ((cC (a.getD i.toNat conf.dflt)) ≥ xc) else false then (some (Ex.ret, [V.si .i64 i], [], [], 19, 0, 0)) else (some (Ex.normal, [V.slst .ro conf a, V.fn (Fn.func (120 : FuncId)) [] [V.pel [V.agg [V.si .i64 xf, V.si .i64 xc]] (0 : Nat) (0 : Nat)], V.si .i64 n, V.si .i64 (IntKind.i64.wrap (i + (1 : Int)))], [], [], 19, 0, 0))) else none) else (some (Ex.exit 0, [], [], [], 19, 0, 0))) := by kernel_rfl
theorem rn_iy_c (a : List (Ty.den conf)) (xf xc n i : Int) {e : Ex} {vs : List V} {ob : Ob} {nm : Nm} {n' kh kt : Nat} (h : (rn_iy a xf xc n i).run = some (e, vs, ob, nm, n', kh, kt)) : SemC Tryd.prog Γ (lp 127 0) (st_iy a xf xc n i) e.to (St.of n' (lve_iy e) vs ob nm kh kt) := SemC.of_evM cfg10_ok Tryd.func127 bd_iy li_iy h
abbrev pre_iy (a : List (Ty.den conf)) (xf xc n i : Int) : Prop := n = (a.length : Int) ∧ i = 0 ∧ a.length ≤ 1000000
def rs_iy (a : List (Ty.den conf)) (xf xc n i : Int) : Ex × St := if a.findIdx (enough xf xc) < a.length then (.ret, St.of 19 (lve_iy (.ret)) [.si .i64 (a.findIdx (enough xf xc) : Nat)] [] [] hp_iy.kh hp_iy.kt) else (.exit 0, St.of 19 (lve_iy (.exit 0)) [] [] [] hp_iy.kh hp_iy.kt)
def res_iy (a : List (Ty.den conf)) (xf xc n i : Int) : Tr (Ex × St) := .br (decide (pre_iy a xf xc n i)) (.br (decide (a.findIdx (enough xf xc) < a.length)) (.leaf (some (.ret, St.of 19 (lve_iy (.ret)) [.si .i64 (a.findIdx (enough xf xc) : Nat)] [] [] hp_iy.kh hp_iy.kt))) (.leaf (some (.exit 0, St.of 19 (lve_iy (.exit 0)) [] [] [] hp_iy.kh hp_iy.kt)))) (.leaf none)
def ent_iy : LEnt := LEnt.by hp_iy fun ⟨(a, ((xf, xc, _), _), n, i, _), _, _⟩ => res_iy a xf xc n i
theorem ent_iy_ok (hgo : ∀ (a : List (Ty.den conf)) (xf xc n i : Int), pre_iy a xf xc n i → SemL Tryd.prog Γ (lp 127 0) (st_iy a xf xc n i) (rs_iy a xf xc n i).1.to (rs_iy a xf xc n i).2) : EntOk Tryd.prog Γ (lp 127 0) ent_iy := LEnt.by_ok fun ⟨(a, ((xf, xc, _), _), n, i, _), _, _⟩ _ _ h_ => SemL.br (out := rs_iy a xf xc n i) (Tr.run_ite rfl rfl) (hgo a xf xc n i) h_
theorem iy_go (a : List (Ty.den conf)) (xf xc n i : Int) (h : pre_iy a xf xc n i) : SemL Tryd.prog Γ (lp 127 0) (st_iy a xf xc n i) (rs_iy a xf xc n i).1.to (rs_iy a xf xc n i).2 := by
 obtain ⟨rfl, rfl, ha⟩ := h
 refine scan_find a conf.dflt (enough xf xc) (fun i => st_iy a xf xc a.length (i : Nat)) (fun i => St.of 19 (lve_iy .ret) [.si .i64 (i : Nat)] [] [] 0 0) _ 0 (fun i hi hp => ?_) (fun i hi hp => ?_) ?_
 · refine rn_iy_c a xf xc a.length i (e := .normal) ?_
   have hw : IntKind.i64.wrap ((i : Int) + 1) = ((i + 1 : Nat) : Int) := by rw [wrap_in (by omega) (by omega)]; rfl
   rw [rn_iy_eq, hw, decide_eq_true (by omega : (i : Int) < a.length), decide_eq_true (by omega : (0 : Int) ≤ (i : Int) ∧ (i : Int) < a.length), Int.toNat_natCast]
   unfold enough at hp
   rw [hp]
   rfl
 · refine rn_iy_c a xf xc a.length i (e := .ret) ?_
   rw [rn_iy_eq, decide_eq_true (by omega : (i : Int) < a.length), decide_eq_true (by omega : (0 : Int) ≤ (i : Int) ∧ (i : Int) < a.length), Int.toNat_natCast]
   unfold enough at hp
   rw [hp]
   rfl
 · refine rn_iy_c a xf xc a.length a.length (e := .exit 0) ?_
   rw [rn_iy_eq, decide_eq_false (by omega)]
   rfl
end L
end Go.Proofs.YthjiodeaepigmaaDoor

/- Package label: searching with further closures, deleting: printed. -/
set_option linter.unusedVariables false
set_option linter.unusedSimpArgs false
set_option maxRecDepth 100000
set_option maxHeartbeats 4000000
namespace Go.Proofs.YthjiodeaepigmaaDoor
open Go
namespace L
def lo10 : LOrc := (LOrc.add (LOrc.add lo8 124 0 ent_ic) 127 0 ent_iy)
theorem lo10_ok : LOrcOk Tryd.prog Γ lo10 := (LOrcOk.add (LOrcOk.add lo8_ok 124 0 Tryd.func124 bd_ic le_ic (ent_ic_ok ic_go)) 127 0 Tryd.func127 bd_iy le_iy (ent_iy_ok iy_go))
noncomputable def cfg11 : Cfg := cfgO orc9 lo10
theorem cfg11_ok : CfgOk Tryd.prog Γ cfg11 := cfgO_ok orc9_ok lo10_ok
def vw : List SP := [.ty ity, .ty (.slice ity), .ty (.slice conf), .ty ity, .ty ity, .ty (.slice lockT), .ty ity, .ty ity, .ty ity, .ty ity, .ty (.slice ity), .ty (.slice conf), .ty (.slice ity)]
def hp_iz : HP := { n := 19, lv := [0, 1, 7, 8], sp := [.ty (.slice conf), .fn 119 [.pea [.pea vw]], .ty ity, .ty ity], op := [], bp := [] }
def lve_iz : Ex → List Nat
 | .normal => [0, 1, 7, 8]
 | .ret => [4]
 | .exit 0 => []
 | _ => []
theorem bd_iz : Tryd.f127.body = some (root 127) := by kernel_rfl
theorem li_iz : Lies (root 127) 1 (lp 127 0) := Lies.of_take (n := 0) (by kernel_rfl)
def st_iz (a : List (Ty.den conf)) (u : Int) (ev : List Int) (co : List (Ty.den conf)) (t c : Int) (l : List (Ty.den lockT)) (rt rc now dr : Int) (me : List Int) (mc : List (Ty.den conf)) (mk : List Int) (n i : Int) : St := hp_iz.st ⟨(a, (((u, ev, co, t, c, l, rt, rc, now, dr, me, mc, mk, ()), ()), ()), n, i, ()), (), ()⟩
noncomputable def rn_iz (a : List (Ty.den conf)) (u : Int) (ev : List Int) (co : List (Ty.den conf)) (t c : Int) (l : List (Ty.den lockT)) (rt rc now dr : Int) (me : List Int) (mc : List (Ty.den conf)) (mk : List Int) (n i : Int) := outa lve_iz (evCK Tryd.prog Γ (cfM Tryd.prog Γ cfg11 30) (cfg11.lo 127) [] 60 1 (lp 127 0) (st_iz a u ev co t c l rt rc now dr me mc mk n i))
theorem rn_iz_eq (a : List (Ty.den conf)) (u : Int) (ev : List Int) (co : List (Ty.den conf)) (t c : Int) (l : List (Ty.den lockT)) (rt rc now dr : Int) (me : List Int) (mc : List (Ty.den conf)) (mk : List Int) (n i : Int) : (rn_iz a u ev co t c l rt rc now dr me mc mk n i).run = (bif decide (i < n) then (bif decide ((0 : Int) ≤ i ∧ i < (a.length : Int)) then (bif decide (pre_iy mc (cF (a.getD i.toNat conf.dflt)) (cC (a.getD i.toNat conf.dflt)) (mc.length : Int) (0 : Int)) then (bif !decide ((bif decide (List.findIdx (enough (cF (a.getD i.toNat conf.dflt)) (cC (a.getD i.toNat conf.dflt))) mc < mc.length) then (Nat.cast ((List.findIdx (enough (cF (a.getD i.toNat conf.dflt)) (cC (a.getD i.toNat conf.dflt))) mc)) : Int) else (-1 : Int)) ≥ (0 : Int)) then (some (Ex.ret, [V.si .i64 i], [], [], 19, 0, 0)) else (some (Ex.normal, [V.slst .ro conf a, V.fn (Fn.func (119 : FuncId)) [] [V.pel [V.agg [V.pel [V.agg [V.si .i64 u, V.slst .ro ity ev, V.slst .ro conf co, V.si .i64 t, V.si .i64 c, V.slst .ro lockT l, V.si .i64 rt, V.si .i64 rc, V.si .i64 now, V.si .i64 dr, V.slst .ro ity me, V.slst .ro conf mc, V.slst .ro ity mk]] (0 : Nat) (0 : Nat)]] (0 : Nat) (0 : Nat)], V.si .i64 n, V.si .i64 (IntKind.i64.wrap (i + (1 : Int)))], [], [], 19, 0, 0))) else none) else none) else (some (Ex.exit 0, [], [], [], 19, 0, 0))) := by kernel_rfl
theorem rn_iz_c (a : List (Ty.den conf)) (u : Int) (ev : List Int) (co : List (Ty.den conf)) (t c : Int) (l : List (Ty.den lockT)) (rt rc now dr : Int) (me : List Int) (mc : List (Ty.den conf)) (mk : List Int) (n i : Int) {e : Ex} {vs : List V} {ob : Ob} {nm : Nm} {n' kh kt : Nat} (h : (rn_iz a u ev co t c l rt rc now dr me mc mk n i).run = some (e, vs, ob, nm, n', kh, kt)) : SemC Tryd.prog Γ (lp 127 0) (st_iz a u ev co t c l rt rc now dr me mc mk n i) e.to (St.of n' (lve_iz e) vs ob nm kh kt) := SemC.of_evM cfg11_ok Tryd.func127 bd_iz li_iz h
def hp_del : HP := { n := 42, lv := [0, 1, 5, 6], sp := [.bz 0, .fn 125 [.pea [.ty (.slice ity)]], .ty ity, .ty ity], op := [], bp := [.arr ity], kt := 1 }
def lve_del : Ex → List Nat
 | .normal => [0, 1, 5, 6]
 | .exit 0 => [0, 5]
 | _ => []
theorem bd_del : Tryd.f123.body = some (root 123) := by kernel_rfl
theorem le_del : (loops (root 123))[0]? = some (lp 123 0) := by kernel_rfl
theorem li_del : Lies (root 123) 1 (lp 123 0) := Lies.of_take (n := 0) (by kernel_rfl)
def st_del (j : Nat) (b : List Int) (k i : Int) (c : List Int) : St := hp_del.st ⟨(j, ((b, ()), ()), k, i, ()), (), (c, ())⟩
noncomputable def rn_del (j : Nat) (b : List Int) (k i : Int) (c : List Int) := outa lve_del (evCK Tryd.prog Γ (cfM Tryd.prog Γ cfg11 30) (cfg11.lo 123) [] 60 1 (lp 123 0) (st_del j b k i c))
theorem rn_del_eq (j : Nat) (b : List Int) (k i : Int) (c : List Int) : (rn_del j b k i c).run = (bif decide (i < (Nat.cast (j) : Int)) then (bif decide ((0 : Int) ≤ i ∧ i < (Nat.cast (j) : Int)) then (bif decide (0 + i.toNat < c.length) then (bif decide (b.length ≤ 1000000) then (bif !!hasD b (c.getD (0 + i.toNat) (0 : Int)) then (bif decide ((0 : Int) ≤ k ∧ k < (Nat.cast (j) : Int)) then (bif decide (0 + k.toNat < c.length) then (some (Ex.normal, [V.bs true 0 0 j, V.fn (Fn.func (125 : FuncId)) [] [V.pel [V.agg [V.slst .ro ity b]] (0 : Nat) (0 : Nat)], V.si .i64 (IntKind.i64.wrap (k + (1 : Int))), V.si .i64 (IntKind.i64.wrap (i + (1 : Int)))], [], [some (Bf.live (.arr ity (c.set (0 + k.toNat) (c.getD (0 + i.toNat) (0 : Int)))))], (42 : Nat), (0 : Nat), (1 : Nat))) else none) else none) else (some (Ex.normal, [V.bs true 0 0 j, V.fn (Fn.func (125 : FuncId)) [] [V.pel [V.agg [V.slst .ro ity b]] (0 : Nat) (0 : Nat)], V.si .i64 k, V.si .i64 (IntKind.i64.wrap (i + (1 : Int)))], [], [some (Bf.live (.arr ity c))], (42 : Nat), (0 : Nat), (1 : Nat)))) else none) else none) else none) else (some (Ex.exit 0, [V.bs true 0 0 j, V.si .i64 k], [], [some (Bf.live (.arr ity c))], (42 : Nat), (0 : Nat), (1 : Nat)))) := by kernel_rfl
end L
end Go.Proofs.YthjiodeaepigmaaDoor

/- Package label: searching and deleting: what the loops leave. -/
set_option linter.unusedVariables false
set_option linter.unusedSimpArgs false
set_option maxRecDepth 100000
set_option maxHeartbeats 4000000
namespace Go.Proofs.YthjiodeaepigmaaDoor
open Go
namespace L
theorem idx_ge {i n : Nat} : decide ((bif decide (i < n) then (Nat.cast i : Int) else (-1 : Int)) ≥ (0 : Int)) = decide (i < n) := by
 by_cases h : i < n
 · rw [decide_eq_true h, cond_true]; exact decide_eq_true (by omega)
 · rw [decide_eq_false h, cond_false]; rfl
def lackC (mc : List (Ty.den conf)) (y : Ty.den conf) : Bool := !decide (mc.findIdx (enough (cF y) (cC y)) < mc.length)
abbrev pre_iz (a : List (Ty.den conf)) (u : Int) (ev : List Int) (co : List (Ty.den conf)) (t c : Int) (l : List (Ty.den lockT)) (rt rc now dr : Int) (me : List Int) (mc : List (Ty.den conf)) (mk : List Int) (n i : Int) : Prop := n = (a.length : Int) ∧ i = 0 ∧ a.length ≤ 1000000 ∧ mc.length ≤ 1000000
def rs_iz (a : List (Ty.den conf)) (u : Int) (ev : List Int) (co : List (Ty.den conf)) (t c : Int) (l : List (Ty.den lockT)) (rt rc now dr : Int) (me : List Int) (mc : List (Ty.den conf)) (mk : List Int) (n i : Int) : Ex × St := if a.findIdx (lackC mc) < a.length then (.ret, St.of 19 (lve_iz (.ret)) [.si .i64 (a.findIdx (lackC mc) : Nat)] [] [] hp_iz.kh hp_iz.kt) else (.exit 0, St.of 19 (lve_iz (.exit 0)) [] [] [] hp_iz.kh hp_iz.kt)
def res_iz (a : List (Ty.den conf)) (u : Int) (ev : List Int) (co : List (Ty.den conf)) (t c : Int) (l : List (Ty.den lockT)) (rt rc now dr : Int) (me : List Int) (mc : List (Ty.den conf)) (mk : List Int) (n i : Int) : Tr (Ex × St) := .br (decide (pre_iz a u ev co t c l rt rc now dr me mc mk n i)) (.br (decide (a.findIdx (lackC mc) < a.length)) (.leaf (some (.ret, St.of 19 (lve_iz (.ret)) [.si .i64 (a.findIdx (lackC mc) : Nat)] [] [] hp_iz.kh hp_iz.kt))) (.leaf (some (.exit 0, St.of 19 (lve_iz (.exit 0)) [] [] [] hp_iz.kh hp_iz.kt)))) (.leaf none)
def ent_iz : LEnt := LEnt.by hp_iz fun ⟨(a, (((u, ev, co, t, c, l, rt, rc, now, dr, me, mc, mk, _), _), _), n, i, _), _, _⟩ => res_iz a u ev co t c l rt rc now dr me mc mk n i
theorem ent_iz_ok (hgo : ∀ (a : List (Ty.den conf)) (u : Int) (ev : List Int) (co : List (Ty.den conf)) (t c : Int) (l : List (Ty.den lockT)) (rt rc now dr : Int) (me : List Int) (mc : List (Ty.den conf)) (mk : List Int) (n i : Int), pre_iz a u ev co t c l rt rc now dr me mc mk n i → SemL Tryd.prog Γ (lp 127 0) (st_iz a u ev co t c l rt rc now dr me mc mk n i) (rs_iz a u ev co t c l rt rc now dr me mc mk n i).1.to (rs_iz a u ev co t c l rt rc now dr me mc mk n i).2) : EntOk Tryd.prog Γ (lp 127 0) ent_iz := LEnt.by_ok fun ⟨(a, (((u, ev, co, t, c, l, rt, rc, now, dr, me, mc, mk, _), _), _), n, i, _), _, _⟩ _ _ h_ => SemL.br (out := rs_iz a u ev co t c l rt rc now dr me mc mk n i) (Tr.run_ite rfl rfl) (hgo a u ev co t c l rt rc now dr me mc mk n i) h_
theorem iz_go (a : List (Ty.den conf)) (u : Int) (ev : List Int) (co : List (Ty.den conf)) (t c : Int) (l : List (Ty.den lockT)) (rt rc now dr : Int) (me : List Int) (mc : List (Ty.den conf)) (mk : List Int) (n i : Int) (h : pre_iz a u ev co t c l rt rc now dr me mc mk n i) :
 SemL Tryd.prog Γ (lp 127 0) (st_iz a u ev co t c l rt rc now dr me mc mk n i) (rs_iz a u ev co t c l rt rc now dr me mc mk n i).1.to (rs_iz a u ev co t c l rt rc now dr me mc mk n i).2 := by
 obtain ⟨rfl, rfl, ha, hm⟩ := h
 refine scan_find a conf.dflt (lackC mc) (fun i => st_iz a u ev co t c l rt rc now dr me mc mk a.length (i : Nat)) (fun i => St.of 19 (lve_iz .ret) [.si .i64 (i : Nat)] [] [] 0 0) _ 0 (fun i hi hp => ?_) (fun i hi hp => ?_) ?_
 · refine rn_iz_c a u ev co t c l rt rc now dr me mc mk a.length i (e := .normal) ?_
   have hw : IntKind.i64.wrap ((i : Int) + 1) = ((i + 1 : Nat) : Int) := by rw [wrap_in (by omega) (by omega)]; rfl
   have hpr : pre_iy mc (cF (a.getD i conf.dflt)) (cC (a.getD i conf.dflt)) (Nat.cast mc.length : Int) 0 := ⟨rfl, rfl, hm⟩
   rw [rn_iz_eq, hw, decide_eq_true (by omega : (i : Int) < a.length), decide_eq_true (by omega : (0 : Int) ≤ (i : Int) ∧ (i : Int) < a.length), Int.toNat_natCast, decide_eq_true hpr, idx_ge]
   unfold lackC at hp
   rw [hp]
   rfl
 · refine rn_iz_c a u ev co t c l rt rc now dr me mc mk a.length i (e := .ret) ?_
   have hpr : pre_iy mc (cF (a.getD i conf.dflt)) (cC (a.getD i conf.dflt)) (Nat.cast mc.length : Int) 0 := ⟨rfl, rfl, hm⟩
   rw [rn_iz_eq, decide_eq_true (by omega : (i : Int) < a.length), decide_eq_true (by omega : (0 : Int) ≤ (i : Int) ∧ (i : Int) < a.length), Int.toNat_natCast, decide_eq_true hpr, idx_ge]
   unfold lackC at hp
   rw [hp]
   rfl
 · refine rn_iz_c a u ev co t c l rt rc now dr me mc mk a.length a.length (e := .exit 0) ?_
   rw [rn_iz_eq, decide_eq_false (by omega)]
   rfl
def il (l : List Int) : Option Bf := some (.live (.arr (.int .i64) l))
theorem app_get {D c : List Int} {p : Nat} (h : D.length ≤ p) : (D ++ c.drop D.length).getD p 0 = c.getD p 0 := by
 simp only [List.getD]
 rw [List.getElem?_append_right h, List.getElem?_drop, Nat.add_sub_cancel' h]
theorem set_app {D c : List Int} {x : Int} (h : D.length < c.length) : (D ++ c.drop D.length).set D.length x = (D ++ [x]) ++ c.drop (D.length + 1) := by
 rw [List.set_append_right _ _ (Nat.le_refl _), Nat.sub_self, List.drop_eq_getElem_cons h, List.set_cons_zero, List.append_assoc]
 rfl
def kp (b c : List Int) (i : Nat) : List Int := (c.take i).filter (hasD b)
def kpL (b c : List Int) (i : Nat) : List Int := kp b c i ++ c.drop (kp b c i).length
theorem kp_le (b c : List Int) (i : Nat) : (kp b c i).length ≤ i := Nat.le_trans (List.length_filter_le _ _) (by rw [List.length_take]; omega)
theorem kp_succ {b c : List Int} {i : Nat} (h : i < c.length) : kp b c (i + 1) = kp b c i ++ (bif hasD b (c.getD i 0) then [c.getD i 0] else []) := by
 unfold kp
 rw [List.take_add_one, List.getElem?_eq_getElem h, List.filter_append]
 have : c.getD i 0 = c[i] := by simp [List.getD, h]
 rw [this]
 cases ho : hasD b c[i] <;> simp [ho]
theorem kpL_len {b c : List Int} {i : Nat} (h : i ≤ c.length) : (kpL b c i).length = c.length := by
 have := kp_le b c i
 unfold kpL
 rw [List.length_append, List.length_drop]; omega
theorem kpL_get {b c : List Int} {i p : Nat} (h : i ≤ p) : (kpL b c i).getD p 0 = c.getD p 0 := app_get (Nat.le_trans (kp_le b c i) h)
theorem kp_at {b c : List Int} (h : c.findIdx (fun y => !hasD b y) < c.length) : kp b c (c.findIdx (fun y => !hasD b y) + 1) = c.take (c.findIdx (fun y => !hasD b y)) := by
 have h1 : kp b c (c.findIdx (fun y => !hasD b y)) = c.take (c.findIdx (fun y => !hasD b y)) := by
  unfold kp
  rw [List.filter_eq_self]
  intro x hx
  obtain ⟨i, hi, rfl⟩ := List.getElem_of_mem hx
  rw [List.length_take] at hi
  have := findIdx_before (l := c) (p := fun y => !hasD b y) 0 (j := i) (by omega)
  simp only [List.getD, List.getElem?_eq_getElem (show i < c.length by omega), Option.getD_some] at this
  simpa using this
 have h2 := findIdx_here (l := c) (p := fun y => !hasD b y) 0 h
 have h2 : hasD b (c.getD (c.findIdx fun y => !hasD b y) 0) = false := by simpa using h2
 rw [kp_succ h, h1, h2]
 simp
abbrev pre_del (j : Nat) (b : List Int) (k i : Int) (c : List Int) : Prop := j = c.length ∧ j ≤ 1000000 ∧ b.length ≤ 1000000 ∧ 0 ≤ k ∧ k < (j : Int) ∧ i = k + 1 ∧ (c.findIdx (fun y => !hasD b y) : Int) = k
def rs_del (j : Nat) (b : List Int) (k i : Int) (c : List Int) : Ex × St := (.exit 0, St.of 42 (lve_del (.exit 0)) [.bs true 0 0 j, .si .i64 ((kp b c j).length : Nat)] [] [il (kpL b c j)] hp_del.kh hp_del.kt)
def res_del (j : Nat) (b : List Int) (k i : Int) (c : List Int) : Tr (Ex × St) := .br (decide (pre_del j b k i c)) (.leaf (some (.exit 0, St.of 42 (lve_del (.exit 0)) [.bs true 0 0 j, .si .i64 ((kp b c j).length : Nat)] [] [il (kpL b c j)] hp_del.kh hp_del.kt))) (.leaf none)
def ent_del : LEnt := LEnt.by hp_del fun ⟨(j, ((b, _), _), k, i, _), _, (c, _)⟩ => res_del j b k i c
theorem ent_del_ok (hgo : ∀ (j : Nat) (b : List Int) (k i : Int) (c : List Int), pre_del j b k i c → SemL Tryd.prog Γ (lp 123 0) (st_del j b k i c) (rs_del j b k i c).1.to (rs_del j b k i c).2) : EntOk Tryd.prog Γ (lp 123 0) ent_del := LEnt.by_ok fun ⟨(j, ((b, _), _), k, i, _), _, (c, _)⟩ _ _ h_ => SemL.br (out := rs_del j b k i c) rfl (hgo j b k i c) h_
theorem del_go (j : Nat) (b : List Int) (k i : Int) (c : List Int) (h : pre_del j b k i c) : SemL Tryd.prog Γ (lp 123 0) (st_del j b k i c) (rs_del j b k i c).1.to (rs_del j b k i c).2 := by
 obtain ⟨hj, hj2, hb, h0, hk, rfl, hk2⟩ := h
 obtain ⟨k0, rfl⟩ := Int.eq_ofNat_of_zero_le h0
 have hk : k0 < j := by omega
 have hk2 : c.findIdx (fun y => !hasD b y) = k0 := by omega
 have e0 : kp b c (k0 + 1) = c.take k0 := by rw [← hk2]; exact kp_at (by omega)
 have e1 : (kp b c (k0 + 1)).length = k0 := by rw [e0, List.length_take]; omega
 have e2 : kpL b c (k0 + 1) = c := by unfold kpL; rw [e1, e0, List.take_append_drop]
 have key := SemL.scan (P := Tryd.prog) (Γ := Γ) (b := lp 123 0) j (k0 + 1) (by omega) (fun i => st_del j b ((kp b c i).length : Nat) (i : Nat) (kpL b c i)) (fun _ => true) (rs_del j b (k0 : Nat) ((k0 : Int) + 1) c) ?_ ?_ ?_
 · simp only [e1, e2] at key
   exact key
 · intro i h1 h2 _ _
   have hw : IntKind.i64.wrap ((i : Int) + 1) = ((i + 1 : Nat) : Int) := by rw [wrap_in (by omega) (by omega)]; rfl
   have hle := kp_le b c i
   have hw2 : IntKind.i64.wrap (((kp b c i).length : Int) + 1) = (((kp b c i).length + 1 : Nat) : Int) := by rw [wrap_in (by omega) (by omega)]; rfl
   have hL := kpL_len (b := b) (c := c) (i := i) (by omega)
   have hs := kp_succ (b := b) (c := c) (i := i) (by omega)
   have eq := rn_del_eq j b (kp b c i).length i (kpL b c i)
   rw [hw, hw2, hL, Int.toNat_natCast, Int.toNat_natCast, Nat.zero_add, Nat.zero_add, kpL_get (Nat.le_refl _), decide_eq_true (by omega : (i : Int) < j), decide_eq_true (by omega : (0 : Int) ≤ (i : Int) ∧ (i : Int) < j), decide_eq_true (by omega : i < c.length), decide_eq_true hb] at eq
   cases hbb : hasD b (c.getD i 0) with
   | false =>
    rw [hbb] at eq hs
    simp only [cond_false, List.append_nil] at hs
    have := SemC.of_evM cfg11_ok Tryd.func123 bd_del li_del (eq.trans rfl)
    have hkl : kpL b c (i + 1) = kpL b c i := by unfold kpL; rw [hs]
    rw [hs, hkl]
    exact this
   | true =>
    rw [hbb] at eq hs
    simp only [cond_true] at hs
    rw [decide_eq_true (by omega : (0 : Int) ≤ ((kp b c i).length : Nat) ∧ (((kp b c i).length : Nat) : Int) < j), decide_eq_true (by omega : (kp b c i).length < c.length)] at eq
    have hkl : (kpL b c i).set (kp b c i).length (c.getD i 0) = kpL b c (i + 1) := by
     unfold kpL
     rw [set_app (by omega), hs, List.length_append]
     rfl
    rw [hkl] at eq
    have := SemC.of_evM cfg11_ok Tryd.func123 bd_del li_del (eq.trans rfl)
    rw [show (kp b c (i + 1)).length = (kp b c i).length + 1 by rw [hs]; simp]
    exact this
 · intro i _ _ _ h; cases h
 · intro _
   refine ⟨by simp [rs_del, Ex.to], ?_⟩
   have eq := rn_del_eq j b (kp b c j).length j (kpL b c j)
   rw [decide_eq_false (by omega : ¬ (j : Int) < j)] at eq
   exact SemC.of_evM cfg11_ok Tryd.func123 bd_del li_del (eq.trans rfl)
def ent_c : LEnt := LEnt.or ent_iy ent_iz
def lo11a : LOrc := (LOrc.add (LOrc.add lo8 124 0 ent_ic) 123 0 ent_del)
theorem lo11a_ok : LOrcOk Tryd.prog Γ lo11a := (LOrcOk.add (LOrcOk.add lo8_ok 124 0 Tryd.func124 bd_ic le_ic (ent_ic_ok ic_go)) 123 0 Tryd.func123 bd_del le_del (ent_del_ok del_go))
end L
end Go.Proofs.YthjiodeaepigmaaDoor

/- Package label: DeleteFunc as a contract; the locks' loop, printed. -/
set_option linter.unusedVariables false
set_option linter.unusedSimpArgs false
set_option maxRecDepth 100000
set_option maxHeartbeats 4000000
namespace Go.Proofs.YthjiodeaepigmaaDoor
open Go
namespace L
theorem ent_c_ok : EntOk Tryd.prog Γ (lp 127 0) ent_c := LEnt.or_ok (ent_iy_ok iy_go) (ent_iz_ok iz_go) rfl rfl
def lo12 : LOrc := LOrc.add lo11a 127 0 ent_c
theorem lo12_ok : LOrcOk Tryd.prog Γ lo12 := LOrcOk.add lo11a_ok 127 0 Tryd.func127 bd_iy le_iy ent_c_ok
noncomputable def cfg12 : Cfg := cfgO orc9 lo12
theorem cfg12_ok : CfgOk Tryd.prog Γ cfg12 := cfgO_ok orc9_ok lo12_ok
def delL (b c : List Int) (j : Nat) : List Int := kp b c j ++ List.replicate (j - (kp b c j).length) 0 ++ c.drop j
def fp_g123 : FP := ⟨[.bz 0, .fn 125 [.pea [.ty (.slice ity)]]], [], [.arr ity]⟩
abbrev cn_g123 (j : Nat) (b c : List Int) : Prop := j = c.length ∧ j ≤ 1000000 ∧ b.length ≤ 1000000
noncomputable def cr_g123 (j : Nat) (b c : List Int) : Option Bool × V × Ob × Nm := (some (decide (cn_g123 j b c)), .bs true 0 0 (kp b c j).length, [], [il (delL b c j)])
noncomputable def ct_g123 := Ct.by fp_g123 fun ⟨(j, ((b, _), _), _), _, (c, _)⟩ => cr_g123 j b c
abbrev sf_g123 (j : Nat) (b c : List Int) : Prop := SemF Tryd.prog Γ 123 (SP.vals fp_g123.sp (j, ((b, ()), ()), ())) (OP.vals fp_g123.op ()) (BP.vals fp_g123.bp (c, ())) (.bs true 0 0 (kp b c j).length) ([]) ([il (delL b c j)])
noncomputable def ev_g123 (C : Cfg) (lv : List Nat) (j : Nat) (b c : List Int) := evV Tryd.prog Γ C lv 123 (SP.vals fp_g123.sp (j, ((b, ()), ()), ())) (OP.vals fp_g123.op ()) (BP.vals fp_g123.bp (c, ()))
theorem cr_g123_ok (j : Nat) (b c : List Int) (h : (cr_g123 j b c).1.getD true = true) : cn_g123 j b c := of_decide_eq_true h
theorem ct_g123_ok (H : ∀ (j : Nat) (b c : List Int), cn_g123 j b c → sf_g123 j b c) : ∀ args ob nm c v ob1 nm1, ct_g123 args ob nm = some (c, v, ob1, nm1) → c.getD true = true → SemF Tryd.prog Γ 123 args ob nm v ob1 nm1 := Ct.by_ok fun ⟨(j, ((b, _), _), _), _, (c, _)⟩ h => H j b c (cr_g123_ok j b c h)
theorem t123_eq (j : Nat) (b c : List Int) : (ev_g123 cfg12 [] j b c).run = (bif decide (pre_ic (List.take j (List.drop (0) c)) b (Nat.cast ((List.take j (List.drop (0) c)).length) : Int) (0 : Int)) then (bif (bif decide (List.findIdx (fun y => !hasD b y) (List.take j (List.drop (0) c)) < (List.take j (List.drop (0) c)).length) then (Nat.cast ((List.findIdx (fun y => !hasD b y) (List.take j (List.drop (0) c)))) : Int) else (-1 : Int)) == (-1 : Int) then (some (V.bs true 0 0 j, [], [some (Bf.live (.arr ity c))])) else (bif decide (pre_del j b (bif decide (List.findIdx (fun y => !hasD b y) (List.take j (List.drop (0) c)) < (List.take j (List.drop (0) c)).length) then (Nat.cast ((List.findIdx (fun y => !hasD b y) (List.take j (List.drop (0) c)))) : Int) else (-1 : Int)) (IntKind.i64.wrap ((bif decide (List.findIdx (fun y => !hasD b y) (List.take j (List.drop (0) c)) < (List.take j (List.drop (0) c)).length) then (Nat.cast ((List.findIdx (fun y => !hasD b y) (List.take j (List.drop (0) c)))) : Int) else (-1 : Int)) + (1 : Int))) c) then (bif decide ((0 : Int) ≤ (Nat.cast ((kp b c j).length) : Int) ∧ (Nat.cast ((kp b c j).length) : Int) ≤ (Nat.cast (j) : Int) ∧ (Nat.cast (j) : Int) ≤ (Nat.cast (j) : Int)) then (bif decide ((0 : Int) ≤ (0 : Int) ∧ (0 : Int) ≤ (Nat.cast ((kp b c j).length) : Int) ∧ (Nat.cast ((kp b c j).length) : Int) ≤ (Nat.cast (j) : Int)) then (some (V.bs true 0 0 (((Nat.cast ((kp b c j).length) : Int)).toNat - (0 : Nat)), [], [some (Bf.live (.arr (Ty.int IntKind.i64) (List.take (0 + ((Nat.cast ((kp b c j).length) : Int)).toNat) (List.drop (0) (kpL b c j)) ++ List.take (((Nat.cast (j) : Int)).toNat - ((Nat.cast ((kp b c j).length) : Int)).toNat) (List.drop (0) (List.replicate (((Nat.cast (j) : Int)).toNat - ((Nat.cast ((kp b c j).length) : Int)).toNat) (0 : Int))) ++ List.take ((kpL b c j).length - (0 + ((Nat.cast ((kp b c j).length) : Int)).toNat + (((Nat.cast (j) : Int)).toNat - ((Nat.cast ((kp b c j).length) : Int)).toNat))) (List.drop (0 + ((Nat.cast ((kp b c j).length) : Int)).toNat + (((Nat.cast (j) : Int)).toNat - ((Nat.cast ((kp b c j).length) : Int)).toNat)) (kpL b c j)))))])) else none) else none) else none)) else none) := by kernel_rfl
theorem g123_go (j : Nat) (b c : List Int) (h : cn_g123 j b c) : sf_g123 j b c := by
 obtain ⟨rfl, hj2, hb⟩ := h
 refine SemF.of_tree cfg12_ok (lv := []) (Eq.trans (t123_eq c.length b c) ?_)
 have ht : List.take c.length c = c := List.take_length
 simp only [List.drop_zero, ht]
 have p1 : pre_ic c b (c.length : Int) 0 := ⟨rfl, rfl, hj2, hb⟩
 rw [decide_eq_true p1]
 have hle := kp_le b c c.length
 by_cases hlt : c.findIdx (fun y => !hasD b y) < c.length
 · have hw : IntKind.i64.wrap (((c.findIdx (fun y => !hasD b y) : Nat) : Int) + 1) = ((c.findIdx (fun y => !hasD b y) : Nat) : Int) + 1 := wrap_in (by omega) (by omega)
   have p2 : pre_del c.length b ((c.findIdx (fun y => !hasD b y) : Nat) : Int) (((c.findIdx (fun y => !hasD b y) : Nat) : Int) + 1) c := ⟨rfl, hj2, hb, by omega, by omega, rfl, rfl⟩
   have hne : (((c.findIdx (fun y => !hasD b y) : Nat) : Int) == (-1 : Int)) = false := by rw [beq_eq_false_iff_ne]; omega
   rw [decide_eq_true hlt]
   simp only [cond_true, hw, hne, cond_false, Int.toNat_natCast, Nat.zero_add, Nat.sub_zero]
   rw [decide_eq_true p2, decide_eq_true (by omega), decide_eq_true (by omega)]
   simp only [cond_true]
   have hL := kpL_len (b := b) (c := c) (i := c.length) (Nat.le_refl _)
   have hd : List.take (kp b c c.length).length (kpL b c c.length) = kp b c c.length := by unfold kpL; rw [List.take_left']; rfl
   have hd2 : List.drop ((kp b c c.length).length + (c.length - (kp b c c.length).length)) (kpL b c c.length) = c.drop c.length := by
    unfold kpL
    rw [Nat.add_sub_cancel' hle, List.drop_append, List.drop_eq_nil_of_le hle, List.nil_append, List.drop_drop, Nat.add_sub_cancel' hle]
   rw [hd, hd2, List.take_of_length_le (l := List.replicate _ _) (by simp), List.take_of_length_le (l := c.drop c.length) (by rw [List.length_drop, hL]; omega)]
   rfl
 · rw [decide_eq_false hlt]
   simp only [cond_true, cond_false]
   have hkp : kp b c c.length = c := by
    unfold kp
    rw [ht, List.filter_eq_self]
    intro x hx
    obtain ⟨i, hi, rfl⟩ := List.getElem_of_mem hx
    have := findIdx_before (l := c) (p := fun y => !hasD b y) 0 (j := i) (by omega)
    simp only [List.getD, List.getElem?_eq_getElem hi, Option.getD_some] at this
    simpa using this
   have hdl : delL b c c.length = c := by unfold delL; rw [hkp]; simp
   rw [hdl, hkp]
   rfl
noncomputable def T12 : CallT := fun f args ob nm => match Nat.beq f 123 with | true => ct_g123 args ob nm | false => (fun _ _ _ _ => Option.none) f args ob nm
theorem T12_ok : CtOk Tryd.prog Γ T12 := CtOk.cons CtOk.none 123 ct_g123 (by decide) Tryd.f123 Tryd.func123 (by kernel_rfl) (by kernel_rfl) (ct_g123_ok g123_go)
def isT12 (f : FuncId) : Bool := Nat.beq f 123
noncomputable def om12 : CallF := fun f args ob nm => match isT12 f with | true => callC T12 f args ob nm | false => om1 f args ob nm
theorem om12_ok : CallsOk Tryd.prog Γ om12 ∧ CallsFit om12 := by
 refine ⟨fun f args ob nm out h hc => ?_, ⟨fun f args ob nm out h => ?_, fun f args ob nm out h ob' nm' hs => ?_⟩⟩
 · unfold om12 at h
   split at h
   · exact callC_calls T12_ok _ _ _ _ _ h hc
   · exact om1_ok.1 _ _ _ _ _ h hc
 · unfold om12 at h
   split at h
   · exact (callC_fit T12_ok).eff _ _ _ _ _ h
   · exact om1_ok.2.eff _ _ _ _ _ h
 · unfold om12 at h ⊢
   split at h
   · exact (callC_fit T12_ok).frame _ _ _ _ _ h ob' nm' hs
   · exact om1_ok.2.frame _ _ _ _ _ h ob' nm' hs
noncomputable def cfgP (orc : Orc) (lo : LOrc) : Cfg := ⟨orc, fun f => isT12 f || isClone f, om12, lo, lvF, fun f => mems.any (Nat.beq f), 80, fun _ _ => none⟩
theorem cfgP_ok {orc : Orc} {lo : LOrc} (h : OrcOk Tryd.prog Γ orc) (hl : LOrcOk Tryd.prog Γ lo) : CfgOk Tryd.prog Γ (cfgP orc lo) where
 orc := h
 om := om12_ok.1
 fit := om12_ok.2
 lo := hl
 mixed := by kernel_rfl
noncomputable def cfg13 : Cfg := cfgP orc9 lo12
theorem cfg13_ok : CfgOk Tryd.prog Γ cfg13 := cfgP_ok orc9_ok lo12_ok
def hp_lq : HP := { n := 19, lv := [0, 1, 7, 8], sp := [.ty (.slice lockT), .fn 122 [.pea [.pea vw]], .ty ity, .ty ity], op := [], bp := [] }
def lve_lq : Ex → List Nat
 | .normal => [0, 1, 7, 8]
 | .ret => [4]
 | .exit 0 => []
 | _ => []
theorem bd_lq : Tryd.f82.body = some (root 82) := by kernel_rfl
theorem le_lq : (loops (root 82))[0]? = some (lp 82 0) := by kernel_rfl
theorem li_lq : Lies (root 82) 1 (lp 82 0) := Lies.of_take (n := 0) (by kernel_rfl)
def st_lq (a : List (Ty.den lockT)) (u : Int) (ev : List Int) (co : List (Ty.den conf)) (t c : Int) (l : List (Ty.den lockT)) (rt rc now dr : Int) (me : List Int) (mc : List (Ty.den conf)) (mk : List Int) (n i : Int) : St := hp_lq.st ⟨(a, (((u, ev, co, t, c, l, rt, rc, now, dr, me, mc, mk, ()), ()), ()), n, i, ()), (), ()⟩
noncomputable def rn_lq (a : List (Ty.den lockT)) (u : Int) (ev : List Int) (co : List (Ty.den conf)) (t c : Int) (l : List (Ty.den lockT)) (rt rc now dr : Int) (me : List Int) (mc : List (Ty.den conf)) (mk : List Int) (n i : Int) := outa lve_lq (evCK Tryd.prog Γ (cfM Tryd.prog Γ cfg13 30) (cfg13.lo 82) [] 60 1 (lp 82 0) (st_lq a u ev co t c l rt rc now dr me mc mk n i))
theorem rn_lq_eq (a : List (Ty.den lockT)) (u : Int) (ev : List Int) (co : List (Ty.den conf)) (t c : Int) (l : List (Ty.den lockT)) (rt rc now dr : Int) (me : List Int) (mc : List (Ty.den conf)) (mk : List Int) (n i : Int) : (rn_lq a u ev co t c l rt rc now dr me mc mk n i).run = (bif decide (i < n) then (bif decide ((0 : Int) ≤ i ∧ i < (a.length : Int)) then (bif decide (0 < List.length (kK (a.getD i.toNat lockT.dflt))) && (some (decide (List.length (kK (a.getD i.toNat lockT.dflt)) * 2 * 8 ≤ 281474976710656) && true)).getD true && decide (cn_g123 (List.length (kK (a.getD i.toNat lockT.dflt))) mk (kK (a.getD i.toNat lockT.dflt))) then (bif decide ((Nat.cast ((kp mk (kK (a.getD i.toNat lockT.dflt)) (List.length (kK (a.getD i.toNat lockT.dflt)))).length) : Int) < (kN (a.getD i.toNat lockT.dflt))) then (some (Ex.ret, [V.si .i64 i], [], [], 19, 0, 0)) else (some (Ex.normal, [V.slst .ro lockT a, V.fn (Fn.func (122 : FuncId)) [] [V.pel [V.agg [V.pel [V.agg [V.si .i64 u, V.slst .ro ity ev, V.slst .ro conf co, V.si .i64 t, V.si .i64 c, V.slst .ro lockT l, V.si .i64 rt, V.si .i64 rc, V.si .i64 now, V.si .i64 dr, V.slst .ro ity me, V.slst .ro conf mc, V.slst .ro ity mk]] (0 : Nat) (0 : Nat)]] (0 : Nat) (0 : Nat)], V.si .i64 n, V.si .i64 (IntKind.i64.wrap (i + (1 : Int)))], [], [], 19, 0, 0))) else none) else none) else (some (Ex.exit 0, [], [], [], 19, 0, 0))) := by kernel_rfl
theorem rn_lq_c (a : List (Ty.den lockT)) (u : Int) (ev : List Int) (co : List (Ty.den conf)) (t c : Int) (l : List (Ty.den lockT)) (rt rc now dr : Int) (me : List Int) (mc : List (Ty.den conf)) (mk : List Int) (n i : Int) {e : Ex} {vs : List V} {ob : Ob} {nm : Nm} {n' kh kt : Nat} (h : (rn_lq a u ev co t c l rt rc now dr me mc mk n i).run = some (e, vs, ob, nm, n', kh, kt)) : SemC Tryd.prog Γ (lp 82 0) (st_lq a u ev co t c l rt rc now dr me mc mk n i) e.to (St.of n' (lve_lq e) vs ob nm kh kt) := SemC.of_evM cfg13_ok Tryd.func82 bd_lq li_lq h
end L
end Go.Proofs.YthjiodeaepigmaaDoor

/- Package label: the locks' loop; Reason. -/
set_option linter.unusedVariables false
set_option linter.unusedSimpArgs false
set_option maxRecDepth 100000
set_option maxHeartbeats 4000000
namespace Go.Proofs.YthjiodeaepigmaaDoor
open Go
namespace L
def lackL (mk : List Int) (q : Ty.den lockT) : Bool := decide ((Nat.cast (kp mk (kK q) (kK q).length).length : Int) < kN q)
abbrev pre_lq (a : List (Ty.den lockT)) (u : Int) (ev : List Int) (co : List (Ty.den conf)) (t c : Int) (l : List (Ty.den lockT)) (rt rc now dr : Int) (me : List Int) (mc : List (Ty.den conf)) (mk : List Int) (n i : Int) : Prop := n = (a.length : Int) ∧ i = 0 ∧ szL a ∧ (∀ q ∈ a, 0 < (kK q).length) ∧ mk.length ≤ 1000000
def rs_lq (a : List (Ty.den lockT)) (u : Int) (ev : List Int) (co : List (Ty.den conf)) (t c : Int) (l : List (Ty.den lockT)) (rt rc now dr : Int) (me : List Int) (mc : List (Ty.den conf)) (mk : List Int) (n i : Int) : Ex × St := if a.findIdx (lackL mk) < a.length then (.ret, St.of 19 (lve_lq (.ret)) [.si .i64 (a.findIdx (lackL mk) : Nat)] [] [] hp_lq.kh hp_lq.kt) else (.exit 0, St.of 19 (lve_lq (.exit 0)) [] [] [] hp_lq.kh hp_lq.kt)
def res_lq (a : List (Ty.den lockT)) (u : Int) (ev : List Int) (co : List (Ty.den conf)) (t c : Int) (l : List (Ty.den lockT)) (rt rc now dr : Int) (me : List Int) (mc : List (Ty.den conf)) (mk : List Int) (n i : Int) : Tr (Ex × St) := .br (decide (pre_lq a u ev co t c l rt rc now dr me mc mk n i)) (.br (decide (a.findIdx (lackL mk) < a.length)) (.leaf (some (.ret, St.of 19 (lve_lq (.ret)) [.si .i64 (a.findIdx (lackL mk) : Nat)] [] [] hp_lq.kh hp_lq.kt))) (.leaf (some (.exit 0, St.of 19 (lve_lq (.exit 0)) [] [] [] hp_lq.kh hp_lq.kt)))) (.leaf none)
def ent_lq : LEnt := LEnt.by hp_lq fun ⟨(a, (((u, ev, co, t, c, l, rt, rc, now, dr, me, mc, mk, _), _), _), n, i, _), _, _⟩ => res_lq a u ev co t c l rt rc now dr me mc mk n i
theorem ent_lq_ok (hgo : ∀ (a : List (Ty.den lockT)) (u : Int) (ev : List Int) (co : List (Ty.den conf)) (t c : Int) (l : List (Ty.den lockT)) (rt rc now dr : Int) (me : List Int) (mc : List (Ty.den conf)) (mk : List Int) (n i : Int), pre_lq a u ev co t c l rt rc now dr me mc mk n i → SemL Tryd.prog Γ (lp 82 0) (st_lq a u ev co t c l rt rc now dr me mc mk n i) (rs_lq a u ev co t c l rt rc now dr me mc mk n i).1.to (rs_lq a u ev co t c l rt rc now dr me mc mk n i).2) : EntOk Tryd.prog Γ (lp 82 0) ent_lq := LEnt.by_ok fun ⟨(a, (((u, ev, co, t, c, l, rt, rc, now, dr, me, mc, mk, _), _), _), n, i, _), _, _⟩ _ _ h_ => SemL.br (out := rs_lq a u ev co t c l rt rc now dr me mc mk n i) (Tr.run_ite rfl rfl) (hgo a u ev co t c l rt rc now dr me mc mk n i) h_
theorem lq_go (a : List (Ty.den lockT)) (u : Int) (ev : List Int) (co : List (Ty.den conf)) (t c : Int) (l : List (Ty.den lockT)) (rt rc now dr : Int) (me : List Int) (mc : List (Ty.den conf)) (mk : List Int) (n i : Int) (h : pre_lq a u ev co t c l rt rc now dr me mc mk n i) :
 SemL Tryd.prog Γ (lp 82 0) (st_lq a u ev co t c l rt rc now dr me mc mk n i) (rs_lq a u ev co t c l rt rc now dr me mc mk n i).1.to (rs_lq a u ev co t c l rt rc now dr me mc mk n i).2 := by
 obtain ⟨rfl, rfl, hs, h0, hm⟩ := h
 have ha := hs.1
 have hchk : ∀ i, i < a.length → (decide (0 < List.length (kK (a.getD i lockT.dflt))) && (some (decide (List.length (kK (a.getD i lockT.dflt)) * 2 * 8 ≤ 281474976710656) && true)).getD true && decide (cn_g123 (List.length (kK (a.getD i lockT.dflt))) mk (kK (a.getD i lockT.dflt)))) = true := fun i hi => by
  have h1 := hs.2 _ (getD_mem hi lockT.dflt)
  have h2 := h0 _ (getD_mem hi lockT.dflt)
  have h3 : cn_g123 (List.length (kK (a.getD i lockT.dflt))) mk (kK (a.getD i lockT.dflt)) := ⟨rfl, h1, hm⟩
  rw [decide_eq_true h2, decide_eq_true h3, decide_eq_true (by omega)]
  rfl
 refine scan_find a lockT.dflt (lackL mk) (fun i => st_lq a u ev co t c l rt rc now dr me mc mk a.length (i : Nat)) (fun i => St.of 19 (lve_lq .ret) [.si .i64 (i : Nat)] [] [] 0 0) _ 0 (fun i hi hp => ?_) (fun i hi hp => ?_) ?_
 · refine rn_lq_c a u ev co t c l rt rc now dr me mc mk a.length i (e := .normal) ?_
   have hw : IntKind.i64.wrap ((i : Int) + 1) = ((i + 1 : Nat) : Int) := by rw [wrap_in (by omega) (by omega)]; rfl
   rw [rn_lq_eq, hw, decide_eq_true (by omega : (i : Int) < a.length), decide_eq_true (by omega : (0 : Int) ≤ (i : Int) ∧ (i : Int) < a.length), Int.toNat_natCast, hchk i hi]
   unfold lackL at hp
   rw [hp]
   rfl
 · refine rn_lq_c a u ev co t c l rt rc now dr me mc mk a.length i (e := .ret) ?_
   rw [rn_lq_eq, decide_eq_true (by omega : (i : Int) < a.length), decide_eq_true (by omega : (0 : Int) ≤ (i : Int) ∧ (i : Int) < a.length), Int.toNat_natCast, hchk i hi]
   unfold lackL at hp
   rw [hp]
   rfl
 · refine rn_lq_c a u ev co t c l rt rc now dr me mc mk a.length a.length (e := .exit 0) ?_
   rw [rn_lq_eq, decide_eq_false (by omega)]
   rfl
def lo13 : LOrc := (LOrc.add lo12 82 0 ent_lq)
theorem lo13_ok : LOrcOk Tryd.prog Γ lo13 := (LOrcOk.add lo12_ok 82 0 Tryd.func82 bd_lq le_lq (ent_lq_ok lq_go))
noncomputable def cfg14 : Cfg := cfgP orc9 lo13
theorem cfg14_ok : CfgOk Tryd.prog Γ cfg14 := cfgP_ok orc9_ok lo13_ok
theorem c24_run (u : Int) (ev : List Int) (co : List (Ty.den conf)) (t c : Int) (l : List (Ty.den lockT)) (rt rc now dr : Int) (me : List Int) (mc : List (Ty.den conf)) (mk : List Int) : runL cfg14 24 [.agg [.si .i64 u, .slst .ro ity ev, .slst .ro conf co, .si .i64 t, .si .i64 c, .slst .ro lockT l], .agg [.si .i64 rt, .si .i64 rc], .agg [.si .i64 now, .si .i64 dr, .slst .ro ity me, .slst .ro conf mc, .slst .ro ity mk]] = .ok (some ((some (decide (szE ev co l) && (!validE u ev co t c l || decide (szM me mc mk)))).getD true && ((bif !validE u ev co t c l then true else bif !validM now dr me mc mk then true else bif !bif decide (rt ≥ (0 : Int)) then decide (rt ≤ (7 : Int)) else false then true else !bif decide (rc ≥ (0 : Int)) then decide (rc ≤ (7 : Int)) else false) || decide ((0 : Int) ≤ rt) && (IntKind.i64.wrap (Nat.cast ((BitVec.ofInt (64 : Nat) (t.fdiv ((2 : Int) ^ min rt.toNat (64 : Nat))) &&& BitVec.ofInt (64 : Nat) (1 : Int)).toNat) : Int) == (0 : Int) || decide ((0 : Int) ≤ rc) && (IntKind.i64.wrap (Nat.cast ((BitVec.ofInt (64 : Nat) (c.fdiv ((2 : Int) ^ min rc.toNat (64 : Nat))) &&& BitVec.ofInt (64 : Nat) (1 : Int)).toNat) : Int) == (0 : Int) || (decide (IntKind.i64.wrap (now - dr) < u) || decide (pre_ic ev me (ev.length : Int) (0 : Int)) && (decide ((bif decide (List.findIdx (fun y => !hasD me y) ev < ev.length) then (Nat.cast ((List.findIdx (fun y => !hasD me y) ev)) : Int) else (-1 : Int)) ≥ (0 : Int)) || decide (pre_iz co u ev co t c l rt rc now dr me mc mk (co.length : Int) (0 : Int)) && (decide ((bif decide (List.findIdx (lackC mc) co < co.length) then (Nat.cast ((List.findIdx (lackC mc) co)) : Int) else (-1 : Int)) ≥ (0 : Int)) || decide (pre_lq l u ev co t c l rt rc now dr me mc mk (l.length : Int) (0 : Int)))))))))) (V.si .i64 (bif bif !validE u ev co t c l then true else bif !validM now dr me mc mk then true else bif !bif decide (rt ≥ (0 : Int)) then decide (rt ≤ (7 : Int)) else false then true else !bif decide (rc ≥ (0 : Int)) then decide (rc ≤ (7 : Int)) else false then (1 : Int) else bif IntKind.i64.wrap (Nat.cast ((BitVec.ofInt (64 : Nat) (t.fdiv ((2 : Int) ^ min rt.toNat (64 : Nat))) &&& BitVec.ofInt (64 : Nat) (1 : Int)).toNat) : Int) == (0 : Int) then (2 : Int) else bif IntKind.i64.wrap (Nat.cast ((BitVec.ofInt (64 : Nat) (c.fdiv ((2 : Int) ^ min rc.toNat (64 : Nat))) &&& BitVec.ofInt (64 : Nat) (1 : Int)).toNat) : Int) == (0 : Int) then (3 : Int) else bif decide (IntKind.i64.wrap (now - dr) < u) then (4 : Int) else bif decide ((bif decide (List.findIdx (fun y => !hasD me y) ev < ev.length) then (Nat.cast ((List.findIdx (fun y => !hasD me y) ev)) : Int) else (-1 : Int)) ≥ (0 : Int)) then (5 : Int) else bif decide ((bif decide (List.findIdx (lackC mc) co < co.length) then (Nat.cast ((List.findIdx (lackC mc) co)) : Int) else (-1 : Int)) ≥ (0 : Int)) then (6 : Int) else bif decide ((bif decide (List.findIdx (lackL mk) l < l.length) then (Nat.cast ((List.findIdx (lackL mk) l)) : Int) else (-1 : Int)) ≥ (0 : Int)) then (7 : Int) else (0 : Int))) := by kernel_rfl
end L
end Go.Proofs.YthjiodeaepigmaaDoor

/- Package label: Reason and Open as contracts. -/
set_option linter.unusedVariables false
set_option linter.unusedSimpArgs false
set_option maxRecDepth 100000
set_option maxHeartbeats 4000000
namespace Go.Proofs.YthjiodeaepigmaaDoor
open Go
namespace L
def noBit (t r : Int) : Bool := IntKind.i64.wrap (Nat.cast ((BitVec.ofInt (64 : Nat) (t.fdiv ((2 : Int) ^ min r.toNat (64 : Nat))) &&& BitVec.ofInt (64 : Nat) (1 : Int)).toNat) : Int) == (0 : Int)
def someI {α : Type} (l : List α) (p : α → Bool) : Bool := decide (l.findIdx p < l.length)
theorem someI_any {α : Type} (l : List α) (p : α → Bool) : someI l p = l.any p := by
 unfold someI
 rw [Bool.eq_iff_iff, decide_eq_true_eq, List.findIdx_lt_length, List.any_eq_true]
def proper (u : Int) (ev : List Int) (co : List (Ty.den conf)) (t c : Int) (l : List (Ty.den lockT)) (rt rc now dr : Int) (me : List Int) (mc : List (Ty.den conf)) (mk : List Int) : Bool := validE u ev co t c l && validM now dr me mc mk && inR rt 0 7 && inR rc 0 7
def reasonE (u : Int) (ev : List Int) (co : List (Ty.den conf)) (t c : Int) (l : List (Ty.den lockT)) (rt rc now dr : Int) (me : List Int) (mc : List (Ty.den conf)) (mk : List Int) : Int :=
 bif !proper u ev co t c l rt rc now dr me mc mk then 1 else bif noBit t rt then 2 else bif noBit c rc then 3 else bif decide (IntKind.i64.wrap (now - dr) < u) then 4 else
  bif someI ev (fun y => !hasD me y) then 5 else bif someI co (lackC mc) then 6 else bif someI l (lackL mk) then 7 else 0
theorem locks_pos {l : List (Ty.den lockT)} (h : locksD l = true) : ∀ q ∈ l, 0 < (kK q).length := by
 intro q hq
 obtain ⟨i, hi, rfl⟩ := List.getElem_of_mem hq
 have := allI_true.1 h i hi
 unfold lkB at this
 simp only [Bool.and_eq_true, decide_eq_true_eq] at this
 have e : l.getD i lockT.dflt = l[i] := by simp [List.getD, hi]
 rw [e] at this
 have h1 : kN l[i] ≥ 1 := this.1.2.1
 have h2 : kN l[i] ≤ ((kK l[i]).length : Int) := this.1.2.2
 omega
theorem c24_bad {v m a1 a2 b1 b2 : Bool} : (bif !v then true else bif !m then true else bif !bif a1 then a2 else false then true else !bif b1 then b2 else false) = !(v && m && (a1 && a2) && (b1 && b2)) := by
 cases v <;> cases m <;> cases a1 <;> cases a2 <;> cases b1 <;> cases b2 <;> rfl
theorem c24_ok (u : Int) (ev : List Int) (co : List (Ty.den conf)) (t c : Int) (l : List (Ty.den lockT)) (rt rc now dr : Int) (me : List Int) (mc : List (Ty.den conf)) (mk : List Int) (h1 : szE ev co l) (h2 : szM me mc mk) :
 SemF Tryd.prog Γ 24 [labT.val (u, ev, co, t, c, l, ()), redT.val (rt, rc, ()), momT.val (now, dr, me, mc, mk, ())] [] [] (.si .i64 (reasonE u ev co t c l rt rc now dr me mc mk)) [] [] :=
 of_runL cfg14_ok (c24_run u ev co t c l rt rc now dr me mc mk) (by
  rw [c24_bad, decide_eq_true h1, decide_eq_true h2]
  simp only [Bool.or_true, Bool.and_true, Option.getD_some, Bool.true_and]
  cases hp : (validE u ev co t c l && validM now dr me mc mk && (decide (rt ≥ 0) && decide (rt ≤ 7)) && (decide (rc ≥ 0) && decide (rc ≤ 7))) with
  | false => rfl
  | true =>
   simp only [Bool.and_eq_true, decide_eq_true_eq] at hp
   obtain ⟨⟨⟨hv, hm⟩, r1, r2⟩, r3, r4⟩ := hp
   have hlk : locksD l = true := by
    unfold validE at hv
    simp only [Bool.and_eq_true] at hv
    exact hv.1.1.2
   have p1 : pre_ic ev me (Nat.cast ev.length : Int) 0 := ⟨rfl, rfl, h1.1, h2.1⟩
   have p2 : pre_iz co u ev co t c l rt rc now dr me mc mk (Nat.cast co.length : Int) 0 := ⟨rfl, rfl, h1.2.1, h2.2.1⟩
   have p3 : pre_lq l u ev co t c l rt rc now dr me mc mk (Nat.cast l.length : Int) 0 := ⟨rfl, rfl, h1.2.2, locks_pos hlk, h2.2.2⟩
   rw [decide_eq_true p1, decide_eq_true p2, decide_eq_true p3, decide_eq_true (show (0 : Int) ≤ rt from r1), decide_eq_true (show (0 : Int) ≤ rc from r3)]
   simp) (by
  rw [c24_bad, idx_ge, idx_ge, idx_ge]
  rfl)
def e24' (u : Int) (ev : List Int) (co : List (Ty.den conf)) (t c : Int) (l : List (Ty.den lockT)) (rt rc now dr : Int) (me : List Int) (mc : List (Ty.den conf)) (mk : List Int) : Option Bool × V := (some (decide (szE ev co l ∧ szM me mc mk)), .si .i64 (reasonE u ev co t c l rt rc now dr me mc mk))
theorem e24'_of (u : Int) (ev : List Int) (co : List (Ty.den conf)) (t c : Int) (l : List (Ty.den lockT)) (rt rc now dr : Int) (me : List Int) (mc : List (Ty.den conf)) (mk : List Int) (h : (e24' u ev co t c l rt rc now dr me mc mk).1.getD true = true) : SemF Tryd.prog Γ 24 [labT.val (u, ev, co, t, c, l, ()), redT.val (rt, rc, ()), momT.val (now, dr, me, mc, mk, ())] [] [] (e24' u ev co t c l rt rc now dr me mc mk).2 [] [] :=
 c24_ok u ev co t c l rt rc now dr me mc mk (of_decide_eq_true h).1 (of_decide_eq_true h).2
def e24 (x : Ty.den labT) (r : Ty.den redT) (m : Ty.den momT) : Option Bool × V := e24' x.1 x.2.1 x.2.2.1 x.2.2.2.1 x.2.2.2.2.1 x.2.2.2.2.2.1 r.1 r.2.1 m.1 m.2.1 m.2.2.1 m.2.2.2.1 m.2.2.2.2.1
theorem e24_of (x : Ty.den labT) (r : Ty.den redT) (m : Ty.den momT) (h : (e24 x r m).1.getD true = true) : SemF Tryd.prog Γ 24 [labT.val x, redT.val r, momT.val m] [] [] (e24 x r m).2 [] [] := e24'_of x.1 x.2.1 x.2.2.1 x.2.2.2.1 x.2.2.2.2.1 x.2.2.2.2.2.1 r.1 r.2.1 m.1 m.2.1 m.2.2.1 m.2.2.2.1 m.2.2.2.2.1 h
noncomputable def orc14 : Orc := fun f args => if f = 24 then (Ty.ofVs [labT, redT, momT] args).map (fun x => e24 x.1 x.2.1 x.2.2.1) else (fun f args => if f = 11 then (Ty.ofVs [] args).map (fun _ => (none, .b true)) else orc9 f args) f args
theorem orc14_ok : OrcOk Tryd.prog Γ orc14 :=
 (orc9_ok.plain 11 [] (fun _ => (none, .b true)) Tryd.f11 Tryd.func11 rfl (by kernel_rfl) (fun x _ => sane_ok)).plain 24 [labT, redT, momT] (fun x => e24 x.1 x.2.1 x.2.2.1) Tryd.f24 Tryd.func24 rfl (by kernel_rfl) (fun x h => e24_of x.1 x.2.1 x.2.2.1 h)
noncomputable def cfg15 : Cfg := cfgP orc14 lo13
theorem cfg15_ok : CfgOk Tryd.prog Γ cfg15 := cfgP_ok orc14_ok lo13_ok
theorem c26_run (u : Int) (ev : List Int) (co : List (Ty.den conf)) (t c : Int) (l : List (Ty.den lockT)) (rt rc now dr : Int) (me : List Int) (mc : List (Ty.den conf)) (mk : List Int) : runL cfg15 26 [.agg [.si .i64 u, .slst .ro ity ev, .slst .ro conf co, .si .i64 t, .si .i64 c, .slst .ro lockT l], .agg [.si .i64 rt, .si .i64 rc], .agg [.si .i64 now, .si .i64 dr, .slst .ro ity me, .slst .ro conf mc, .slst .ro ity mk]] = .ok (some (decide (szE ev co l ∧ szM me mc mk))) (V.sb (reasonE u ev co t c l rt rc now dr me mc mk == (0 : Int))) := by kernel_rfl
theorem c23_run (k n : Int) : runL cfg15 23 [.si .i64 k, .si .i64 n] = .ok (some (bif decide (k < (0 : Int)) then decide (n ≠ (0 : Int)) else decide (n ≠ (0 : Int)))) (V.si .i64 (bif decide (k < (0 : Int)) then (IntKind.i64.wrap ((0 : Int) - IntKind.i64.wrap (k + (1 : Int)))).tmod n else k.tmod n)) := by kernel_rfl
theorem c37_run (k n : Int) : runL cfg15 37 [.si .i64 k, .si .i64 n] = .ok (some (bif decide (k < (0 : Int)) then decide (n ≠ (0 : Int)) else decide (n ≠ (0 : Int)))) (V.si .i64 (bif decide (k < (0 : Int)) then (IntKind.i64.wrap ((0 : Int) - IntKind.i64.wrap (k + (1 : Int)))).tmod n else k.tmod n)) := by kernel_rfl
end L
end Go.Proofs.YthjiodeaepigmaaDoor

/- Package label: pick; Open; the loop of chosen. -/
set_option linter.unusedVariables false
set_option linter.unusedSimpArgs false
set_option maxRecDepth 100000
set_option maxHeartbeats 4000000
namespace Go.Proofs.YthjiodeaepigmaaDoor
open Go
namespace L
def inr (n : Int) : Bool := decide (-9223372036854775808 ≤ n ∧ n ≤ 9223372036854775807)
def pickD (k n : Int) : Int := if k < 0 then (-(k + 1)).tmod n else k.tmod n
theorem pickD_lt {k n : Int} (h : 0 < n) : 0 ≤ pickD k n ∧ pickD k n < n := by
 unfold pickD
 split
 · exact ⟨Int.tmod_nonneg _ (by omega), Int.tmod_lt_of_pos _ h⟩
 · exact ⟨Int.tmod_nonneg _ (by omega), Int.tmod_lt_of_pos _ h⟩
theorem pick_eq {k n : Int} (hk : inr k = true) : (bif decide (k < (0 : Int)) then (IntKind.i64.wrap ((0 : Int) - IntKind.i64.wrap (k + (1 : Int)))).tmod n else k.tmod n) = pickD k n := by
 have hk := of_decide_eq_true hk
 unfold pickD
 by_cases h : k < 0
 · rw [wrap_in (n := k + 1) (by omega) (by omega), wrap_in (by omega) (by omega)]
   simp [h, Int.neg_add]
 · simp [h]
theorem c23_ok (k n : Int) (hk : inr k = true) (hn : n ≠ 0) : SemF Tryd.prog Γ 23 [.si .i64 k, .si .i64 n] [] [] (.si .i64 (pickD k n)) [] [] :=
 of_runL cfg15_ok (c23_run k n) (by simp [hn]) (by rw [pick_eq hk])
theorem c37_ok (k n : Int) (hk : inr k = true) (hn : n ≠ 0) : SemF Tryd.prog Γ 37 [.si .i64 k, .si .i64 n] [] [] (.si .i64 (pickD k n)) [] [] :=
 of_runL cfg15_ok (c37_run k n) (by simp [hn]) (by rw [pick_eq hk])
def pickE (k n : Int) : Option Bool × V := (some (inr k && decide (n ≠ 0)), .si .i64 (pickD k n))
theorem pickE_1 {k n : Int} (h : (pickE k n).1.getD true = true) : inr k = true ∧ n ≠ 0 := by
 have h : (inr k && decide (n ≠ 0)) = true := h
 simpa using h
theorem c26_ok (u : Int) (ev : List Int) (co : List (Ty.den conf)) (t c : Int) (l : List (Ty.den lockT)) (rt rc now dr : Int) (me : List Int) (mc : List (Ty.den conf)) (mk : List Int) (h : szE ev co l ∧ szM me mc mk) :
 SemF Tryd.prog Γ 26 [labT.val (u, ev, co, t, c, l, ()), redT.val (rt, rc, ()), momT.val (now, dr, me, mc, mk, ())] [] [] (.sb (reasonE u ev co t c l rt rc now dr me mc mk == (0 : Int))) [] [] :=
 of_runL cfg15_ok (c26_run u ev co t c l rt rc now dr me mc mk) (decide_eq_true h) rfl
def e26' (u : Int) (ev : List Int) (co : List (Ty.den conf)) (t c : Int) (l : List (Ty.den lockT)) (rt rc now dr : Int) (me : List Int) (mc : List (Ty.den conf)) (mk : List Int) : Option Bool × V := (some (decide (szE ev co l ∧ szM me mc mk)), .sb (reasonE u ev co t c l rt rc now dr me mc mk == (0 : Int)))
theorem e26'_of (u : Int) (ev : List Int) (co : List (Ty.den conf)) (t c : Int) (l : List (Ty.den lockT)) (rt rc now dr : Int) (me : List Int) (mc : List (Ty.den conf)) (mk : List Int) (h : (e26' u ev co t c l rt rc now dr me mc mk).1.getD true = true) : SemF Tryd.prog Γ 26 [labT.val (u, ev, co, t, c, l, ()), redT.val (rt, rc, ()), momT.val (now, dr, me, mc, mk, ())] [] [] (e26' u ev co t c l rt rc now dr me mc mk).2 [] [] :=
 c26_ok u ev co t c l rt rc now dr me mc mk (of_decide_eq_true h)
def e26 (x : Ty.den labT) (r : Ty.den redT) (m : Ty.den momT) : Option Bool × V := e26' x.1 x.2.1 x.2.2.1 x.2.2.2.1 x.2.2.2.2.1 x.2.2.2.2.2.1 r.1 r.2.1 m.1 m.2.1 m.2.2.1 m.2.2.2.1 m.2.2.2.2.1
theorem e26_of (x : Ty.den labT) (r : Ty.den redT) (m : Ty.den momT) (h : (e26 x r m).1.getD true = true) : SemF Tryd.prog Γ 26 [labT.val x, redT.val r, momT.val m] [] [] (e26 x r m).2 [] [] := e26'_of x.1 x.2.1 x.2.2.1 x.2.2.2.1 x.2.2.2.2.1 x.2.2.2.2.2.1 r.1 r.2.1 m.1 m.2.1 m.2.2.1 m.2.2.2.1 m.2.2.2.2.1 h
noncomputable def orc15 : Orc := fun f args => if f = 26 then (Ty.ofVs [labT, redT, momT] args).map (fun x => e26 x.1 x.2.1 x.2.2.1) else (fun f args => if f = 37 then (Ty.ofVs [ity, ity] args).map (fun x => pickE x.1 x.2.1) else (fun f args => if f = 23 then (Ty.ofVs [ity, ity] args).map (fun x => pickE x.1 x.2.1) else orc14 f args) f args) f args
theorem orc15_ok : OrcOk Tryd.prog Γ orc15 :=
 ((orc14_ok.plain 23 [ity, ity] (fun x => pickE x.1 x.2.1) Tryd.f23 Tryd.func23 rfl (by kernel_rfl) (fun x h => c23_ok x.1 x.2.1 (pickE_1 h).1 (pickE_1 h).2)).plain 37 [ity, ity] (fun x => pickE x.1 x.2.1) Tryd.f37 Tryd.func37 rfl (by kernel_rfl) (fun x h => c37_ok x.1 x.2.1 (pickE_1 h).1 (pickE_1 h).2)).plain 26 [labT, redT, momT] (fun x => e26 x.1 x.2.1 x.2.2.1) Tryd.f26 Tryd.func26 rfl (by kernel_rfl) (fun x h => e26_of x.1 x.2.1 x.2.2.1 h)
noncomputable def cfg16 : Cfg := cfgP orc15 lo13
theorem cfg16_ok : CfgOk Tryd.prog Γ cfg16 := cfgP_ok orc15_ok lo13_ok
def hp_cb : HP := { n := 23, lv := [0, 1, 5, 6], sp := [.ty ity, .ty ity, .bz 0, .ty ity], op := [], bp := [.arr ity], bv := [(2, ity)] }
def lve_cb : Ex → List Nat
 | .normal => [0, 1, 5, 6]
 | .exit 0 => [5]
 | _ => []
theorem bd_cb : Tryd.f38.body = some (root 38) := by kernel_rfl
theorem le_cb : (loops (root 38))[0]? = some (lp 38 0) := by kernel_rfl
theorem li_cb : Lies (root 38) 1 (lp 38 0) := Lies.of_take (n := 0) (by kernel_rfl)
def st_cb (s n i : Int) (j : Nat) (l : List Int) : St := hp_cb.st ⟨(s, n, j, i, ()), (), (l, ())⟩
noncomputable def rn_cb (s n i : Int) (j : Nat) (l : List Int) := outa lve_cb (evCK Tryd.prog Γ (cfM Tryd.prog Γ cfg16 30) (cfg16.lo 38) [] 60 1 (lp 38 0) (st_cb s n i j l))
theorem rn_cb_eq (s n i : Int) (j : Nat) (l : List Int) : (rn_cb s n i j l).run = (bif decide (i < n) then (bif inr s && true then (bif decide ((0 : Int) ≤ i) then (bif ((pickD s (1073741824 : Int)).fdiv ((2 : Int) ^ min i.toNat (64))).tmod (2 : Int) == (1 : Int) then (bif decide ((j + 1) * 2 * 8 ≤ 281474976710656) then (some (Ex.normal, [V.si .i64 s, V.si .i64 n, V.bs true 0 0 (j + (1 : Nat)), V.si .i64 (IntKind.i64.wrap (i + (1 : Int)))], [], [some (Bf.live (.arr ity (List.take j (List.drop (0) l) ++ [i])))], 23, 0, 0)) else none) else (some (Ex.normal, [V.si .i64 s, V.si .i64 n, V.bs true 0 0 j, V.si .i64 (IntKind.i64.wrap (i + (1 : Int)))], [], [some (Bf.live (.arr ity l))], 23, 0, 0))) else none) else none) else (some (Ex.exit 0, [V.bs true 0 0 j], [], [some (Bf.live (.arr ity l))], 23, 0, 0))) := by kernel_rfl
theorem rn_cb_c (s n i : Int) (j : Nat) (l : List Int) {e : Ex} {vs : List V} {ob : Ob} {nm : Nm} {n' kh kt : Nat} (h : (rn_cb s n i j l).run = some (e, vs, ob, nm, n', kh, kt)) : SemC Tryd.prog Γ (lp 38 0) (st_cb s n i j l) e.to (St.of n' (lve_cb e) vs ob nm kh kt) := SemC.of_evM cfg16_ok Tryd.func38 bd_cb li_cb h
end L
end Go.Proofs.YthjiodeaepigmaaDoor

/- Package label: chosen; the loop of LabelKeys. -/
set_option linter.unusedVariables false
set_option linter.unusedSimpArgs false
set_option maxRecDepth 100000
set_option maxHeartbeats 4000000
namespace Go.Proofs.YthjiodeaepigmaaDoor
open Go
namespace L
def bitB (m s : Int) (i : Nat) : Bool := ((pickD s m).fdiv ((2 : Int) ^ min i 64)).tmod (2 : Int) == (1 : Int)
def bitsD (m s : Int) (n : Nat) : List Int := ((List.range n).filter (bitB m s)).map fun i : Nat => (i : Int)
theorem bitsD_succ (m s : Int) (n : Nat) : bitsD m s (n + 1) = bitsD m s n ++ (bif bitB m s n then [(n : Int)] else []) := by
 unfold bitsD
 rw [List.range_succ, List.filter_append, List.map_append]
 cases h : bitB m s n <;> simp [h]
theorem bitsD_len (m s : Int) (n : Nat) : (bitsD m s n).length ≤ n := by
 unfold bitsD
 rw [List.length_map]
 exact Nat.le_trans (List.length_filter_le _ _) (by simp)
def il' (l : List Int) : Option Bf := some (.live (.arr ity l))
abbrev pre_cb (s n i : Int) (j : Nat) (l : List Int) : Prop := inr s = true ∧ 0 ≤ n ∧ n ≤ 60 ∧ i = 0 ∧ j = 0 ∧ l = []
def rs_cb (s n i : Int) (j : Nat) (l : List Int) : Ex × St := (.exit 0, St.of 23 (lve_cb (.exit 0)) [.bs true 0 0 (bitsD 1073741824 s n.toNat).length] [] [il' (bitsD 1073741824 s n.toNat)] hp_cb.kh hp_cb.kt)
def res_cb (s n i : Int) (j : Nat) (l : List Int) : Tr (Ex × St) := .br (decide (pre_cb s n i j l)) (.leaf (some (.exit 0, St.of 23 (lve_cb (.exit 0)) [.bs true 0 0 (bitsD 1073741824 s n.toNat).length] [] [il' (bitsD 1073741824 s n.toNat)] hp_cb.kh hp_cb.kt))) (.leaf none)
def ent_cb : LEnt := LEnt.by hp_cb fun ⟨(s, n, j, i, _), _, (l, _)⟩ => res_cb s n i j l
theorem ent_cb_ok (hgo : ∀ (s n i : Int) (j : Nat) (l : List Int), pre_cb s n i j l → SemL Tryd.prog Γ (lp 38 0) (st_cb s n i j l) (rs_cb s n i j l).1.to (rs_cb s n i j l).2) : EntOk Tryd.prog Γ (lp 38 0) ent_cb := LEnt.by_ok fun ⟨(s, n, j, i, _), _, (l, _)⟩ _ _ h_ => SemL.br (out := rs_cb s n i j l) rfl (hgo s n i j l) h_
theorem cb_go (s n i : Int) (j : Nat) (l : List Int) (h : pre_cb s n i j l) : SemL Tryd.prog Γ (lp 38 0) (st_cb s n i j l) (rs_cb s n i j l).1.to (rs_cb s n i j l).2 := by
 obtain ⟨hs, h0, h1, rfl, rfl, rfl⟩ := h
 obtain ⟨k, rfl⟩ := Int.eq_ofNat_of_zero_le h0
 refine SemL.scan k 0 (Nat.zero_le _) (fun i => st_cb s k (i : Nat) (bitsD 1073741824 s i).length (bitsD 1073741824 s i)) (fun _ => true) _ ?_ ?_ ?_
 · intro i _ hi _ _
   have hw : IntKind.i64.wrap ((i : Int) + 1) = ((i + 1 : Nat) : Int) := by rw [wrap_in (by omega) (by omega)]; rfl
   have hl := bitsD_len 1073741824 s i
   have eq := rn_cb_eq s k i (bitsD 1073741824 s i).length (bitsD 1073741824 s i)
   rw [hw, hs, decide_eq_true (by omega : (i : Int) < (k : Int)), decide_eq_true (by omega : (0 : Int) ≤ (i : Int)), Int.toNat_natCast, decide_eq_true (by omega), List.drop_zero, List.take_length] at eq
   have hb : (((pickD s (1073741824 : Int)).fdiv ((2 : Int) ^ min i 64)).tmod (2 : Int) == (1 : Int)) = bitB 1073741824 s i := rfl
   rw [hb] at eq
   have hsucc := bitsD_succ 1073741824 s i
   cases hbb : bitB 1073741824 s i with
   | true =>
    rw [hbb] at eq hsucc
    simp only [cond_true] at hsucc
    have := rn_cb_c s k i (bitsD 1073741824 s i).length (bitsD 1073741824 s i) (eq.trans rfl)
    rw [hsucc, List.length_append]
    exact this
   | false =>
    rw [hbb] at eq hsucc
    simp only [cond_false, List.append_nil] at hsucc
    have := rn_cb_c s k i (bitsD 1073741824 s i).length (bitsD 1073741824 s i) (eq.trans rfl)
    rw [hsucc]
    exact this
 · intro i _ _ _ h; cases h
 · intro _
   refine ⟨by simp [rs_cb, Ex.to], ?_⟩
   have eq := rn_cb_eq s k k (bitsD 1073741824 s k).length (bitsD 1073741824 s k)
   rw [decide_eq_false (by omega)] at eq
   exact rn_cb_c s k k (bitsD 1073741824 s k).length (bitsD 1073741824 s k) (eq.trans rfl)
def hp_lk : HP := { n := 81, lv := [0, 1, 2, 7, 8, 9, 10, 11], sp := [.ty ity, .ty ity, .ty ity, .ptr 0 0, .ptr 1 0, .ptr 2 0, .ty ity, .ty ity], op := [.cells [.ci 0, .nl, .nl, .ci 0, .ci 0, .nl], .cells [.ci 0, .ci 0, .nl, .nl, .bz 0], .cells [.ci 0, .bz 1]], bp := [.arr ity, .arr ity], bo := [(1, 4, ity), (2, 1, ity)] }
def lve_lk : Ex → List Nat
 | .normal => [0, 1, 2, 7, 8, 9, 10, 11]
 | .exit 0 => [1, 7, 8, 9, 10]
 | _ => []
theorem bd_lk : Tryd.f10.body = some (root 10) := by kernel_rfl
theorem le_lk : (loops (root 10))[0]? = some (lp 10 0) := by kernel_rfl
theorem li_lk : Lies (root 10) 1 (lp 10 0) := Lies.of_take (n := 0) (by kernel_rfl)
def st_lk (ks nd rl both i : Int) (j1 j2 : Nat) (l1 l2 : List Int) : St := hp_lk.st ⟨(ks, nd, rl, (), (), (), both, i, ()), (((), (), (), (), (), (), ()), ((), (), (), (), j2, ()), ((), j1, ()), ()), (l2, l1, ())⟩
noncomputable def rn_lk (ks nd rl both i : Int) (j1 j2 : Nat) (l1 l2 : List Int) := outa lve_lk (evCK Tryd.prog Γ (cfM Tryd.prog Γ cfg16 30) (cfg16.lo 10) [50] 60 1 (lp 10 0) (st_lk ks nd rl both i j1 j2 l1 l2))
theorem rn_lk_eq (ks nd rl both i : Int) (j1 j2 : Nat) (l1 l2 : List Int) : (rn_lk ks nd rl both i j1 j2 l1 l2).run = (bif decide (i < (20 : Int)) then (bif inr ks && true then (bif decide ((0 : Int) ≤ i) then (bif inr rl && true then (bif decide ((0 : Int) ≤ i) then (bif ((pickD ks (1048576 : Int)).fdiv ((2 : Int) ^ min i.toNat (64))).tmod (2 : Int) == (1 : Int) then (bif decide ((j1 + 1) * 2 * 8 ≤ 281474976710656) then (bif ((pickD rl (1048576 : Int)).fdiv ((2 : Int) ^ min i.toNat (64))).tmod (2 : Int) == (1 : Int) then (bif decide ((j2 + 1) * 2 * 8 ≤ 281474976710656) then (bif bif ((pickD ks (1048576 : Int)).fdiv ((2 : Int) ^ min i.toNat (64))).tmod (2 : Int) == (1 : Int) then ((pickD rl (1048576 : Int)).fdiv ((2 : Int) ^ min i.toNat (64))).tmod (2 : Int) == (1 : Int) else false then (some (Ex.normal, [V.si .i64 ks, V.si .i64 nd, V.si .i64 rl, V.ptr 0 0, V.ptr 1 0, V.ptr 2 0, V.si .i64 (IntKind.i64.wrap (both + (1 : Int))), V.si .i64 (IntKind.i64.wrap (i + (1 : Int)))], [some [V.i .i64 (0 : Int), V.lst .full [], V.lst .full [], V.i .i64 (0 : Int), V.i .i64 (0 : Int), V.lst .full []], some [V.i .i64 (0 : Int), V.i .i64 (0 : Int), V.lst .full [], V.lst .full [], V.bs true 0 0 (j2 + (1 : Nat))], some [V.i .i64 (0 : Int), V.bs true 1 0 (j1 + (1 : Nat))]], [some (Bf.live (.arr ity (List.take j2 (List.drop (0) l2) ++ [i]))), some (Bf.live (.arr ity (List.take j1 (List.drop (0) l1) ++ [i])))], 81, 0, 0)) else (some (Ex.normal, [V.si .i64 ks, V.si .i64 nd, V.si .i64 rl, V.ptr 0 0, V.ptr 1 0, V.ptr 2 0, V.si .i64 both, V.si .i64 (IntKind.i64.wrap (i + (1 : Int)))], [some [V.i .i64 (0 : Int), V.lst .full [], V.lst .full [], V.i .i64 (0 : Int), V.i .i64 (0 : Int), V.lst .full []], some [V.i .i64 (0 : Int), V.i .i64 (0 : Int), V.lst .full [], V.lst .full [], V.bs true 0 0 (j2 + (1 : Nat))], some [V.i .i64 (0 : Int), V.bs true 1 0 (j1 + (1 : Nat))]], [some (Bf.live (.arr ity (List.take j2 (List.drop (0) l2) ++ [i]))), some (Bf.live (.arr ity (List.take j1 (List.drop (0) l1) ++ [i])))], 81, 0, 0))) else none) else (bif bif ((pickD ks (1048576 : Int)).fdiv ((2 : Int) ^ min i.toNat (64))).tmod (2 : Int) == (1 : Int) then ((pickD rl (1048576 : Int)).fdiv ((2 : Int) ^ min i.toNat (64))).tmod (2 : Int) == (1 : Int) else false then (some (Ex.normal, [V.si .i64 ks, V.si .i64 nd, V.si .i64 rl, V.ptr 0 0, V.ptr 1 0, V.ptr 2 0, V.si .i64 (IntKind.i64.wrap (both + (1 : Int))), V.si .i64 (IntKind.i64.wrap (i + (1 : Int)))], [some [V.i .i64 (0 : Int), V.lst .full [], V.lst .full [], V.i .i64 (0 : Int), V.i .i64 (0 : Int), V.lst .full []], some [V.i .i64 (0 : Int), V.i .i64 (0 : Int), V.lst .full [], V.lst .full [], V.bs true 0 0 j2], some [V.i .i64 (0 : Int), V.bs true 1 0 (j1 + (1 : Nat))]], [some (Bf.live (.arr ity l2)), some (Bf.live (.arr ity (List.take j1 (List.drop (0) l1) ++ [i])))], 81, 0, 0)) else (some (Ex.normal, [V.si .i64 ks, V.si .i64 nd, V.si .i64 rl, V.ptr 0 0, V.ptr 1 0, V.ptr 2 0, V.si .i64 both, V.si .i64 (IntKind.i64.wrap (i + (1 : Int)))], [some [V.i .i64 (0 : Int), V.lst .full [], V.lst .full [], V.i .i64 (0 : Int), V.i .i64 (0 : Int), V.lst .full []], some [V.i .i64 (0 : Int), V.i .i64 (0 : Int), V.lst .full [], V.lst .full [], V.bs true 0 0 j2], some [V.i .i64 (0 : Int), V.bs true 1 0 (j1 + (1 : Nat))]], [some (Bf.live (.arr ity l2)), some (Bf.live (.arr ity (List.take j1 (List.drop (0) l1) ++ [i])))], 81, 0, 0)))) else none) else (bif ((pickD rl (1048576 : Int)).fdiv ((2 : Int) ^ min i.toNat (64))).tmod (2 : Int) == (1 : Int) then (bif decide ((j2 + 1) * 2 * 8 ≤ 281474976710656) then (bif bif ((pickD ks (1048576 : Int)).fdiv ((2 : Int) ^ min i.toNat (64))).tmod (2 : Int) == (1 : Int) then ((pickD rl (1048576 : Int)).fdiv ((2 : Int) ^ min i.toNat (64))).tmod (2 : Int) == (1 : Int) else false then (some (Ex.normal, [V.si .i64 ks, V.si .i64 nd, V.si .i64 rl, V.ptr 0 0, V.ptr 1 0, V.ptr 2 0, V.si .i64 (IntKind.i64.wrap (both + (1 : Int))), V.si .i64 (IntKind.i64.wrap (i + (1 : Int)))], [some [V.i .i64 (0 : Int), V.lst .full [], V.lst .full [], V.i .i64 (0 : Int), V.i .i64 (0 : Int), V.lst .full []], some [V.i .i64 (0 : Int), V.i .i64 (0 : Int), V.lst .full [], V.lst .full [], V.bs true 0 0 (j2 + (1 : Nat))], some [V.i .i64 (0 : Int), V.bs true 1 0 j1]], [some (Bf.live (.arr ity (List.take j2 (List.drop (0) l2) ++ [i]))), some (Bf.live (.arr ity l1))], 81, 0, 0)) else (some (Ex.normal, [V.si .i64 ks, V.si .i64 nd, V.si .i64 rl, V.ptr 0 0, V.ptr 1 0, V.ptr 2 0, V.si .i64 both, V.si .i64 (IntKind.i64.wrap (i + (1 : Int)))], [some [V.i .i64 (0 : Int), V.lst .full [], V.lst .full [], V.i .i64 (0 : Int), V.i .i64 (0 : Int), V.lst .full []], some [V.i .i64 (0 : Int), V.i .i64 (0 : Int), V.lst .full [], V.lst .full [], V.bs true 0 0 (j2 + (1 : Nat))], some [V.i .i64 (0 : Int), V.bs true 1 0 j1]], [some (Bf.live (.arr ity (List.take j2 (List.drop (0) l2) ++ [i]))), some (Bf.live (.arr ity l1))], 81, 0, 0))) else none) else (bif bif ((pickD ks (1048576 : Int)).fdiv ((2 : Int) ^ min i.toNat (64))).tmod (2 : Int) == (1 : Int) then ((pickD rl (1048576 : Int)).fdiv ((2 : Int) ^ min i.toNat (64))).tmod (2 : Int) == (1 : Int) else false then (some (Ex.normal, [V.si .i64 ks, V.si .i64 nd, V.si .i64 rl, V.ptr 0 0, V.ptr 1 0, V.ptr 2 0, V.si .i64 (IntKind.i64.wrap (both + (1 : Int))), V.si .i64 (IntKind.i64.wrap (i + (1 : Int)))], [some [V.i .i64 (0 : Int), V.lst .full [], V.lst .full [], V.i .i64 (0 : Int), V.i .i64 (0 : Int), V.lst .full []], some [V.i .i64 (0 : Int), V.i .i64 (0 : Int), V.lst .full [], V.lst .full [], V.bs true 0 0 j2], some [V.i .i64 (0 : Int), V.bs true 1 0 j1]], [some (Bf.live (.arr ity l2)), some (Bf.live (.arr ity l1))], 81, 0, 0)) else (some (Ex.normal, [V.si .i64 ks, V.si .i64 nd, V.si .i64 rl, V.ptr 0 0, V.ptr 1 0, V.ptr 2 0, V.si .i64 both, V.si .i64 (IntKind.i64.wrap (i + (1 : Int)))], [some [V.i .i64 (0 : Int), V.lst .full [], V.lst .full [], V.i .i64 (0 : Int), V.i .i64 (0 : Int), V.lst .full []], some [V.i .i64 (0 : Int), V.i .i64 (0 : Int), V.lst .full [], V.lst .full [], V.bs true 0 0 j2], some [V.i .i64 (0 : Int), V.bs true 1 0 j1]], [some (Bf.live (.arr ity l2)), some (Bf.live (.arr ity l1))], 81, 0, 0))))) else none) else none) else none) else none) else (some (Ex.exit 0, [V.si .i64 nd, V.ptr 0 0, V.ptr 1 0, V.ptr 2 0, V.si .i64 both], [some [V.i .i64 (0 : Int), V.lst .full [], V.lst .full [], V.i .i64 (0 : Int), V.i .i64 (0 : Int), V.lst .full []], some [V.i .i64 (0 : Int), V.i .i64 (0 : Int), V.lst .full [], V.lst .full [], V.bs true 0 0 j2], some [V.i .i64 (0 : Int), V.bs true 1 0 j1]], [some (Bf.live (.arr ity l2)), some (Bf.live (.arr ity l1))], 81, 0, 0))) := by kernel_rfl
theorem rn_lk_c (ks nd rl both i : Int) (j1 j2 : Nat) (l1 l2 : List Int) {e : Ex} {vs : List V} {ob : Ob} {nm : Nm} {n' kh kt : Nat} (h : (rn_lk ks nd rl both i j1 j2 l1 l2).run = some (e, vs, ob, nm, n', kh, kt)) : SemC Tryd.prog Γ (lp 10 0) (st_lk ks nd rl both i j1 j2 l1 l2) e.to (St.of n' (lve_lk e) vs ob nm kh kt) := SemC.of_evM cfg16_ok Tryd.func10 bd_lk li_lk h
def bothD (m s r : Int) (n : Nat) : Nat := ((List.range n).filter fun i => bitB m s i && bitB m r i).length
theorem bothD_succ (m s r : Int) (n : Nat) : bothD m s r (n + 1) = bothD m s r n + (bif bitB m s n && bitB m r n then 1 else 0) := by
 unfold bothD
 rw [List.range_succ, List.filter_append, List.length_append]
 cases h : (bitB m s n && bitB m r n) <;> simp [h]
theorem bothD_le (m s r : Int) (n : Nat) : bothD m s r n ≤ n := by
 unfold bothD
 exact Nat.le_trans (List.length_filter_le _ _) (by simp)
abbrev pre_lk (ks nd rl both i : Int) (j1 j2 : Nat) (l1 l2 : List Int) : Prop := inr ks = true ∧ inr rl = true ∧ both = 0 ∧ i = 0 ∧ j1 = 0 ∧ j2 = 0 ∧ l1 = [] ∧ l2 = []
def rs_lk (ks nd rl both i : Int) (j1 j2 : Nat) (l1 l2 : List Int) : Ex × St := (.exit 0, St.of 81 (lve_lk (.exit 0)) [.si .i64 nd, .ptr 0 0, .ptr 1 0, .ptr 2 0, .si .i64 (bothD 1048576 ks rl 20 : Nat)] [some [.i .i64 0, .lst .full [], .lst .full [], .i .i64 0, .i .i64 0, .lst .full []], some [.i .i64 0, .i .i64 0, .lst .full [], .lst .full [], .bs true 0 0 (bitsD 1048576 rl 20).length], some [.i .i64 0, .bs true 1 0 (bitsD 1048576 ks 20).length]] [il' (bitsD 1048576 rl 20), il' (bitsD 1048576 ks 20)] hp_lk.kh hp_lk.kt)
def res_lk (ks nd rl both i : Int) (j1 j2 : Nat) (l1 l2 : List Int) : Tr (Ex × St) := .br (decide (pre_lk ks nd rl both i j1 j2 l1 l2)) (.leaf (some (.exit 0, St.of 81 (lve_lk (.exit 0)) [.si .i64 nd, .ptr 0 0, .ptr 1 0, .ptr 2 0, .si .i64 (bothD 1048576 ks rl 20 : Nat)] [some [.i .i64 0, .lst .full [], .lst .full [], .i .i64 0, .i .i64 0, .lst .full []], some [.i .i64 0, .i .i64 0, .lst .full [], .lst .full [], .bs true 0 0 (bitsD 1048576 rl 20).length], some [.i .i64 0, .bs true 1 0 (bitsD 1048576 ks 20).length]] [il' (bitsD 1048576 rl 20), il' (bitsD 1048576 ks 20)] hp_lk.kh hp_lk.kt))) (.leaf none)
def ent_lk : LEnt := LEnt.by hp_lk fun ⟨(ks, nd, rl, _, _, _, both, i, _), ((_, _, _, _, _, _, _), (_, _, _, _, j2, _), (_, j1, _), _), (l2, l1, _)⟩ => res_lk ks nd rl both i j1 j2 l1 l2
theorem ent_lk_ok (hgo : ∀ (ks nd rl both i : Int) (j1 j2 : Nat) (l1 l2 : List Int), pre_lk ks nd rl both i j1 j2 l1 l2 → SemL Tryd.prog Γ (lp 10 0) (st_lk ks nd rl both i j1 j2 l1 l2) (rs_lk ks nd rl both i j1 j2 l1 l2).1.to (rs_lk ks nd rl both i j1 j2 l1 l2).2) : EntOk Tryd.prog Γ (lp 10 0) ent_lk := LEnt.by_ok fun ⟨(ks, nd, rl, _, _, _, both, i, _), ((_, _, _, _, _, _, _), (_, _, _, _, j2, _), (_, j1, _), _), (l2, l1, _)⟩ _ _ h_ => SemL.br (out := rs_lk ks nd rl both i j1 j2 l1 l2) rfl (hgo ks nd rl both i j1 j2 l1 l2) h_
theorem lk_go (ks nd rl both i : Int) (j1 j2 : Nat) (l1 l2 : List Int) (h : pre_lk ks nd rl both i j1 j2 l1 l2) : SemL Tryd.prog Γ (lp 10 0) (st_lk ks nd rl both i j1 j2 l1 l2) (rs_lk ks nd rl both i j1 j2 l1 l2).1.to (rs_lk ks nd rl both i j1 j2 l1 l2).2 := by
 obtain ⟨hk, hr, rfl, rfl, rfl, rfl, rfl, rfl⟩ := h
 refine SemL.scan 20 0 (Nat.zero_le _) (fun i => st_lk ks nd rl (bothD 1048576 ks rl i : Nat) (i : Nat) (bitsD 1048576 ks i).length (bitsD 1048576 rl i).length (bitsD 1048576 ks i) (bitsD 1048576 rl i)) (fun _ => true) _ ?_ ?_ ?_
 · intro i _ hi _ _
   have hw : IntKind.i64.wrap ((i : Int) + 1) = ((i + 1 : Nat) : Int) := by rw [wrap_in (by omega) (by omega)]; rfl
   have hle := bothD_le 1048576 ks rl i
   have hw2 : IntKind.i64.wrap (((bothD 1048576 ks rl i : Nat) : Int) + 1) = ((bothD 1048576 ks rl i + 1 : Nat) : Int) := by rw [wrap_in (by omega) (by omega)]; rfl
   have h1 := bitsD_len 1048576 ks i
   have h2 := bitsD_len 1048576 rl i
   have eq := rn_lk_eq ks nd rl (bothD 1048576 ks rl i : Nat) i (bitsD 1048576 ks i).length (bitsD 1048576 rl i).length (bitsD 1048576 ks i) (bitsD 1048576 rl i)
   rw [hw, hw2, hk, hr, decide_eq_true (by omega : (i : Int) < (20 : Int)), decide_eq_true (by omega : (0 : Int) ≤ (i : Int)), Int.toNat_natCast, decide_eq_true (by omega : ((bitsD 1048576 ks i).length + 1) * 2 * 8 ≤ 281474976710656), decide_eq_true (by omega : ((bitsD 1048576 rl i).length + 1) * 2 * 8 ≤ 281474976710656), List.drop_zero, List.drop_zero, List.take_length, List.take_length] at eq
   have hb1 : (((pickD ks (1048576 : Int)).fdiv ((2 : Int) ^ min i 64)).tmod (2 : Int) == (1 : Int)) = bitB 1048576 ks i := rfl
   have hb2 : (((pickD rl (1048576 : Int)).fdiv ((2 : Int) ^ min i 64)).tmod (2 : Int) == (1 : Int)) = bitB 1048576 rl i := rfl
   rw [hb1, hb2] at eq
   have s1 := bitsD_succ 1048576 ks i
   have s2 := bitsD_succ 1048576 rl i
   have s3 := bothD_succ 1048576 ks rl i
   cases b1 : bitB 1048576 ks i <;> cases b2 : bitB 1048576 rl i <;>
    · rw [b1, b2] at eq s3
      rw [b1] at s1
      rw [b2] at s2
      simp only [cond_true, cond_false, List.append_nil, Bool.and_self, Bool.and_false, Bool.false_and, Bool.and_true, Nat.add_zero] at s1 s2 s3
      have := rn_lk_c ks nd rl (bothD 1048576 ks rl i : Nat) i (bitsD 1048576 ks i).length (bitsD 1048576 rl i).length (bitsD 1048576 ks i) (bitsD 1048576 rl i) (eq.trans rfl)
      rw [s1, s2, s3]
      try simp only [List.length_append]
      exact this
 · intro i _ _ _ h; cases h
 · intro _
   refine ⟨by simp [rs_lk, Ex.to], ?_⟩
   have eq := rn_lk_eq ks nd rl (bothD 1048576 ks rl 20 : Nat) (20 : Nat) (bitsD 1048576 ks 20).length (bitsD 1048576 rl 20).length (bitsD 1048576 ks 20) (bitsD 1048576 rl 20)
   rw [decide_eq_false (by omega)] at eq
   exact rn_lk_c ks nd rl (bothD 1048576 ks rl 20 : Nat) (20 : Nat) (bitsD 1048576 ks 20).length (bitsD 1048576 rl 20).length (bitsD 1048576 ks 20) (bitsD 1048576 rl 20) (eq.trans rfl)
def lo16 : LOrc := (LOrc.add (LOrc.add lo13 38 0 ent_cb) 10 0 ent_lk)
theorem lo16_ok : LOrcOk Tryd.prog Γ lo16 := (LOrcOk.add (LOrcOk.add lo13_ok 38 0 Tryd.func38 bd_cb le_cb (ent_cb_ok cb_go)) 10 0 Tryd.func10 bd_lk le_lk (ent_lk_ok lk_go))
noncomputable def cfg17 : Cfg := cfgP orc15 lo16
theorem cfg17_ok : CfgOk Tryd.prog Γ cfg17 := cfgP_ok orc15_ok lo16_ok
def mkQ (n : Int) (k : List Int) : Ty.den lockT := (n, k, ())
end L
end Go.Proofs.YthjiodeaepigmaaDoor

/- Package label: plain facts; LabelKeys answers true. -/
set_option linter.unusedVariables false
set_option linter.unusedSimpArgs false
set_option maxRecDepth 100000
set_option maxHeartbeats 4000000
namespace Go.Proofs.YthjiodeaepigmaaDoor
open Go
namespace L
theorem getD_eq {α : Type} {l : List α} {i : Nat} (h : i < l.length) (d : α) : l.getD i d = l[i] := by
 rw [List.getD, List.getElem?_eq_getElem h]; rfl
theorem rising_iff {l : List Int} {m : Int} : risingD l m = true ↔ (∀ x ∈ l, 0 ≤ x ∧ x ≤ m) ∧ l.Pairwise (· < ·) := by
 constructor
 · intro h
   have h1 := allI_true.1 h
   have hb : ∀ i (hi : i < l.length), 0 ≤ l[i] ∧ l[i] ≤ m ∧ (0 < i → l.getD (i - 1) 0 < l[i]) := fun i hi => by
    have := of_decide_eq_true (h1 i hi)
    rw [getD_eq hi] at this
    exact this
   refine ⟨fun x hx => ?_, List.pairwise_iff_getElem.2 ?_⟩
   · obtain ⟨i, hi, rfl⟩ := List.getElem_of_mem hx
     exact ⟨(hb i hi).1, (hb i hi).2.1⟩
   · intro i j hi hj hij
     induction j with
     | zero => omega
     | succ j ih =>
      have h2 := (hb (j + 1) hj).2.2 (by omega)
      rw [Nat.add_sub_cancel, getD_eq (show j < l.length by omega)] at h2
      by_cases e : i = j
      · subst e; exact h2
      · exact Int.lt_trans (ih (by omega) (by omega)) h2
 · rintro ⟨h1, h2⟩
   refine allI_true.2 fun i hi => decide_eq_true ?_
   rw [getD_eq hi]
   refine ⟨(h1 _ (List.getElem_mem hi)).1, (h1 _ (List.getElem_mem hi)).2, fun h0 => ?_⟩
   rw [getD_eq (show i - 1 < l.length by omega)]
   exact List.pairwise_iff_getElem.1 h2 (i - 1) i (by omega) hi (by omega)
theorem hasD_iff {l : List Int} {x : Int} : hasD l x = true ↔ x ∈ l := by
 have : hasD l x = l.any (fun y => x == y) := someI_any l _
 rw [this, List.any_eq_true]
 constructor
 · rintro ⟨y, hy, e⟩
   have : x = y := by simpa using e
   exact this ▸ hy
 · intro h
   exact ⟨x, h, by simp⟩
theorem mem_bits {m s : Int} {n : Nat} {x : Int} : x ∈ bitsD m s n ↔ ∃ i : Nat, i < n ∧ bitB m s i = true ∧ x = i := by
 unfold bitsD
 rw [List.mem_map]
 constructor
 · rintro ⟨i, hi, rfl⟩
   rw [List.mem_filter, List.mem_range] at hi
   exact ⟨i, hi.1, hi.2, rfl⟩
 · rintro ⟨i, h1, h2, rfl⟩
   exact ⟨i, List.mem_filter.2 ⟨List.mem_range.2 h1, h2⟩, rfl⟩
theorem bits_rising (m s : Int) {n : Nat} {k : Int} (h : (n : Int) ≤ k + 1) : risingD (bitsD m s n) k = true := by
 rw [rising_iff]
 refine ⟨fun x hx => ?_, ?_⟩
 · obtain ⟨i, h1, _, rfl⟩ := mem_bits.1 hx
   omega
 · unfold bitsD
   rw [List.pairwise_map]
   exact (List.pairwise_lt_range.filter _).imp fun h => by omega
end L
end Go.Proofs.YthjiodeaepigmaaDoor

/- Package label: chosen as a contract; Moment's loop. -/
set_option linter.unusedVariables false
set_option linter.unusedSimpArgs false
set_option maxRecDepth 100000
set_option maxHeartbeats 4000000
namespace Go.Proofs.YthjiodeaepigmaaDoor
open Go
namespace L
theorem c38_run (s n : Int) : runL cfg17 38 [.si .i64 s, .si .i64 n] = .ok (some (decide (pre_cb s n (0 : Int) (0) []))) (V.slst .ro ity (List.take (bitsD (1073741824 : Int) s n.toNat).length (List.drop (0) (bitsD (1073741824 : Int) s n.toNat)))) := by kernel_rfl
end L
end Go.Proofs.YthjiodeaepigmaaDoor

/- Package label: Moment's loop and Made's first loop, printed. -/
set_option linter.unusedVariables false
set_option linter.unusedSimpArgs false
set_option maxRecDepth 100000
set_option maxHeartbeats 4000000
namespace Go.Proofs.YthjiodeaepigmaaDoor
open Go
namespace L
theorem take_all (l : List Int) : List.take l.length (List.drop 0 l) = l := by rw [List.drop_zero, List.take_length]
theorem c38_ok (s n : Int) (h : inr s = true ∧ 0 ≤ n ∧ n ≤ 60) : SemF Tryd.prog Γ 38 [.si .i64 s, .si .i64 n] [] [] (.slst .ro ity (bitsD 1073741824 s n.toNat)) [] [] :=
 of_runL cfg17_ok (c38_run s n) (decide_eq_true ⟨h.1, h.2.1, h.2.2, rfl, rfl, rfl⟩) (congrArg (V.slst .ro ity) (take_all _))
def e38 (s n : Int) : Option Bool × V := (some (decide (inr s = true ∧ 0 ≤ n ∧ n ≤ 60)), .slst .ro ity (bitsD 1073741824 s n.toNat))
theorem e38_of (s n : Int) (h : (e38 s n).1.getD true = true) : SemF Tryd.prog Γ 38 [.si .i64 s, .si .i64 n] [] [] (e38 s n).2 [] [] := c38_ok s n (of_decide_eq_true h)
noncomputable def orc20 : Orc := fun f args => if f = 38 then (Ty.ofVs [ity, ity] args).map (fun x => e38 x.1 x.2.1) else orc15 f args
theorem orc20_ok : OrcOk Tryd.prog Γ orc20 := orc15_ok.plain 38 [ity, ity] (fun x => e38 x.1 x.2.1) Tryd.f38 Tryd.func38 rfl (by kernel_rfl) (fun x h => e38_of x.1 x.2.1 h)
def mkC (f c : Int) : Ty.den conf := (f, c, ())
theorem inr_wrap (n : Int) : inr (IntKind.i64.wrap n) = true := by
 have e1 : (2 : Int) ^ 64 = 18446744073709551616 := rfl
 have e2 : (2 : Int) ^ (64 - 1) = 9223372036854775808 := rfl
 unfold inr
 simp only [IntKind.wrap, IntKind.signed, IntKind.bits, Bool.true_and, decide_eq_true_eq, e1, e2]
 split <;> omega
noncomputable def cfg20 : Cfg := cfgP orc20 lo16
theorem cfg20_ok : CfgOk Tryd.prog Γ cfg20 := cfgP_ok orc20_ok lo16_ok
def hp_mo : HP := { n := 43, lv := [1, 2, 3, 4], sp := [.ptr 0 0, .ptr 1 0, .ptr 2 0, .ty ity], op := [.cells [.ty ity, .ty ity, .ty ity, .ty ity, .ty ity], .cells [.ci 0, .ci 0, .nl, .nl, .nl], .cells [.ty ity, .ty ity, .ty (.slice ity), .bz 0, .ty (.slice ity)]], bp := [.arr conf], bo := [(2, 3, conf)] }
def lve_mo : Ex → List Nat
 | .normal => [1, 2, 3, 4]
 | .exit 0 => [2, 3]
 | _ => []
theorem bd_mo : Tryd.f22.body = some (root 22) := by kernel_rfl
theorem le_mo : (loops (root 22))[0]? = some (lp 22 0) := by kernel_rfl
theorem li_mo : Lies (root 22) 1 (lp 22 0) := Lies.of_take (n := 0) (by kernel_rfl)
def st_mo (x0 x1 x2 x3 x4 i now dr : Int) (ev ks : List Int) (j : Nat) (l : List (Ty.den conf)) : St := hp_mo.st ⟨((), (), (), i, ()), ((x0, x1, x2, x3, x4, ()), ((), (), (), (), (), ()), (now, dr, ev, j, ks, ()), ()), (l, ())⟩
noncomputable def rn_mo (x0 x1 x2 x3 x4 i now dr : Int) (ev ks : List Int) (j : Nat) (l : List (Ty.den conf)) := outa lve_mo (evCK Tryd.prog Γ (cfM Tryd.prog Γ cfg20 30) (cfg20.lo 22) [] 60 1 (lp 22 0) (st_mo x0 x1 x2 x3 x4 i now dr ev ks j l))
theorem rn_mo_eq (x0 x1 x2 x3 x4 i now dr : Int) (ev ks : List Int) (j : Nat) (l : List (Ty.den conf)) : (rn_mo x0 x1 x2 x3 x4 i now dr ev ks j l).run = (bif decide (i < (4 : Int)) then (bif inr x3 && true then (bif decide ((0 : Int) ≤ i) then (bif ((pickD x3 (16 : Int)).fdiv ((2 : Int) ^ min i.toNat (64))).tmod (2 : Int) == (1 : Int) then (bif inr (IntKind.i64.wrap (x3.tdiv (16 : Int))) && true then (bif decide ((j + 1) * 2 * 16 ≤ 281474976710656) then (some (Ex.normal, [V.ptr 0 0, V.ptr 1 0, V.ptr 2 0, V.si .i64 (IntKind.i64.wrap (i + (1 : Int)))], [some [V.si .i64 x0, V.si .i64 x1, V.si .i64 x2, V.si .i64 x3, V.si .i64 x4], some [V.i .i64 (0 : Int), V.i .i64 (0 : Int), V.lst .full [], V.lst .full [], V.lst .full []], some [V.si .i64 now, V.si .i64 dr, V.slst .ro ity ev, V.bs true 0 0 (j + (1 : Nat)), V.slst .ro ity ks]], [some (Bf.live (.arr conf (List.take j (List.drop (0) l) ++ [mkC i (pickD (IntKind.i64.wrap (x3.tdiv (16 : Int))) (5 : Int))])))], 43, 0, 0)) else none) else none) else (some (Ex.normal, [V.ptr 0 0, V.ptr 1 0, V.ptr 2 0, V.si .i64 (IntKind.i64.wrap (i + (1 : Int)))], [some [V.si .i64 x0, V.si .i64 x1, V.si .i64 x2, V.si .i64 x3, V.si .i64 x4], some [V.i .i64 (0 : Int), V.i .i64 (0 : Int), V.lst .full [], V.lst .full [], V.lst .full []], some [V.si .i64 now, V.si .i64 dr, V.slst .ro ity ev, V.bs true 0 0 j, V.slst .ro ity ks]], [some (Bf.live (.arr conf l))], 43, 0, 0))) else none) else none) else (some (Ex.exit 0, [V.ptr 0 0, V.ptr 1 0], [some [V.i .i64 (0 : Int), V.i .i64 (0 : Int), V.lst .full [], V.lst .full [], V.lst .full []], some [V.si .i64 now, V.si .i64 dr, V.slst .ro ity ev, V.bs true 0 0 j, V.slst .ro ity ks]], [some (Bf.live (.arr conf l))], 43, 0, 0))) := by kernel_rfl
theorem rn_mo_c (x0 x1 x2 x3 x4 i now dr : Int) (ev ks : List Int) (j : Nat) (l : List (Ty.den conf)) {e : Ex} {vs : List V} {ob : Ob} {nm : Nm} {n' kh kt : Nat} (h : (rn_mo x0 x1 x2 x3 x4 i now dr ev ks j l).run = some (e, vs, ob, nm, n', kh, kt)) : SemC Tryd.prog Γ (lp 22 0) (st_mo x0 x1 x2 x3 x4 i now dr ev ks j l) e.to (St.of n' (lve_mo e) vs ob nm kh kt) := SemC.of_evM cfg20_ok Tryd.func22 bd_mo li_mo h
def hp_ma : HP := { n := 104, lv := [1, 2, 3, 4, 5], sp := [.ptr 0 0, .ptr 1 0, .ptr 2 0, .ty (.slice ity), .ty ity], op := [.cells [.ty ity, .ty ity, .ty ity, .ty ity, .ty ity, .ty ity, .ty ity], .cells [.ci 0, .nl, .nl, .ci 0, .ci 0, .nl], .cells [.ty ity, .ty (.slice ity), .bz 0, .ty ity, .ty ity, .nl]], bp := [.arr conf], bo := [(2, 2, conf)] }
def lve_ma : Ex → List Nat
 | .normal => [1, 2, 3, 4, 5]
 | .exit 0 => [1, 2, 3]
 | _ => []
theorem bd_ma : Tryd.f12.body = some (root 12) := by kernel_rfl
theorem le_ma : (loops (root 12))[0]? = some (lp 12 0) := by kernel_rfl
theorem li_ma : Lies (root 12) 1 (lp 12 0) := Lies.of_take (n := 0) (by kernel_rfl)
def st_ma (x0 x1 x2 x3 x4 x5 x6 : Int) (fs : List Int) (i u t c : Int) (ev : List Int) (j : Nat) (l : List (Ty.den conf)) : St := hp_ma.st ⟨((), (), (), fs, i, ()), ((x0, x1, x2, x3, x4, x5, x6, ()), ((), (), (), (), (), (), ()), (u, ev, j, t, c, (), ()), ()), (l, ())⟩
noncomputable def rn_ma (x0 x1 x2 x3 x4 x5 x6 : Int) (fs : List Int) (i u t c : Int) (ev : List Int) (j : Nat) (l : List (Ty.den conf)) := outa lve_ma (evCK Tryd.prog Γ (cfM Tryd.prog Γ cfg20 30) (cfg20.lo 12) [] 60 1 (lp 12 0) (st_ma x0 x1 x2 x3 x4 x5 x6 fs i u t c ev j l))
theorem rn_ma_eq (x0 x1 x2 x3 x4 x5 x6 : Int) (fs : List Int) (i u t c : Int) (ev : List Int) (j : Nat) (l : List (Ty.den conf)) : (rn_ma x0 x1 x2 x3 x4 x5 x6 fs i u t c ev j l).run = (bif decide (i < (fs.length : Int)) then (bif decide ((0 : Int) ≤ i ∧ i < (fs.length : Int)) then (bif inr (IntKind.i64.wrap (x2.tdiv (16 : Int))) && true then (bif decide ((j + 1) * 2 * 16 ≤ 281474976710656) then (some (Ex.normal, [V.ptr 0 0, V.ptr 1 0, V.ptr 2 0, V.slst .ro ity fs, V.si .i64 (IntKind.i64.wrap (i + (1 : Int)))], [some [V.si .i64 x0, V.si .i64 x1, V.si .i64 x2, V.si .i64 x3, V.si .i64 x4, V.si .i64 x5, V.si .i64 x6], some [V.i .i64 (0 : Int), V.lst .full [], V.lst .full [], V.i .i64 (0 : Int), V.i .i64 (0 : Int), V.lst .full []], some [V.si .i64 u, V.slst .ro ity ev, V.bs true 0 0 (j + (1 : Nat)), V.si .i64 t, V.si .i64 c, V.lst .full []]], [some (Bf.live (.arr conf (List.take j (List.drop (0) l) ++ [mkC (fs.getD i.toNat (0 : Int)) (IntKind.i64.wrap ((1 : Int) + pickD (IntKind.i64.wrap (x2.tdiv (16 : Int))) (3 : Int)))])))], 104, 0, 0)) else none) else none) else none) else (some (Ex.exit 0, [V.ptr 0 0, V.ptr 1 0, V.ptr 2 0], [some [V.si .i64 x0, V.si .i64 x1, V.si .i64 x2, V.si .i64 x3, V.si .i64 x4, V.si .i64 x5, V.si .i64 x6], some [V.i .i64 (0 : Int), V.lst .full [], V.lst .full [], V.i .i64 (0 : Int), V.i .i64 (0 : Int), V.lst .full []], some [V.si .i64 u, V.slst .ro ity ev, V.bs true 0 0 j, V.si .i64 t, V.si .i64 c, V.lst .full []]], [some (Bf.live (.arr conf l))], 104, 0, 0))) := by kernel_rfl
theorem rn_ma_c (x0 x1 x2 x3 x4 x5 x6 : Int) (fs : List Int) (i u t c : Int) (ev : List Int) (j : Nat) (l : List (Ty.den conf)) {e : Ex} {vs : List V} {ob : Ob} {nm : Nm} {n' kh kt : Nat} (h : (rn_ma x0 x1 x2 x3 x4 x5 x6 fs i u t c ev j l).run = some (e, vs, ob, nm, n', kh, kt)) : SemC Tryd.prog Γ (lp 12 0) (st_ma x0 x1 x2 x3 x4 x5 x6 fs i u t c ev j l) e.to (St.of n' (lve_ma e) vs ob nm kh kt) := SemC.of_evM cfg20_ok Tryd.func12 bd_ma li_ma h
def momC (x3 : Int) (n : Nat) : List (Ty.den conf) := ((List.range n).filter (bitB 16 x3)).map fun i : Nat => mkC (i : Int) (pickD (IntKind.i64.wrap (x3.tdiv 16)) 5)
theorem momC_succ (x3 : Int) (n : Nat) : momC x3 (n + 1) = momC x3 n ++ (bif bitB 16 x3 n then [mkC (n : Int) (pickD (IntKind.i64.wrap (x3.tdiv 16)) 5)] else []) := by
 unfold momC
 rw [List.range_succ, List.filter_append, List.map_append]
 cases h : bitB 16 x3 n <;> simp [h]
theorem momC_len (x3 : Int) (n : Nat) : (momC x3 n).length ≤ n := by
 unfold momC
 rw [List.length_map]
 exact Nat.le_trans (List.length_filter_le _ _) (by simp)
abbrev pre_mo (x0 x1 x2 x3 x4 i now dr : Int) (ev ks : List Int) (j : Nat) (l : List (Ty.den conf)) : Prop := inr x3 = true ∧ i = 0 ∧ j = 0 ∧ l = []
def rs_mo (x0 x1 x2 x3 x4 i now dr : Int) (ev ks : List Int) (j : Nat) (l : List (Ty.den conf)) : Ex × St := (.exit 0, St.of 43 (lve_mo (.exit 0)) [.ptr 0 0, .ptr 1 0] [some [.i .i64 0, .i .i64 0, .lst .full [], .lst .full [], .lst .full []], some [.si .i64 now, .si .i64 dr, .slst .ro ity ev, .bs true 0 0 (momC x3 4).length, .slst .ro ity ks]] [some (.live (.arr conf (momC x3 4)))] hp_mo.kh hp_mo.kt)
def res_mo (x0 x1 x2 x3 x4 i now dr : Int) (ev ks : List Int) (j : Nat) (l : List (Ty.den conf)) : Tr (Ex × St) := .br (decide (pre_mo x0 x1 x2 x3 x4 i now dr ev ks j l)) (.leaf (some (.exit 0, St.of 43 (lve_mo (.exit 0)) [.ptr 0 0, .ptr 1 0] [some [.i .i64 0, .i .i64 0, .lst .full [], .lst .full [], .lst .full []], some [.si .i64 now, .si .i64 dr, .slst .ro ity ev, .bs true 0 0 (momC x3 4).length, .slst .ro ity ks]] [some (.live (.arr conf (momC x3 4)))] hp_mo.kh hp_mo.kt))) (.leaf none)
def ent_mo : LEnt := LEnt.by hp_mo fun ⟨(_, _, _, i, _), ((x0, x1, x2, x3, x4, _), (_, _, _, _, _, _), (now, dr, ev, j, ks, _), _), (l, _)⟩ => res_mo x0 x1 x2 x3 x4 i now dr ev ks j l
theorem ent_mo_ok (hgo : ∀ (x0 x1 x2 x3 x4 i now dr : Int) (ev ks : List Int) (j : Nat) (l : List (Ty.den conf)), pre_mo x0 x1 x2 x3 x4 i now dr ev ks j l → SemL Tryd.prog Γ (lp 22 0) (st_mo x0 x1 x2 x3 x4 i now dr ev ks j l) (rs_mo x0 x1 x2 x3 x4 i now dr ev ks j l).1.to (rs_mo x0 x1 x2 x3 x4 i now dr ev ks j l).2) : EntOk Tryd.prog Γ (lp 22 0) ent_mo := LEnt.by_ok fun ⟨(_, _, _, i, _), ((x0, x1, x2, x3, x4, _), (_, _, _, _, _, _), (now, dr, ev, j, ks, _), _), (l, _)⟩ _ _ h_ => SemL.br (out := rs_mo x0 x1 x2 x3 x4 i now dr ev ks j l) rfl (hgo x0 x1 x2 x3 x4 i now dr ev ks j l) h_
theorem mo_go (x0 x1 x2 x3 x4 i now dr : Int) (ev ks : List Int) (j : Nat) (l : List (Ty.den conf)) (h : pre_mo x0 x1 x2 x3 x4 i now dr ev ks j l) : SemL Tryd.prog Γ (lp 22 0) (st_mo x0 x1 x2 x3 x4 i now dr ev ks j l) (rs_mo x0 x1 x2 x3 x4 i now dr ev ks j l).1.to (rs_mo x0 x1 x2 x3 x4 i now dr ev ks j l).2 := by
 obtain ⟨h3, rfl, rfl, rfl⟩ := h
 refine SemL.scan 4 0 (Nat.zero_le _) (fun i => st_mo x0 x1 x2 x3 x4 (i : Nat) now dr ev ks (momC x3 i).length (momC x3 i)) (fun _ => true) _ ?_ ?_ ?_
 · intro i _ hi _ _
   have hw : IntKind.i64.wrap ((i : Int) + 1) = ((i + 1 : Nat) : Int) := by rw [wrap_in (by omega) (by omega)]; rfl
   have hl := momC_len x3 i
   have eq := rn_mo_eq x0 x1 x2 x3 x4 i now dr ev ks (momC x3 i).length (momC x3 i)
   rw [hw, h3, inr_wrap, decide_eq_true (by omega : (i : Int) < (4 : Int)), decide_eq_true (by omega : (0 : Int) ≤ (i : Int)), Int.toNat_natCast, decide_eq_true (by omega : ((momC x3 i).length + 1) * 2 * 16 ≤ 281474976710656), List.drop_zero, List.take_length] at eq
   have hb : (((pickD x3 (16 : Int)).fdiv ((2 : Int) ^ min i 64)).tmod (2 : Int) == (1 : Int)) = bitB 16 x3 i := rfl
   rw [hb] at eq
   have hsucc := momC_succ x3 i
   cases hbb : bitB 16 x3 i with
   | true =>
    rw [hbb] at eq hsucc
    simp only [cond_true] at hsucc
    have := rn_mo_c x0 x1 x2 x3 x4 i now dr ev ks (momC x3 i).length (momC x3 i) (eq.trans rfl)
    rw [hsucc, List.length_append]
    exact this
   | false =>
    rw [hbb] at eq hsucc
    simp only [cond_false, List.append_nil] at hsucc
    have := rn_mo_c x0 x1 x2 x3 x4 i now dr ev ks (momC x3 i).length (momC x3 i) (eq.trans rfl)
    rw [hsucc]
    exact this
 · intro i _ _ _ h; cases h
 · intro _
   refine ⟨by simp [rs_mo, Ex.to], ?_⟩
   have eq := rn_mo_eq x0 x1 x2 x3 x4 (4 : Nat) now dr ev ks (momC x3 4).length (momC x3 4)
   rw [decide_eq_false (by omega)] at eq
   exact rn_mo_c x0 x1 x2 x3 x4 (4 : Nat) now dr ev ks (momC x3 4).length (momC x3 4) (eq.trans rfl)
def madeC (x2 : Int) (fs : List Int) : List (Ty.den conf) := fs.map fun f => mkC f (IntKind.i64.wrap (1 + pickD (IntKind.i64.wrap (x2.tdiv 16)) 3))
theorem madeC_len (x2 : Int) (fs : List Int) : (madeC x2 fs).length = fs.length := by simp [madeC]
abbrev pre_ma (x0 x1 x2 x3 x4 x5 x6 : Int) (fs : List Int) (i u t c : Int) (ev : List Int) (j : Nat) (l : List (Ty.den conf)) : Prop := i = 0 ∧ j = 0 ∧ l = [] ∧ fs.length ≤ 100
def rs_ma (x0 x1 x2 x3 x4 x5 x6 : Int) (fs : List Int) (i u t c : Int) (ev : List Int) (j : Nat) (l : List (Ty.den conf)) : Ex × St := (.exit 0, St.of 104 (lve_ma (.exit 0)) [.ptr 0 0, .ptr 1 0, .ptr 2 0] [some [.si .i64 x0, .si .i64 x1, .si .i64 x2, .si .i64 x3, .si .i64 x4, .si .i64 x5, .si .i64 x6], some [.i .i64 0, .lst .full [], .lst .full [], .i .i64 0, .i .i64 0, .lst .full []], some [.si .i64 u, .slst .ro ity ev, .bs true 0 0 (madeC x2 fs).length, .si .i64 t, .si .i64 c, .lst .full []]] [some (.live (.arr conf (madeC x2 fs)))] hp_ma.kh hp_ma.kt)
def res_ma (x0 x1 x2 x3 x4 x5 x6 : Int) (fs : List Int) (i u t c : Int) (ev : List Int) (j : Nat) (l : List (Ty.den conf)) : Tr (Ex × St) := .br (decide (pre_ma x0 x1 x2 x3 x4 x5 x6 fs i u t c ev j l)) (.leaf (some (.exit 0, St.of 104 (lve_ma (.exit 0)) [.ptr 0 0, .ptr 1 0, .ptr 2 0] [some [.si .i64 x0, .si .i64 x1, .si .i64 x2, .si .i64 x3, .si .i64 x4, .si .i64 x5, .si .i64 x6], some [.i .i64 0, .lst .full [], .lst .full [], .i .i64 0, .i .i64 0, .lst .full []], some [.si .i64 u, .slst .ro ity ev, .bs true 0 0 (madeC x2 fs).length, .si .i64 t, .si .i64 c, .lst .full []]] [some (.live (.arr conf (madeC x2 fs)))] hp_ma.kh hp_ma.kt))) (.leaf none)
def ent_ma : LEnt := LEnt.by hp_ma fun ⟨(_, _, _, fs, i, _), ((x0, x1, x2, x3, x4, x5, x6, _), (_, _, _, _, _, _, _), (u, ev, j, t, c, _, _), _), (l, _)⟩ => res_ma x0 x1 x2 x3 x4 x5 x6 fs i u t c ev j l
theorem ent_ma_ok (hgo : ∀ (x0 x1 x2 x3 x4 x5 x6 : Int) (fs : List Int) (i u t c : Int) (ev : List Int) (j : Nat) (l : List (Ty.den conf)), pre_ma x0 x1 x2 x3 x4 x5 x6 fs i u t c ev j l → SemL Tryd.prog Γ (lp 12 0) (st_ma x0 x1 x2 x3 x4 x5 x6 fs i u t c ev j l) (rs_ma x0 x1 x2 x3 x4 x5 x6 fs i u t c ev j l).1.to (rs_ma x0 x1 x2 x3 x4 x5 x6 fs i u t c ev j l).2) : EntOk Tryd.prog Γ (lp 12 0) ent_ma := LEnt.by_ok fun ⟨(_, _, _, fs, i, _), ((x0, x1, x2, x3, x4, x5, x6, _), (_, _, _, _, _, _, _), (u, ev, j, t, c, _, _), _), (l, _)⟩ _ _ h_ => SemL.br (out := rs_ma x0 x1 x2 x3 x4 x5 x6 fs i u t c ev j l) rfl (hgo x0 x1 x2 x3 x4 x5 x6 fs i u t c ev j l) h_
theorem ma_go (x0 x1 x2 x3 x4 x5 x6 : Int) (fs : List Int) (i u t c : Int) (ev : List Int) (j : Nat) (l : List (Ty.den conf)) (h : pre_ma x0 x1 x2 x3 x4 x5 x6 fs i u t c ev j l) : SemL Tryd.prog Γ (lp 12 0) (st_ma x0 x1 x2 x3 x4 x5 x6 fs i u t c ev j l) (rs_ma x0 x1 x2 x3 x4 x5 x6 fs i u t c ev j l).1.to (rs_ma x0 x1 x2 x3 x4 x5 x6 fs i u t c ev j l).2 := by
 obtain ⟨rfl, rfl, rfl, hf⟩ := h
 have key := SemL.scan (P := Tryd.prog) (Γ := Γ) (b := lp 12 0) fs.length 0 (Nat.zero_le _) (fun i => st_ma x0 x1 x2 x3 x4 x5 x6 fs (i : Nat) u t c ev (madeC x2 (fs.take i)).length (madeC x2 (fs.take i))) (fun _ => true) (rs_ma x0 x1 x2 x3 x4 x5 x6 fs 0 u t c ev 0 []) ?_ ?_ ?_
 · exact key
 · intro i _ hi _ _
   have hw : IntKind.i64.wrap ((i : Int) + 1) = ((i + 1 : Nat) : Int) := by rw [wrap_in (by omega) (by omega)]; rfl
   have hl := madeC_len x2 (fs.take i)
   rw [List.length_take] at hl
   have eq := rn_ma_eq x0 x1 x2 x3 x4 x5 x6 fs i u t c ev (madeC x2 (fs.take i)).length (madeC x2 (fs.take i))
   rw [hw, inr_wrap, decide_eq_true (by omega : (i : Int) < (fs.length : Int)), decide_eq_true (by omega : (0 : Int) ≤ (i : Int) ∧ (i : Int) < (fs.length : Int)), Int.toNat_natCast, decide_eq_true (by omega : ((madeC x2 (fs.take i)).length + 1) * 2 * 16 ≤ 281474976710656), List.drop_zero, List.take_length] at eq
   have hs : madeC x2 (fs.take (i + 1)) = madeC x2 (fs.take i) ++ [mkC (fs.getD i 0) (IntKind.i64.wrap (1 + pickD (IntKind.i64.wrap (x2.tdiv 16)) 3))] := by
    unfold madeC
    rw [List.take_add_one, List.map_append, List.getElem?_eq_getElem hi, getD_eq hi]
    rfl
   have := rn_ma_c x0 x1 x2 x3 x4 x5 x6 fs i u t c ev (madeC x2 (fs.take i)).length (madeC x2 (fs.take i)) (eq.trans rfl)
   rw [hs, List.length_append]
   exact this
 · intro i _ _ _ h; cases h
 · intro _
   refine ⟨by simp [rs_ma, Ex.to], ?_⟩
   have eq := rn_ma_eq x0 x1 x2 x3 x4 x5 x6 fs fs.length u t c ev (madeC x2 (fs.take fs.length)).length (madeC x2 (fs.take fs.length))
   rw [decide_eq_false (by omega)] at eq
   have := rn_ma_c x0 x1 x2 x3 x4 x5 x6 fs fs.length u t c ev (madeC x2 (fs.take fs.length)).length (madeC x2 (fs.take fs.length)) (eq.trans rfl)
   rw [List.take_length] at this ⊢
   exact this
def lo20 : LOrc := (LOrc.add (LOrc.add lo16 22 0 ent_mo) 12 0 ent_ma)
theorem lo20_ok : LOrcOk Tryd.prog Γ lo20 := (LOrcOk.add (LOrcOk.add lo16_ok 22 0 Tryd.func22 bd_mo le_mo (ent_mo_ok mo_go)) 12 0 Tryd.func12 bd_ma le_ma (ent_ma_ok ma_go))
noncomputable def cfg21 : Cfg := cfgP orc20 lo20
theorem cfg21_ok : CfgOk Tryd.prog Γ cfg21 := cfgP_ok orc20_ok lo20_ok
theorem c22_run (x0 x1 x2 x3 x4 : Int) : runL cfg21 22 [.agg [.si .i64 x0, .si .i64 x1, .si .i64 x2, .si .i64 x3, .si .i64 x4]] = .ok (some (inr x0 && decide ((40 : Int) ≠ (0 : Int)) && (inr x1 && decide ((3 : Int) ≠ (0 : Int)) && (decide (inr x2 = true ∧ (0 : Int) ≤ (5 : Int) ∧ (5 : Int) ≤ (60 : Int)) && (decide (inr x4 = true ∧ (0 : Int) ≤ (6 : Int) ∧ (6 : Int) ≤ (60 : Int)) && decide (pre_mo x0 x1 x2 x3 x4 (0 : Int) (IntKind.i64.wrap (pickD x0 (40 : Int) * (10 : Int))) (IntKind.i64.wrap (pickD x1 (3 : Int) * (7 : Int))) (bitsD (1073741824 : Int) x2 (5 : Nat)) (bitsD (1073741824 : Int) x4 (6 : Nat)) (0) [])))))) (V.agg [V.si .i64 (IntKind.i64.wrap (pickD x0 (40 : Int) * (10 : Int))), V.si .i64 (IntKind.i64.wrap (pickD x1 (3 : Int) * (7 : Int))), V.slst .ro ity (bitsD (1073741824 : Int) x2 (5)), V.slst .ro conf (List.take (momC x3 (4)).length (List.drop (0) (momC x3 (4)))), V.slst .ro ity (bitsD (1073741824 : Int) x4 (6))]) := by kernel_rfl
end L
end Go.Proofs.YthjiodeaepigmaaDoor

/- Package label: Moment as a contract; Made. -/
set_option linter.unusedVariables false
set_option linter.unusedSimpArgs false
set_option maxRecDepth 100000
set_option maxHeartbeats 4000000
namespace Go.Proofs.YthjiodeaepigmaaDoor
open Go
namespace L
def momD (x0 x1 x2 x3 x4 : Int) : Ty.den momT := (IntKind.i64.wrap (pickD x0 40 * 10), IntKind.i64.wrap (pickD x1 3 * 7), bitsD 1073741824 x2 5, momC x3 4, bitsD 1073741824 x4 6, ())
def hp_cp : HP := { n := 41, lv := [0, 1, 5], sp := [.ty (.slice ity), .ty (.slice ity), .ty ity], op := [], bp := [] }
def lve_cp : Ex → List Nat
 | .normal => [0, 1, 5]
 | .ret => [4]
 | .exit 0 => [0, 1]
 | _ => []
theorem bd_cp : Tryd.f61.body = some (root 61) := by kernel_rfl
theorem le_cp : (loops (root 61))[0]? = some (lp 61 0) := by kernel_rfl
theorem li_cp : Lies (root 61) 1 (lp 61 0) := Lies.of_take (n := 0) (by kernel_rfl)
def st_cp (a b : List Int) (i : Int) : St := hp_cp.st ⟨(a, b, i, ()), (), ()⟩
noncomputable def rn_cp (a b : List Int) (i : Int) := outa lve_cp (evCK Tryd.prog Γ (cfM Tryd.prog Γ cfg21 30) (cfg21.lo 61) [15] 60 1 (lp 61 0) (st_cp a b i))
theorem rn_cp_eq (a b : List Int) (i : Int) : (rn_cp a b i).run = (bif bif decide (i < (a.length : Int)) then decide (i < (b.length : Int)) else false then (bif decide ((0 : Int) ≤ i ∧ i < (a.length : Int)) then (bif decide ((0 : Int) ≤ i ∧ i < (b.length : Int)) then (bif a.getD i.toNat (0 : Int) != b.getD i.toNat (0 : Int) then (bif decide ((0 : Int) ≤ i ∧ i < (a.length : Int)) then (bif decide ((0 : Int) ≤ i ∧ i < (b.length : Int)) then (some (Ex.ret, [V.si .i64 (IntKind.i64.wrap (a.getD i.toNat (0 : Int) - b.getD i.toNat (0 : Int)))], [], [], 41, 0, 0)) else none) else none) else (some (Ex.normal, [V.slst .ro ity a, V.slst .ro ity b, V.si .i64 (IntKind.i64.wrap (i + (1 : Int)))], [], [], 41, 0, 0))) else none) else none) else (some (Ex.exit 0, [V.slst .ro ity a, V.slst .ro ity b], [], [], 41, 0, 0))) := by kernel_rfl
theorem rn_cp_c (a b : List Int) (i : Int) {e : Ex} {vs : List V} {ob : Ob} {nm : Nm} {n' kh kt : Nat} (h : (rn_cp a b i).run = some (e, vs, ob, nm, n', kh, kt)) : SemC Tryd.prog Γ (lp 61 0) (st_cp a b i) e.to (St.of n' (lve_cp e) vs ob nm kh kt) := SemC.of_evM cfg21_ok Tryd.func61 bd_cp li_cp h
def rcmp : List Int → List Int → Int
 | x :: a, y :: b => if x ≠ y then IntKind.i64.wrap (x - y) else rcmp a b
 | a, b => IntKind.i64.wrap ((Nat.cast a.length : Int) - (Nat.cast b.length : Int))
def rcmpP (a b : List Int) (i : Nat) : Bool := decide (a.getD i 0 = b.getD i 0)
theorem rcmp_drop {a b : List Int} : ∀ {i : Nat}, i ≤ a.length → i ≤ b.length → (∀ j, j < i → rcmpP a b j = true) → rcmp a b = rcmp (a.drop i) (b.drop i)
 | 0, _, _, _ => rfl
 | i + 1, hi, hj, h => by
  rw [rcmp_drop (i := i) (by omega) (by omega) (fun j hj => h j (by omega))]
  have hp := of_decide_eq_true (h i (by omega))
  rw [drop_cons (show i < a.length by omega), drop_cons (show i < b.length by omega)]
  simp only [rcmp, hp, ne_eq, not_true_eq_false, if_false]
def reqD (a b : List Int) : Bool := allI (min a.length b.length) (rcmpP a b)
theorem rcmp_end {a b : List Int} (h : a = [] ∨ b = []) : rcmp a b = IntKind.i64.wrap ((Nat.cast a.length : Int) - (Nat.cast b.length : Int)) := by
 rcases h with rfl | rfl
 · rfl
 · cases a <;> rfl
theorem rcmp_eq {a b : List Int} (h : reqD a b = true) : rcmp a b = IntKind.i64.wrap ((Nat.cast a.length : Int) - (Nat.cast b.length : Int)) := by
 have h1 := allI_true.1 h
 rw [rcmp_drop (i := min a.length b.length) (by omega) (by omega) h1, rcmp_end]
 · rw [List.length_drop, List.length_drop]
   congr 1
   omega
 · by_cases hl : a.length ≤ b.length
   · left; exact List.drop_eq_nil_of_le (by omega)
   · right; exact List.drop_eq_nil_of_le (by omega)
abbrev pre_cp (a b : List Int) (i : Int) : Prop := i = 0 ∧ a.length ≤ 1000000 ∧ b.length ≤ 1000000
def rs_cp (a b : List Int) (i : Int) : Ex × St := if reqD a b = true then (.exit 0, St.of 41 (lve_cp (.exit 0)) [.slst .ro ity a, .slst .ro ity b] [] [] hp_cp.kh hp_cp.kt) else (.ret, St.of 41 (lve_cp (.ret)) [.si .i64 (rcmp a b)] [] [] hp_cp.kh hp_cp.kt)
def res_cp (a b : List Int) (i : Int) : Tr (Ex × St) := .br (decide (pre_cp a b i)) (.br (decide (reqD a b = true)) (.leaf (some (.exit 0, St.of 41 (lve_cp (.exit 0)) [.slst .ro ity a, .slst .ro ity b] [] [] hp_cp.kh hp_cp.kt))) (.leaf (some (.ret, St.of 41 (lve_cp (.ret)) [.si .i64 (rcmp a b)] [] [] hp_cp.kh hp_cp.kt)))) (.leaf none)
def ent_cp : LEnt := LEnt.by hp_cp fun ⟨(a, b, i, _), _, _⟩ => res_cp a b i
theorem ent_cp_ok (hgo : ∀ (a b : List Int) (i : Int), pre_cp a b i → SemL Tryd.prog Γ (lp 61 0) (st_cp a b i) (rs_cp a b i).1.to (rs_cp a b i).2) : EntOk Tryd.prog Γ (lp 61 0) ent_cp := LEnt.by_ok fun ⟨(a, b, i, _), _, _⟩ _ _ h_ => SemL.br (out := rs_cp a b i) (Tr.run_ite rfl rfl) (hgo a b i) h_
theorem cp_go (a b : List Int) (i : Int) (h : pre_cp a b i) : SemL Tryd.prog Γ (lp 61 0) (st_cp a b i) (rs_cp a b i).1.to (rs_cp a b i).2 := by
 obtain ⟨rfl, ha, hb⟩ := h
 refine SemL.scan (min a.length b.length) 0 (Nat.zero_le _) (fun i => st_cp a b (i : Nat)) (rcmpP a b) _ ?_ ?_ ?_
 · intro i _ hi hbb hp
   have hp' := of_decide_eq_true hp
   refine rn_cp_c a b i (e := .normal) ?_
   have hw : IntKind.i64.wrap ((i : Int) + 1) = ((i + 1 : Nat) : Int) := by rw [wrap_in (by omega) (by omega)]; rfl
   have hne : (a.getD i 0 != b.getD i 0) = false := by rw [hp']; simp
   rw [rn_cp_eq, hw, decide_eq_true (by omega : (i : Int) < (a.length : Int)), decide_eq_true (by omega : (i : Int) < (b.length : Int)), decide_eq_true (by omega : (0 : Int) ≤ (i : Int) ∧ (i : Int) < (a.length : Int)), decide_eq_true (by omega : (0 : Int) ≤ (i : Int) ∧ (i : Int) < (b.length : Int)), Int.toNat_natCast, hne]
   rfl
 · intro i _ hi hbb hp
   have hr : ¬ reqD a b = true := by unfold reqD; rw [allI_false hi hp]; simp
   have hp' : a.getD i 0 ≠ b.getD i 0 := of_decide_eq_false hp
   unfold rs_cp
   rw [if_neg hr]
   have e : rcmp a b = IntKind.i64.wrap (a.getD i 0 - b.getD i 0) := by
    rw [rcmp_drop (i := i) (by omega) (by omega) (fun j hj => hbb j (Nat.zero_le _) hj), drop_cons (show i < a.length by omega), drop_cons (show i < b.length by omega)]
    simp only [rcmp, ne_eq, hp', not_false_eq_true, if_true]
   rw [e]
   refine ⟨by simp [Ex.to], rn_cp_c a b i (e := .ret) ?_⟩
   have hne : (a.getD i 0 != b.getD i 0) = true := by simpa using hp'
   rw [rn_cp_eq, decide_eq_true (by omega : (i : Int) < (a.length : Int)), decide_eq_true (by omega : (i : Int) < (b.length : Int)), decide_eq_true (by omega : (0 : Int) ≤ (i : Int) ∧ (i : Int) < (a.length : Int)), decide_eq_true (by omega : (0 : Int) ≤ (i : Int) ∧ (i : Int) < (b.length : Int)), Int.toNat_natCast, hne]
   rfl
 · intro hbb
   have hr : reqD a b = true := allI_true.2 fun i hi => hbb i (Nat.zero_le _) hi
   unfold rs_cp
   rw [if_pos hr]
   refine ⟨by simp [Ex.to], rn_cp_c a b (min a.length b.length : Nat) (e := .exit 0) ?_⟩
   have hc : (bif decide (((min a.length b.length : Nat) : Int) < (a.length : Int)) then decide (((min a.length b.length : Nat) : Int) < (b.length : Int)) else false) = false := by
    by_cases hl : a.length ≤ b.length
    · rw [decide_eq_false (by omega)]; rfl
    · rw [decide_eq_true (by omega), decide_eq_false (by omega)]; rfl
   rw [rn_cp_eq, hc]
   rfl
def lo21 : LOrc := (LOrc.add lo20 61 0 ent_cp)
theorem lo21_ok : LOrcOk Tryd.prog Γ lo21 := (LOrcOk.add lo20_ok 61 0 Tryd.func61 bd_cp le_cp (ent_cp_ok cp_go))
noncomputable def cfg22 : Cfg := cfgP orc20 lo21
theorem cfg22_ok : CfgOk Tryd.prog Γ cfg22 := cfgP_ok orc20_ok lo21_ok
theorem c61_run (a b : List Int) : runL cfg22 61 [.slst .ro ity a, .slst .ro ity b] = .ok (some (decide (pre_cp a b (0 : Int)))) (V.si .i64 (bif decide (reqD a b = true) then IntKind.i64.wrap ((a.length : Int) - (b.length : Int)) else rcmp a b)) := by kernel_rfl
theorem c61_ok (a b : List Int) (h : a.length ≤ 1000000 ∧ b.length ≤ 1000000) : SemF Tryd.prog Γ 61 [.slst .ro ity a, .slst .ro ity b] [] [] (.si .i64 (rcmp a b)) [] [] :=
 of_runL cfg22_ok (c61_run a b) (decide_eq_true ⟨rfl, h.1, h.2⟩) (by
  by_cases hp : reqD a b = true
  · rw [decide_eq_true hp, rcmp_eq hp]; rfl
  · rw [decide_eq_false hp]; rfl)
def e61 (a b : List Int) : Option Bool × V := (some (decide (a.length ≤ 1000000 ∧ b.length ≤ 1000000)), .si .i64 (rcmp a b))
theorem e61_of (a b : List Int) (h : (e61 a b).1.getD true = true) : SemF Tryd.prog Γ 61 [.slst .ro ity a, .slst .ro ity b] [] [] (e61 a b).2 [] [] := c61_ok a b (of_decide_eq_true h)
noncomputable def orc21 : Orc := fun f args => if f = 61 then (Ty.ofVs [.slice ity, .slice ity] args).map (fun x => e61 x.1 x.2.1) else orc20 f args
theorem orc21_ok : OrcOk Tryd.prog Γ orc21 := orc20_ok.plain 61 [.slice ity, .slice ity] (fun x => e61 x.1 x.2.1) Tryd.f61 Tryd.func61 rfl (by kernel_rfl) (fun x h => e61_of x.1 x.2.1 h)
noncomputable def cfg23 : Cfg := cfgP orc21 lo21
theorem cfg23_ok : CfgOk Tryd.prog Γ cfg23 := cfgP_ok orc21_ok lo21_ok
theorem c39_run (n m : Int) (a b : List Int) : runL cfg23 39 [.agg [.si .i64 n, .slst .ro ity a], .agg [.si .i64 m, .slst .ro ity b]] = .ok (some ((some (decide (n < m) || (!n == m || decide (a.length ≤ 1000000 ∧ b.length ≤ 1000000)))).getD true)) (V.sb (bif decide (n < m) then true else bif n == m then decide (rcmp a b < (0 : Int)) else false)) := by kernel_rfl
end L
end Go.Proofs.YthjiodeaepigmaaDoor

/- Package label: before, Moment as contracts; Made, printed. -/
set_option linter.unusedVariables false
set_option linter.unusedSimpArgs false
set_option maxRecDepth 100000
set_option maxHeartbeats 4000000
namespace Go.Proofs.YthjiodeaepigmaaDoor
open Go
namespace L
def beforeE (n m : Int) (a b : List Int) : Bool := bif decide (n < m) then true else bif n == m then decide (rcmp a b < (0 : Int)) else false
def beforeD (x y : Ty.den lockT) : Bool := beforeE (kN x) (kN y) (kK x) (kK y)
theorem c39_ok (n m : Int) (a b : List Int) (h : a.length ≤ 1000000 ∧ b.length ≤ 1000000) : SemF Tryd.prog Γ 39 [lockT.val (n, a, ()), lockT.val (m, b, ())] [] [] (.sb (beforeE n m a b)) [] [] :=
 of_runL cfg23_ok (c39_run n m a b) (by rw [decide_eq_true h]; simp) rfl
def e39 (x y : Ty.den lockT) : Option Bool × V := (some (decide ((kK x).length ≤ 1000000 ∧ (kK y).length ≤ 1000000)), .sb (beforeD x y))
theorem e39_of (x y : Ty.den lockT) (h : (e39 x y).1.getD true = true) : SemF Tryd.prog Γ 39 [lockT.val x, lockT.val y] [] [] (e39 x y).2 [] [] := c39_ok (kN x) (kN y) (kK x) (kK y) (of_decide_eq_true h)
theorem take_conf (l : List (Ty.den conf)) : List.take l.length (List.drop 0 l) = l := by rw [List.drop_zero, List.take_length]
theorem c22_ok (x0 x1 x2 x3 x4 : Int) (h0 : inr x0 = true) (h1 : inr x1 = true) (h2 : inr x2 = true) (h3 : inr x3 = true) (h4 : inr x4 = true) : SemF Tryd.prog Γ 22 [.agg [.si .i64 x0, .si .i64 x1, .si .i64 x2, .si .i64 x3, .si .i64 x4]] [] [] (momT.val (momD x0 x1 x2 x3 x4)) [] [] :=
 of_runL cfg21_ok (c22_run x0 x1 x2 x3 x4) (by
  have hp : pre_mo x0 x1 x2 x3 x4 0 (IntKind.i64.wrap (pickD x0 40 * 10)) (IntKind.i64.wrap (pickD x1 3 * 7)) (bitsD 1073741824 x2 5) (bitsD 1073741824 x4 6) 0 [] := ⟨h3, rfl, rfl, rfl⟩
  rw [decide_eq_true hp, h0, h1, decide_eq_true (And.intro h2 (And.intro (by decide) (by decide))), decide_eq_true (And.intro h4 (And.intro (by decide) (by decide)))]
  rfl) (by
  show V.agg [_, _, _, V.slst Tag.ro conf _, _] = V.agg [_, _, _, V.slst Tag.ro conf _, _]
  exact congrArg (fun z => V.agg [_, _, _, V.slst Tag.ro conf z, _]) (take_conf (momC x3 4)))
abbrev i5 : Ty := .agg [ity, ity, ity, ity, ity]
abbrev i7 : Ty := .agg [ity, ity, ity, ity, ity, ity, ity]
def e22' (x0 x1 x2 x3 x4 : Int) : Option Bool × V := (some (inr x0 && inr x1 && inr x2 && inr x3 && inr x4), momT.val (momD x0 x1 x2 x3 x4))
theorem e22'_of (x0 x1 x2 x3 x4 : Int) (h : (e22' x0 x1 x2 x3 x4).1.getD true = true) : SemF Tryd.prog Γ 22 [i5.val (x0, x1, x2, x3, x4, ())] [] [] (e22' x0 x1 x2 x3 x4).2 [] [] := by
 have h : (inr x0 && inr x1 && inr x2 && inr x3 && inr x4) = true := h
 simp only [Bool.and_eq_true] at h
 exact c22_ok x0 x1 x2 x3 x4 h.1.1.1.1 h.1.1.1.2 h.1.1.2 h.1.2 h.2
def e22 (x : Ty.den i5) : Option Bool × V := e22' x.1 x.2.1 x.2.2.1 x.2.2.2.1 x.2.2.2.2.1
noncomputable def orc22 : Orc := fun f args => if f = 22 then (Ty.ofVs [i5] args).map (fun x => e22 x.1) else (fun f args => if f = 39 then (Ty.ofVs [lockT, lockT] args).map (fun x => e39 x.1 x.2.1) else orc21 f args) f args
theorem orc22_ok : OrcOk Tryd.prog Γ orc22 := (orc21_ok.plain 39 [lockT, lockT] (fun x => e39 x.1 x.2.1) Tryd.f39 Tryd.func39 rfl (by kernel_rfl) (fun x h => e39_of x.1 x.2.1 h)).plain 22 [i5] (fun x => e22 x.1) Tryd.f22 Tryd.func22 rfl (by kernel_rfl) (fun x h => e22'_of _ _ _ _ _ h)
noncomputable def cfg24 : Cfg := cfgP orc22 lo21
theorem cfg24_ok : CfgOk Tryd.prog Γ cfg24 := cfgP_ok orc22_ok lo21_ok
theorem of_val {C : Cfg} (hC : CfgOk Tryd.prog Γ C) {f : FuncId} {args : List V} {v : V} (h : ((evFK Tryd.prog Γ (cfM Tryd.prog Γ C 30) C.lo (C.lv f) 80 f args [] []).bind fun p => .leaf (valO (some p))).run = some v) : SemF Tryd.prog Γ f args [] [] v [] [] := by
 rw [Tr.run_bind] at h
 cases hr : (evFK Tryd.prog Γ (cfM Tryd.prog Γ C 30) C.lo (C.lv f) 80 f args [] []).run with
 | none => rw [hr] at h; cases h
 | some p =>
  rw [hr] at h
  exact (evFK_sound (cfM_fit hC 30).1 (cfM_fit hC 30).2 hC.mixed hC.lo (v := p.1) (x := p.2) hr).drop h
def lockD (x : Int) : Ty.den lockT := mkQ (IntKind.i64.wrap (1 + pickD (IntKind.i64.wrap (x.tdiv 64)) (Nat.cast (bitsD 1073741824 x 6).length : Int))) (bitsD 1073741824 x 6)
noncomputable def ev12 (x0 x1 x2 x3 x4 x5 x6 : Int) : Tr V := (evFK Tryd.prog Γ (cfM Tryd.prog Γ cfg24 30) cfg24.lo (cfg24.lv 12) 80 12 [.agg [.si .i64 x0, .si .i64 x1, .si .i64 x2, .si .i64 x3, .si .i64 x4, .si .i64 x5, .si .i64 x6]] [] []).bind fun p => .leaf (valO (some p))
theorem t12_eq (x0 x1 x2 x3 x4 x5 x6 : Int) : (ev12 x0 x1 x2 x3 x4 x5 x6).run = (bif inr x0 && true then (bif decide (inr x1 = true ∧ (0 : Int) ≤ (5 : Int) ∧ (5 : Int) ≤ (60 : Int)) then (bif inr x3 && true then (bif inr x4 && true then (bif decide (inr x2 = true ∧ (0 : Int) ≤ (4 : Int) ∧ (4 : Int) ≤ (60 : Int)) then (bif decide (pre_ma x0 x1 x2 x3 x4 x5 x6 (bitsD (1073741824 : Int) x2 (4)) (0 : Int) (IntKind.i64.wrap (pickD x0 (30 : Int) * (10 : Int))) (IntKind.i64.wrap ((255 : Int) - pickD x3 (4 : Int))) (IntKind.i64.wrap ((255 : Int) - pickD x4 (8 : Int))) (bitsD (1073741824 : Int) x1 (5)) (0) []) then (bif decide (inr x5 = true ∧ (0 : Int) ≤ (6 : Int) ∧ (6 : Int) ≤ (60 : Int)) then (bif (Nat.cast ((bitsD (1073741824 : Int) x5 (6)).length) : Int) == (0 : Int) then (bif decide (inr x6 = true ∧ (0 : Int) ≤ (6 : Int) ∧ (6 : Int) ≤ (60 : Int)) then (bif (Nat.cast ((bitsD (1073741824 : Int) x6 (6)).length) : Int) == (0 : Int) then (some (V.agg [V.si .i64 (IntKind.i64.wrap (pickD x0 (30 : Int) * (10 : Int))), V.slst .ro ity (bitsD (1073741824 : Int) x1 (5)), V.slst .ro conf (List.take (madeC x2 (bitsD (1073741824 : Int) x2 (4))).length (List.drop (0) (madeC x2 (bitsD (1073741824 : Int) x2 (4))))), V.si .i64 (IntKind.i64.wrap ((255 : Int) - pickD x3 (4 : Int))), V.si .i64 (IntKind.i64.wrap ((255 : Int) - pickD x4 (8 : Int))), V.lst .full []])) else (bif inr (IntKind.i64.wrap (x6.tdiv (64 : Int))) && decide ((Nat.cast ((bitsD (1073741824 : Int) x6 (6)).length) : Int) ≠ (0 : Int)) then (some (V.agg [V.si .i64 (IntKind.i64.wrap (pickD x0 (30 : Int) * (10 : Int))), V.slst .ro ity (bitsD (1073741824 : Int) x1 (5)), V.slst .ro conf (List.take (madeC x2 (bitsD (1073741824 : Int) x2 (4))).length (List.drop (0) (madeC x2 (bitsD (1073741824 : Int) x2 (4))))), V.si .i64 (IntKind.i64.wrap ((255 : Int) - pickD x3 (4 : Int))), V.si .i64 (IntKind.i64.wrap ((255 : Int) - pickD x4 (8 : Int))), V.lst .ro [(lockT.val (lockD x6))]])) else none)) else none) else (bif inr (IntKind.i64.wrap (x5.tdiv (64 : Int))) && decide ((Nat.cast ((bitsD (1073741824 : Int) x5 (6)).length) : Int) ≠ (0 : Int)) then (bif decide (inr x6 = true ∧ (0 : Int) ≤ (6 : Int) ∧ (6 : Int) ≤ (60 : Int)) then (bif (Nat.cast ((bitsD (1073741824 : Int) x6 (6)).length) : Int) == (0 : Int) then (some (V.agg [V.si .i64 (IntKind.i64.wrap (pickD x0 (30 : Int) * (10 : Int))), V.slst .ro ity (bitsD (1073741824 : Int) x1 (5)), V.slst .ro conf (List.take (madeC x2 (bitsD (1073741824 : Int) x2 (4))).length (List.drop (0) (madeC x2 (bitsD (1073741824 : Int) x2 (4))))), V.si .i64 (IntKind.i64.wrap ((255 : Int) - pickD x3 (4 : Int))), V.si .i64 (IntKind.i64.wrap ((255 : Int) - pickD x4 (8 : Int))), V.lst .ro [(lockT.val (lockD x5))]])) else (bif inr (IntKind.i64.wrap (x6.tdiv (64 : Int))) && decide ((Nat.cast ((bitsD (1073741824 : Int) x6 (6)).length) : Int) ≠ (0 : Int)) then (bif (some (decide ((kK (lockD x5)).length ≤ 1000000 ∧ (kK (lockD x6)).length ≤ 1000000))).getD true then (bif beforeD (lockD x5) (lockD x6) then (some (V.agg [V.si .i64 (IntKind.i64.wrap (pickD x0 (30 : Int) * (10 : Int))), V.slst .ro ity (bitsD (1073741824 : Int) x1 (5)), V.slst .ro conf (List.take (madeC x2 (bitsD (1073741824 : Int) x2 (4))).length (List.drop (0) (madeC x2 (bitsD (1073741824 : Int) x2 (4))))), V.si .i64 (IntKind.i64.wrap ((255 : Int) - pickD x3 (4 : Int))), V.si .i64 (IntKind.i64.wrap ((255 : Int) - pickD x4 (8 : Int))), V.lst .ro [(lockT.val (lockD x5)), (lockT.val (lockD x6))]])) else (bif decide ((kK (lockD x6)).length ≤ 1000000 ∧ (kK (lockD x5)).length ≤ 1000000) then (bif beforeD (lockD x6) (lockD x5) then (some (V.agg [V.si .i64 (IntKind.i64.wrap (pickD x0 (30 : Int) * (10 : Int))), V.slst .ro ity (bitsD (1073741824 : Int) x1 (5)), V.slst .ro conf (List.take (madeC x2 (bitsD (1073741824 : Int) x2 (4))).length (List.drop (0) (madeC x2 (bitsD (1073741824 : Int) x2 (4))))), V.si .i64 (IntKind.i64.wrap ((255 : Int) - pickD x3 (4 : Int))), V.si .i64 (IntKind.i64.wrap ((255 : Int) - pickD x4 (8 : Int))), V.lst .full [(lockT.val (lockD x6)), (lockT.val (lockD x5))]])) else (some (V.agg [V.si .i64 (IntKind.i64.wrap (pickD x0 (30 : Int) * (10 : Int))), V.slst .ro ity (bitsD (1073741824 : Int) x1 (5)), V.slst .ro conf (List.take (madeC x2 (bitsD (1073741824 : Int) x2 (4))).length (List.drop (0) (madeC x2 (bitsD (1073741824 : Int) x2 (4))))), V.si .i64 (IntKind.i64.wrap ((255 : Int) - pickD x3 (4 : Int))), V.si .i64 (IntKind.i64.wrap ((255 : Int) - pickD x4 (8 : Int))), V.lst .ro [(lockT.val (lockD x5))]]))) else none)) else none) else none)) else none) else none)) else none) else none) else none) else none) else none) else none) else none) := by kernel_rfl
def madeL (x5 x6 : Int) : List (Ty.den lockT) :=
 bif decide ((bitsD 1073741824 x5 6).length = 0) then (bif decide ((bitsD 1073741824 x6 6).length = 0) then [] else [lockD x6]) else
  bif decide ((bitsD 1073741824 x6 6).length = 0) then [lockD x5] else bif beforeD (lockD x5) (lockD x6) then [lockD x5, lockD x6] else bif beforeD (lockD x6) (lockD x5) then [lockD x6, lockD x5] else [lockD x5]
def madeU (x0 : Int) : Int := IntKind.i64.wrap (pickD x0 30 * 10)
def madeT (x3 : Int) : Int := IntKind.i64.wrap (255 - pickD x3 4)
def madeK (x4 : Int) : Int := IntKind.i64.wrap (255 - pickD x4 8)
def madeD (x0 x1 x2 x3 x4 x5 x6 : Int) : Ty.den labT := (madeU x0, bitsD 1073741824 x1 5, madeC x2 (bitsD 1073741824 x2 4), madeT x3, madeK x4, madeL x5 x6, ())
theorem madeD_val {x0 x1 x2 x3 x4 x5 x6 : Int} {t : Tag} {ls : List V} {l : List (Ty.den lockT)} (hm : madeL x5 x6 = l) (hl : ls = l.map lockT.val) (G : Gh) (cv : Value)
 (h : VRel G (V.agg [V.si IntKind.i64 (madeU x0), V.slst Tag.ro ity (bitsD 1073741824 x1 5), V.slst Tag.ro conf (List.take (madeC x2 (bitsD 1073741824 x2 4)).length (List.drop 0 (madeC x2 (bitsD 1073741824 x2 4)))), V.si IntKind.i64 (madeT x3), V.si IntKind.i64 (madeK x4), V.lst t ls]) cv) :
 VRel G (labT.val (madeD x0 x1 x2 x3 x4 x5 x6)) cv := by
 rw [take_conf] at h
 subst hm
 subst hl
 cases h with
 | agg hlen hh =>
  refine .agg hlen fun j v c h1 h2 => ?_
  match j, h1 with
  | 0, h1 => exact hh 0 _ c (by rw [← h1]; rfl) h2
  | 1, h1 => exact hh 1 _ c (by rw [← h1]; rfl) h2
  | 2, h1 => exact hh 2 _ c (by rw [← h1]; rfl) h2
  | 3, h1 => exact hh 3 _ c (by rw [← h1]; rfl) h2
  | 4, h1 => exact hh 4 _ c (by rw [← h1]; rfl) h2
  | 5, h1 =>
   have := hh 5 _ c rfl h2
   cases h1
   exact .slst this.lst_ro
  | j + 6, h1 => cases h1
theorem c12_ok (x0 x1 x2 x3 x4 x5 x6 : Int) (h0 : inr x0 = true) (h1 : inr x1 = true) (h2 : inr x2 = true) (h3 : inr x3 = true) (h4 : inr x4 = true) (h5 : inr x5 = true) (h6 : inr x6 = true) :
 SemF Tryd.prog Γ 12 [.agg [.si .i64 x0, .si .i64 x1, .si .i64 x2, .si .i64 x3, .si .i64 x4, .si .i64 x5, .si .i64 x6]] [] [] (labT.val (madeD x0 x1 x2 x3 x4 x5 x6)) [] [] := by
 have eq := t12_eq x0 x1 x2 x3 x4 x5 x6
 have b2 := bitsD_len 1073741824 x2 4
 have b5 := bitsD_len 1073741824 x5 6
 have b6 := bitsD_len 1073741824 x6 6
 have hp : pre_ma x0 x1 x2 x3 x4 x5 x6 (bitsD 1073741824 x2 4) 0 (madeU x0) (madeT x3) (madeK x4) (bitsD 1073741824 x1 5) 0 [] := ⟨rfl, rfl, rfl, by omega⟩
 have k5 : (kK (lockD x5)).length ≤ 1000000 := by show (bitsD 1073741824 x5 6).length ≤ 1000000; omega
 have k6 : (kK (lockD x6)).length ≤ 1000000 := by show (bitsD 1073741824 x6 6).length ≤ 1000000; omega
 have z : ∀ {s n : Int}, inr s = true → 0 ≤ n → n ≤ 60 → (inr s = true ∧ 0 ≤ n ∧ n ≤ 60) := fun a b c => ⟨a, b, c⟩
 rw [h0, h3, h4, decide_eq_true (z h1 (by decide) (by decide)), decide_eq_true (z h2 (by decide) (by decide)), decide_eq_true (z h5 (by decide) (by decide)), decide_eq_true (z h6 (by decide) (by decide)), decide_eq_true (show pre_ma x0 x1 x2 x3 x4 x5 x6 (bitsD 1073741824 x2 4) 0 (IntKind.i64.wrap (pickD x0 30 * 10)) (IntKind.i64.wrap (255 - pickD x3 4)) (IntKind.i64.wrap (255 - pickD x4 8)) (bitsD 1073741824 x1 5) 0 [] from hp),
  inr_wrap, inr_wrap, decide_eq_true (And.intro k5 k6), decide_eq_true (And.intro k6 k5)] at eq
 simp only [Bool.and_self, Bool.true_and, cond_true, Option.getD_some] at eq
 by_cases e5 : (bitsD 1073741824 x5 6).length = 0
 · have c5 : ((Nat.cast (bitsD 1073741824 x5 6).length : Int) == 0) = true := by rw [e5]; rfl
   rw [c5] at eq
   by_cases e6 : (bitsD 1073741824 x6 6).length = 0
   · have c6 : ((Nat.cast (bitsD 1073741824 x6 6).length : Int) == 0) = true := by rw [e6]; rfl
     rw [c6] at eq
     exact (of_val cfg24_ok eq).weaken (madeD_val (l := []) (by unfold madeL; rw [decide_eq_true e5, decide_eq_true e6]; rfl) rfl)
   · have c6 : ((Nat.cast (bitsD 1073741824 x6 6).length : Int) == 0) = false := by rw [beq_eq_false_iff_ne]; omega
     rw [c6, decide_eq_true (by omega)] at eq
     exact (of_val cfg24_ok eq).weaken (madeD_val (l := [lockD x6]) (by unfold madeL; rw [decide_eq_true e5, decide_eq_false e6]; rfl) rfl)
 · have c5 : ((Nat.cast (bitsD 1073741824 x5 6).length : Int) == 0) = false := by rw [beq_eq_false_iff_ne]; omega
   rw [c5, decide_eq_true (by omega : (Nat.cast (bitsD 1073741824 x5 6).length : Int) ≠ 0)] at eq
   by_cases e6 : (bitsD 1073741824 x6 6).length = 0
   · have c6 : ((Nat.cast (bitsD 1073741824 x6 6).length : Int) == 0) = true := by rw [e6]; rfl
     rw [c6] at eq
     exact (of_val cfg24_ok eq).weaken (madeD_val (l := [lockD x5]) (by unfold madeL; rw [decide_eq_false e5, decide_eq_true e6]; rfl) rfl)
   · have c6 : ((Nat.cast (bitsD 1073741824 x6 6).length : Int) == 0) = false := by rw [beq_eq_false_iff_ne]; omega
     rw [c6, decide_eq_true (by omega : (Nat.cast (bitsD 1073741824 x6 6).length : Int) ≠ 0)] at eq
     cases hb : beforeD (lockD x5) (lockD x6) with
     | true =>
      rw [hb] at eq
      exact (of_val cfg24_ok eq).weaken (madeD_val (l := [lockD x5, lockD x6]) (by unfold madeL; rw [decide_eq_false e5, decide_eq_false e6, hb]; rfl) rfl)
     | false =>
      rw [hb] at eq
      cases hb2 : beforeD (lockD x6) (lockD x5) with
      | true =>
       rw [hb2] at eq
       exact (of_val cfg24_ok eq).weaken (madeD_val (l := [lockD x6, lockD x5]) (by unfold madeL; rw [decide_eq_false e5, decide_eq_false e6, hb, hb2]; rfl) rfl)
      | false =>
       rw [hb2] at eq
       exact (of_val cfg24_ok eq).weaken (madeD_val (l := [lockD x5]) (by unfold madeL; rw [decide_eq_false e5, decide_eq_false e6, hb, hb2]; rfl) rfl)
end L
end Go.Proofs.YthjiodeaepigmaaDoor

/- Package label: Made and Moment in the table; LabelClocks reckoned. -/
set_option linter.unusedVariables false
set_option linter.unusedSimpArgs false
set_option maxRecDepth 100000
set_option maxHeartbeats 4000000
namespace Go.Proofs.YthjiodeaepigmaaDoor
open Go
namespace L
def e12' (x0 x1 x2 x3 x4 x5 x6 : Int) : Option Bool × V := (some (inr x0 && inr x1 && inr x2 && inr x3 && inr x4 && inr x5 && inr x6), labT.val (madeD x0 x1 x2 x3 x4 x5 x6))
theorem e12'_of (x0 x1 x2 x3 x4 x5 x6 : Int) (h : (e12' x0 x1 x2 x3 x4 x5 x6).1.getD true = true) : SemF Tryd.prog Γ 12 [i7.val (x0, x1, x2, x3, x4, x5, x6, ())] [] [] (e12' x0 x1 x2 x3 x4 x5 x6).2 [] [] := by
 have h : (inr x0 && inr x1 && inr x2 && inr x3 && inr x4 && inr x5 && inr x6) = true := h
 simp only [Bool.and_eq_true] at h
 exact c12_ok x0 x1 x2 x3 x4 x5 x6 h.1.1.1.1.1.1 h.1.1.1.1.1.2 h.1.1.1.1.2 h.1.1.1.2 h.1.1.2 h.1.2 h.2
def e12 (x : Ty.den i7) : Option Bool × V := e12' x.1 x.2.1 x.2.2.1 x.2.2.2.1 x.2.2.2.2.1 x.2.2.2.2.2.1 x.2.2.2.2.2.2.1
noncomputable def orc23 : Orc := fun f args => if f = 12 then (Ty.ofVs [i7] args).map (fun x => e12 x.1) else orc22 f args
theorem orc23_ok : OrcOk Tryd.prog Γ orc23 := orc22_ok.plain 12 [i7] (fun x => e12 x.1) Tryd.f12 Tryd.func12 rfl (by kernel_rfl) (fun x h => e12'_of _ _ _ _ _ _ _ h)
noncomputable def cfg25 : Cfg := cfgP orc23 lo21
theorem cfg25_ok : CfgOk Tryd.prog Γ cfg25 := cfgP_ok orc23_ok lo21_ok
def aU (x : Ty.den labT) : Int := x.1
def aE (x : Ty.den labT) : List Int := x.2.1
def aC (x : Ty.den labT) : List (Ty.den conf) := x.2.2.1
def aT (x : Ty.den labT) : Int := x.2.2.2.1
def aK (x : Ty.den labT) : Int := x.2.2.2.2.1
def aL (x : Ty.den labT) : List (Ty.den lockT) := x.2.2.2.2.2.1
def bN (x : Ty.den momT) : Int := x.1
def bD (x : Ty.den momT) : Int := x.2.1
def bE (x : Ty.den momT) : List Int := x.2.2.1
def bC (x : Ty.den momT) : List (Ty.den conf) := x.2.2.2.1
def bK (x : Ty.den momT) : List Int := x.2.2.2.2.1
def szX (x : Ty.den labT) : Prop := szE (aE x) (aC x) (aL x)
def szY (x : Ty.den momT) : Prop := szM (bE x) (bC x) (bK x)
instance (x : Ty.den labT) : Decidable (szX x) := inferInstanceAs (Decidable (szE _ _ _))
instance (x : Ty.den momT) : Decidable (szY x) := inferInstanceAs (Decidable (szM _ _ _))
end L
end Go.Proofs.YthjiodeaepigmaaDoor

/- Package label: what is made is valid. -/
set_option linter.unusedVariables false
set_option linter.unusedSimpArgs false
set_option maxRecDepth 100000
set_option maxHeartbeats 4000000
namespace Go.Proofs.YthjiodeaepigmaaDoor
open Go
namespace L
theorem counts_iff {l : List (Ty.den conf)} {m : Int} (h1 : ∀ x ∈ l, 0 ≤ cF x ∧ cF x ≤ 15 ∧ m ≤ cC x ∧ cC x ≤ 12) (h2 : l.Pairwise fun a b => cF a < cF b) : countsD l m = true := by
 refine allI_true.2 fun i hi => decide_eq_true ?_
 have e1 : l.getD i conf.dflt = l[i] := getD_eq hi _
 rw [e1]
 obtain ⟨a1, a2, a3, a4⟩ := h1 _ (List.getElem_mem hi)
 refine ⟨a1, a2, a3, a4, fun h0 => ?_⟩
 have e2 : l.getD (i - 1) conf.dflt = l[i - 1] := getD_eq (show i - 1 < l.length by omega) _
 rw [e2]
 exact List.pairwise_iff_getElem.1 h2 (i - 1) i (by omega) hi (by omega)
theorem bits_pair (m s : Int) (n : Nat) : (bitsD m s n).Pairwise (· < ·) := (rising_iff.1 (bits_rising m s (n := n) (k := n) (by omega))).2
theorem madeC_ok (x2 : Int) : countsD (madeC x2 (bitsD 1073741824 x2 4)) 1 = true := by
 have hp := pickD_lt (k := IntKind.i64.wrap (x2.tdiv 16)) (n := 3) (by decide)
 have hw : IntKind.i64.wrap (1 + pickD (IntKind.i64.wrap (x2.tdiv 16)) 3) = 1 + pickD (IntKind.i64.wrap (x2.tdiv 16)) 3 := wrap_in (by omega) (by omega)
 refine counts_iff (fun x hx => ?_) ?_
 · unfold madeC at hx
   rw [List.mem_map] at hx
   obtain ⟨f, hf, rfl⟩ := hx
   obtain ⟨i, hi, _, rfl⟩ := mem_bits.1 hf
   show 0 ≤ (i : Int) ∧ (i : Int) ≤ 15 ∧ 1 ≤ IntKind.i64.wrap (1 + pickD (IntKind.i64.wrap (x2.tdiv 16)) 3) ∧ IntKind.i64.wrap (1 + pickD (IntKind.i64.wrap (x2.tdiv 16)) 3) ≤ 12
   omega
 · unfold madeC
   rw [List.pairwise_map]
   exact (bits_pair _ _ _).imp fun h => h
theorem momC_ok (x3 : Int) : countsD (momC x3 4) 0 = true := by
 have hp := pickD_lt (k := IntKind.i64.wrap (x3.tdiv 16)) (n := 5) (by decide)
 refine counts_iff (fun x hx => ?_) ?_
 · unfold momC at hx
   rw [List.mem_map] at hx
   obtain ⟨i, hi, rfl⟩ := hx
   rw [List.mem_filter, List.mem_range] at hi
   show 0 ≤ (i : Int) ∧ (i : Int) ≤ 15 ∧ 0 ≤ pickD (IntKind.i64.wrap (x3.tdiv 16)) 5 ∧ pickD (IntKind.i64.wrap (x3.tdiv 16)) 5 ≤ 12
   omega
 · unfold momC
   rw [List.pairwise_map]
   refine (List.pairwise_lt_range.filter _).imp fun h => ?_
   show ((_ : Nat) : Int) < ((_ : Nat) : Int)
   omega
theorem rcmp_lex : ∀ (a b : List Int), (∀ x ∈ a, 0 ≤ x ∧ x ≤ 19) → (∀ x ∈ b, 0 ≤ x ∧ x ≤ 19) → a.length ≤ 1000000 → b.length ≤ 1000000 → lexC a b = sgn (rcmp a b) 0
 | [], [], _, _, _, _ => rfl
 | [], y :: b, _, _, _, h => by
  rw [rcmp_end (.inl rfl)]
  have h' : (y :: b).length ≤ 1000000 := h
  have h0 : 0 < (y :: b).length := by simp
  have : IntKind.i64.wrap ((Nat.cast ([] : List Int).length : Int) - (Nat.cast (y :: b).length : Int)) = -(Nat.cast (y :: b).length : Int) := by
   have e0 : ((([] : List Int).length : Nat) : Int) = 0 := rfl
   rw [e0, wrap_in (by omega) (by omega)]; omega
  rw [this]
  unfold sgn
  rw [if_pos (by omega)]
  rfl
 | x :: a, [], _, _, h, _ => by
  rw [rcmp_end (.inr rfl)]
  have h' : (x :: a).length ≤ 1000000 := h
  have h0 : 0 < (x :: a).length := by simp
  have : IntKind.i64.wrap ((Nat.cast (x :: a).length : Int) - (Nat.cast ([] : List Int).length : Int)) = (Nat.cast (x :: a).length : Int) := by
   have e0 : ((([] : List Int).length : Nat) : Int) = 0 := rfl
   rw [e0, wrap_in (by omega) (by omega)]; omega
  rw [this]
  unfold sgn
  rw [if_neg (by omega), if_pos (by omega)]
  rfl
 | x :: a, y :: b, ha, hb, h1, h2 => by
  have hx := ha x (by simp)
  have hy := hb y (by simp)
  by_cases e : x = y
  · subst e
    have : sgn x x = 0 := by unfold sgn; rw [if_neg (by omega), if_neg (by omega)]
    simp only [lexC, rcmp, this, ne_eq, not_true_eq_false, if_false]
    exact rcmp_lex a b (fun z hz => ha z (by simp [hz])) (fun z hz => hb z (by simp [hz])) (by simp at h1; omega) (by simp at h2; omega)
  · have hs : sgn x y ≠ 0 := by
     unfold sgn
     by_cases h : x < y
     · rw [if_pos h]; decide
     · rw [if_neg h, if_pos (by omega)]; decide
    simp only [lexC, rcmp, hs, e, ne_eq, not_false_eq_true, if_true]
    rw [wrap_in (by omega) (by omega)]
    unfold sgn
    by_cases h : x < y
    · rw [if_pos h, if_pos (by omega)]
    · rw [if_neg h, if_pos (by omega), if_neg (by omega), if_pos (by omega)]
theorem before_cmp (x y : Ty.den lockT) (ha : ∀ z ∈ kK x, 0 ≤ z ∧ z ≤ 19) (hb : ∀ z ∈ kK y, 0 ≤ z ∧ z ≤ 19) (h1 : (kK x).length ≤ 1000000) (h2 : (kK y).length ≤ 1000000) : beforeD x y = decide (cmpL x y < 0) := by
 unfold beforeD beforeE cmpL
 rw [rcmp_lex _ _ ha hb h1 h2]
 generalize rcmp (kK x) (kK y) = r
 generalize kN x = n
 generalize kN y = m
 by_cases c1 : n < m
 · have : sgn n m = -1 := by unfold sgn; rw [if_pos c1]
   rw [decide_eq_true c1, this]; rfl
 · by_cases c2 : n = m
   · subst c2
     have : sgn n n = 0 := by unfold sgn; rw [if_neg (by omega), if_neg (by omega)]
     have hbb : (n == n) = true := by simp
     rw [decide_eq_false c1, this, hbb]
     show decide (r < 0) = decide ((if (0 : Int) ≠ 0 then (0 : Int) else sgn r 0) < 0)
     rw [if_neg (by decide)]
     unfold sgn
     by_cases c3 : r < 0
     · rw [if_pos c3, decide_eq_true c3]; rfl
     · rw [if_neg c3, decide_eq_false c3]
       by_cases c4 : 0 < r
       · rw [if_pos c4]; rfl
       · rw [if_neg c4]; rfl
   · have : sgn n m = 1 := by unfold sgn; rw [if_neg c1, if_pos (by omega)]
     have hbb : (n == m) = false := by simpa using c2
     rw [decide_eq_false c1, this, hbb]
     rfl
theorem lockD_keys (x : Int) : kK (lockD x) = bitsD 1073741824 x 6 := rfl
theorem lockD_ok (x : Int) (h : ¬ (bitsD 1073741824 x 6).length = 0) : risingD (kK (lockD x)) 19 = true ∧ 1 ≤ kN (lockD x) ∧ kN (lockD x) ≤ (kK (lockD x)).length := by
 have hb := bitsD_len 1073741824 x 6
 obtain ⟨p1, p2⟩ := pickD_lt (k := IntKind.i64.wrap (x.tdiv 64)) (n := ((bitsD 1073741824 x 6).length : Int)) (by omega)
 have hw : kN (lockD x) = 1 + pickD (IntKind.i64.wrap (x.tdiv 64)) (bitsD 1073741824 x 6).length := wrap_in (by omega) (by omega)
 refine ⟨bits_rising _ _ (by decide), ?_, ?_⟩
 · rw [hw]; omega
 · rw [hw, lockD_keys]; omega
theorem lockD_small (x : Int) : (∀ z ∈ kK (lockD x), 0 ≤ z ∧ z ≤ 19) ∧ (kK (lockD x)).length ≤ 1000000 := by
 have hb := bitsD_len 1073741824 x 6
 refine ⟨(rising_iff.1 (bits_rising 1073741824 x (n := 6) (k := 19) (by decide))).1, ?_⟩
 rw [lockD_keys]; omega
theorem locks1 (x : Int) (h : ¬ (bitsD 1073741824 x 6).length = 0) : locksD [lockD x] = true := by
 obtain ⟨a, b, c⟩ := lockD_ok x h
 refine allI_true.2 fun i hi => ?_
 have hi : i < 1 := hi
 obtain rfl : i = 0 := by omega
 show (risingD (kK (lockD x)) 19 && (decide (kN (lockD x) ≥ 1) && decide (kN (lockD x) ≤ (kK (lockD x)).length)) && (!decide (((0 : Nat) : Int) > 0) || _)) = true
 rw [a, decide_eq_true (show kN (lockD x) ≥ 1 from b), decide_eq_true c]
 rfl
theorem locks2 (x y : Int) (h : ¬ (bitsD 1073741824 x 6).length = 0) (h' : ¬ (bitsD 1073741824 y 6).length = 0) (hb : beforeD (lockD x) (lockD y) = true) : locksD [lockD x, lockD y] = true := by
 obtain ⟨a, b, c⟩ := lockD_ok x h
 obtain ⟨a', b', c'⟩ := lockD_ok y h'
 rw [before_cmp _ _ (lockD_small x).1 (lockD_small y).1 (lockD_small x).2 (lockD_small y).2] at hb
 refine allI_true.2 fun i hi => ?_
 have hi : i < 2 := hi
 match i, hi with
 | 0, _ =>
  show (risingD (kK (lockD x)) 19 && (decide (kN (lockD x) ≥ 1) && decide (kN (lockD x) ≤ (kK (lockD x)).length)) && (!decide (((0 : Nat) : Int) > 0) || _)) = true
  rw [a, decide_eq_true (show kN (lockD x) ≥ 1 from b), decide_eq_true c]
  rfl
 | 1, _ =>
  show (risingD (kK (lockD y)) 19 && (decide (kN (lockD y) ≥ 1) && decide (kN (lockD y) ≤ (kK (lockD y)).length)) && (!decide (((1 : Nat) : Int) > 0) || decide (cmpL (lockD x) (lockD y) < 0))) = true
  rw [a', decide_eq_true (show kN (lockD y) ≥ 1 from b'), decide_eq_true c', hb]
  rfl
 | i + 2, h => omega
theorem madeL_ok (x5 x6 : Int) : locksD (madeL x5 x6) = true ∧ (madeL x5 x6).length ≤ 2 ∧ ∀ q ∈ madeL x5 x6, (kK q).length ≤ 1000000 := by
 unfold madeL
 have s5 := (lockD_small x5).2
 have s6 := (lockD_small x6).2
 by_cases e5 : (bitsD 1073741824 x5 6).length = 0 <;> by_cases e6 : (bitsD 1073741824 x6 6).length = 0
 · rw [decide_eq_true e5, decide_eq_true e6]
   exact ⟨rfl, Nat.zero_le _, fun q hq => by cases hq⟩
 · rw [decide_eq_true e5, decide_eq_false e6]
   exact ⟨locks1 x6 e6, (by show 1 ≤ 2; decide), fun q hq => by rw [List.mem_singleton.1 hq]; exact s6⟩
 · rw [decide_eq_false e5, decide_eq_true e6]
   exact ⟨locks1 x5 e5, (by show 1 ≤ 2; decide), fun q hq => by rw [List.mem_singleton.1 hq]; exact s5⟩
 · rw [decide_eq_false e5, decide_eq_false e6]
   simp only [cond_false]
   cases hb : beforeD (lockD x5) (lockD x6) with
   | true => exact ⟨locks2 x5 x6 e5 e6 hb, (by show 2 ≤ 2; decide), fun q hq => by
    simp only [cond_true, List.mem_cons, List.not_mem_nil, or_false] at hq
    rcases hq with rfl | rfl
    · exact s5
    · exact s6⟩
   | false =>
    cases hb2 : beforeD (lockD x6) (lockD x5) with
    | true => exact ⟨locks2 x6 x5 e6 e5 hb2, (by show 2 ≤ 2; decide), fun q hq => by
     simp only [cond_true, cond_false, List.mem_cons, List.not_mem_nil, or_false] at hq
     rcases hq with rfl | rfl
     · exact s6
     · exact s5⟩
    | false => exact ⟨locks1 x5 e5, (by show 1 ≤ 2; decide), fun q hq => by
     simp only [cond_false, List.mem_cons, List.not_mem_nil, or_false] at hq
     rw [hq]; exact s5⟩
def vX (x : Ty.den labT) : Bool := validE (aU x) (aE x) (aC x) (aT x) (aK x) (aL x)
def vY (x : Ty.den momT) : Bool := validM (bN x) (bD x) (bE x) (bC x) (bK x)
theorem inR_of {x a b : Int} (h1 : a ≤ x) (h2 : x ≤ b) : inR x a b = true := by
 unfold inR
 rw [decide_eq_true (show x ≥ a from h1), decide_eq_true h2]; rfl
theorem made_num (x0 x1 x2 x3 x4 x5 x6 : Int) : 0 ≤ aU (madeD x0 x1 x2 x3 x4 x5 x6) ∧ aU (madeD x0 x1 x2 x3 x4 x5 x6) ≤ 290 := by
 obtain ⟨a1, a2⟩ := pickD_lt (k := x0) (n := 30) (by decide)
 have hu : aU (madeD x0 x1 x2 x3 x4 x5 x6) = pickD x0 30 * 10 := wrap_in (by omega) (by omega)
 omega
theorem made_valid (x0 x1 x2 x3 x4 x5 x6 : Int) : vX (madeD x0 x1 x2 x3 x4 x5 x6) = true ∧ szX (madeD x0 x1 x2 x3 x4 x5 x6) := by
 obtain ⟨b1, b2⟩ := pickD_lt (k := x3) (n := 4) (by decide)
 obtain ⟨c1, c2⟩ := pickD_lt (k := x4) (n := 8) (by decide)
 obtain ⟨u1, u2⟩ := made_num x0 x1 x2 x3 x4 x5 x6
 have ht : madeT x3 = 255 - pickD x3 4 := wrap_in (by omega) (by omega)
 have hk : madeK x4 = 255 - pickD x4 8 := wrap_in (by omega) (by omega)
 obtain ⟨l1, l2, l3⟩ := madeL_ok x5 x6
 have e1 := bitsD_len 1073741824 x1 5
 have e2 := bitsD_len 1073741824 x2 4
 have e3 := madeC_len x2 (bitsD 1073741824 x2 4)
 constructor
 · show validE (aU (madeD x0 x1 x2 x3 x4 x5 x6)) (bitsD 1073741824 x1 5) (madeC x2 (bitsD 1073741824 x2 4)) (madeT x3) (madeK x4) (madeL x5 x6) = true
   unfold validE
   rw [inR_of u1 (by omega), inR_of (by omega) (by omega), inR_of (by omega) (by omega), l1, bits_rising 1073741824 x1 (by decide), madeC_ok x2, decide_eq_false (by omega)]
   rfl
 · exact ⟨by show (bitsD 1073741824 x1 5).length ≤ _; omega, by show (madeC x2 (bitsD 1073741824 x2 4)).length ≤ _; omega, by show (madeL x5 x6).length ≤ _; omega, l3⟩
theorem mom_lists (y0 y1 y2 y3 y4 : Int) : risingD (bE (momD y0 y1 y2 y3 y4)) 19 = true ∧ countsD (bC (momD y0 y1 y2 y3 y4)) 0 = true ∧ risingD (bK (momD y0 y1 y2 y3 y4)) 19 = true ∧ szY (momD y0 y1 y2 y3 y4) := by
 have e1 := bitsD_len 1073741824 y2 5
 have e2 := bitsD_len 1073741824 y4 6
 have e3 := momC_len y3 4
 exact ⟨bits_rising _ _ (by decide), momC_ok y3, bits_rising _ _ (by decide), by show (bitsD 1073741824 y2 5).length ≤ _; omega, by show (momC y3 4).length ≤ _; omega, by show (bitsD 1073741824 y4 6).length ≤ _; omega⟩
end L
end Go.Proofs.YthjiodeaepigmaaDoor

