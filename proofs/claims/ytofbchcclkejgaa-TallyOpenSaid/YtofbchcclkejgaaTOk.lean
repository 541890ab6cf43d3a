/- Parts of the library of texts, one after the other: T1, T2, T3, T4, T5, Ev34, Ev35, T6, T7, T8, T9, Ev36. -/
import Derived.Test.YtofbchcclkejgaaTOh
import Derived.Test.YtofbchcclkejgaaTOj
import Derived.Test.YtofbchcclkejgaaProg
/- Package tally: what its calls come to; the fixed examples of 'sane'. -/
set_option linter.unusedVariables false
set_option linter.unusedSimpArgs false
set_option maxRecDepth 100000
set_option maxHeartbeats 4000000
namespace Go.Proofs.Ytofbchcclkejgaa
open Go
namespace T
def Γ : Nat → Option V := fun _ => none
def mems : List Nat := [40, 53, 54, 55, 56, 59, 67, 72, 73, 74, 78, 79]
noncomputable def cfgM (orc : Orc) (mem : List Nat) (omd : FuncId → Bool) (om : CallF) : Cfg := ⟨orc, omd, om, fun _ _ => none, fun _ => [], fun f => mem.any (Nat.beq f), 80, fun _ _ => none⟩
theorem cfgM_ok {orc : Orc} {mem : List Nat} {omd : FuncId → Bool} {om : CallF} (h : OrcOk Try.prog Γ orc) (h2 : CallsOk Try.prog Γ om) (h3 : CallsFit om) : CfgOk Try.prog Γ (cfgM orc mem omd om) where
 orc := h
 om := h2
 fit := h3
 lo := fun f i e h => by cases h
 mixed := by kernel_rfl
noncomputable def run (C : Cfg) (f : FuncId) (args : List V) : MRes := mergeT (evFK Try.prog Γ (cfM Try.prog Γ C 30) C.lo [] 80 f args [] [])
theorem of_run {C : Cfg} (hC : CfgOk Try.prog Γ C) {f : FuncId} {args : List V} {c : Option Bool} {v v' : V} (h : run C f args = .ok c v) (hc : c.getD true = true) (hv : v = v') : SemF Try.prog Γ f args [] [] v' [] [] := SemF.of_evM hC h hc hv
def none0 : Orc := fun _ _ => none
theorem none0_ok : OrcOk Try.prog Γ none0 := fun f args c v h => by cases h
def omN : CallF := fun _ _ _ _ => none
theorem omN_ok : CallsOk Try.prog Γ omN := fun f args ob nm out h => by cases h
theorem omN_fit : CallsFit omN := ⟨(fun f args ob nm out h => by cases h), (fun f args ob nm out h => by cases h)⟩
noncomputable def cfgA : Cfg := cfgM none0 [] (fun _ => false) omN
theorem cfgA_ok : CfgOk Try.prog Γ cfgA := cfgM_ok none0_ok omN_ok omN_fit
noncomputable def cfgB : Cfg := cfgM none0 mems (fun _ => false) omN
theorem cfgB_ok : CfgOk Try.prog Γ cfgB := cfgM_ok none0_ok omN_ok omN_fit
theorem run40n : run cfgA 40 [.nls] = .ok none (.lst .full []) := by kernel_rfl
theorem run40e : run cfgA 40 [.els] = .ok none (.lst .ro []) := by kernel_rfl
theorem clone40 (t : Tag) : SemF Try.prog Γ 40 [.lst t []] [] [] (.lst .ro []) [] [] :=
 SemF.byNil (fun _ _ h => h.nil_or) ((of_run cfgA_ok run40n rfl rfl).weaken lst_ro_any) (of_run cfgA_ok run40e rfl rfl)
def isClone (f : FuncId) : Bool := Nat.beq f 40
theorem isClone_ok (f : FuncId) (h : isClone f = true) : (∀ t, SemF Try.prog Γ f [.lst t []] [] [] (.lst .ro []) [] []) ∧ Named Try.prog f := by
 obtain rfl := Nat.eq_of_beq_eq_true h
 exact ⟨clone40, .inr ⟨by decide, Try.f40, Try.func40, by kernel_rfl, by kernel_rfl⟩⟩
noncomputable def om1 : CallF := omC isClone (cfM Try.prog Γ cfgB 30)
theorem om1_ok : CallsOk Try.prog Γ om1 ∧ CallsFit om1 := omC_ok isClone_ok (cfM_fit cfgB_ok 30).1 (cfM_fit cfgB_ok 30).2
noncomputable def cfg0 : Cfg := cfgM none0 mems isClone om1
theorem cfg0_ok : CfgOk Try.prog Γ cfg0 := cfgM_ok none0_ok om1_ok.1 om1_ok.2
end T
end Go.Proofs.Ytofbchcclkejgaa

/- Package tally: types; loops of the lesser functions. -/
set_option linter.unusedVariables false
set_option linter.unusedSimpArgs false
set_option maxRecDepth 100000
set_option maxHeartbeats 4000000
namespace Go.Proofs.Ytofbchcclkejgaa
open Go
namespace T
noncomputable def root (f : Nat) : Code := match Try.prog.funcs[f]? with | some fn => fn.body.getD .skip | none => .skip
noncomputable def lp (f i : Nat) : Code := ((loops (root f))[i]?).getD .skip
theorem wrap_in {n : Int} (h1 : -9223372036854775808 ≤ n) (h2 : n ≤ 9223372036854775807) : IntKind.i64.wrap n = n := by
 have e1 : (2 : Int) ^ 64 = 18446744073709551616 := rfl
 have e2 : (2 : Int) ^ (64 - 1) = 9223372036854775808 := rfl
 simp only [IntKind.wrap, IntKind.signed, IntKind.bits, Bool.true_and, decide_eq_true_eq, e1, e2]
 split <;> omega
abbrev ity : Ty := .int .i64
abbrev conT : Ty := .agg [ity, .slice ity]
abbrev retT : Ty := .agg [ity, ity, .slice ity]
abbrev talT : Ty := .agg [conT, .slice retT]
abbrev rD (x : Ty.den retT) : Int := x.1
abbrev rN (x : Ty.den retT) : Int := x.2.1
abbrev rV (x : Ty.den retT) : List Int := x.2.2.1
def allI (n : Nat) (p : Nat → Bool) : Bool := (List.range n).all p
theorem allI_true {n : Nat} {p : Nat → Bool} : allI n p = true ↔ ∀ i, i < n → p i = true := by
 unfold allI; rw [List.all_eq_true]
 exact ⟨fun h i hi => h i (List.mem_range.2 hi), fun h i hi => h i (List.mem_range.1 hi)⟩
theorem allI_false {n : Nat} {p : Nat → Bool} {i : Nat} (hi : i < n) (h : p i = false) : allI n p = false := by
 cases hc : allI n p with
 | false => rfl
 | true => rw [allI_true.1 hc i hi] at h; cases h
noncomputable def cfg2 : Cfg := cfg0
theorem cfg2_ok : CfgOk Try.prog Γ cfg2 := cfg0_ok
def hp_ip : HP := { n := 52, lv := [2, 3, 5, 31, 32, 33], sp := [.ptr 0 0, .ptr 1 0, .ty ity, .ty (.slice ity), .ty ity, .ty ity], op := [.cells [.ty ity, .ty (.slice ity)], .cells [.ty ity, .ty ity, .ty (.slice ity)]], bp := [] }
def lve_ip : Ex → List Nat
 | .normal => [2, 3, 5, 31, 32, 33]
 | .ret => [4]
 | .exit 0 => [2, 3, 5]
 | _ => []
theorem bd_ip : Try.f42.body = some (root 42) := by kernel_rfl
theorem le_ip : (loops (root 42))[0]? = some (lp 42 0) := by kernel_rfl
theorem li_ip : Lies (root 42) 1 (lp 42 0) := Lies.of_take (n := 0) (by kernel_rfl)
def st_ip (c : Int) (ds : List Int) (d n : Int) (v : List Int) (s : Int) (v2 : List Int) (m i : Int) : St := hp_ip.st ⟨((), (), s, v2, m, i, ()), ((c, ds, ()), (d, n, v, ()), ()), ()⟩
noncomputable def rn_ip (c : Int) (ds : List Int) (d n : Int) (v : List Int) (s : Int) (v2 : List Int) (m i : Int) := outa lve_ip (evCK Try.prog Γ (cfM Try.prog Γ cfg2 30) (cfg2.lo 42) [] 60 1 (lp 42 0) (st_ip c ds d n v s v2 m i))
theorem rn_ip_eq (c : Int) (ds : List Int) (d n : Int) (v : List Int) (s : Int) (v2 : List Int) (m i : Int) : (rn_ip c ds d n v s v2 m i).run = (bif decide (i < m) then (bif decide ((0 : Int) ≤ i ∧ i < (v2.length : Int)) then (bif !bif decide ((0 : Int) ≤ v2.getD i.toNat (0 : Int)) then decide (v2.getD i.toNat (0 : Int) ≤ (100000 : Int)) else false then (some ((Ex.ret, [V.b false], [], [], 52, 0, 0))) else (some ((Ex.normal, [V.ptr 0 0, V.ptr 1 0, V.si .i64 (IntKind.i64.wrap (s + v2.getD i.toNat (0 : Int))), V.slst .ro ity v2, V.si .i64 m, V.si .i64 (IntKind.i64.wrap (i + (1 : Int)))], [some [V.si .i64 c, V.slst .ro ity ds], some [V.si .i64 d, V.si .i64 n, V.slst .ro ity v]], [], 52, 0, 0)))) else none) else (some ((Ex.exit 0, [V.ptr 0 0, V.ptr 1 0, V.si .i64 s], [some [V.si .i64 c, V.slst .ro ity ds], some [V.si .i64 d, V.si .i64 n, V.slst .ro ity v]], [], 52, 0, 0)))) := by kernel_rfl
theorem rn_ip_c (c : Int) (ds : List Int) (d n : Int) (v : List Int) (s : Int) (v2 : List Int) (m i : Int) {e : Ex} {vs : List V} {ob : Ob} {nm : Nm} {n' kh kt : Nat} (h : (rn_ip c ds d n v s v2 m i).run = some (e, vs, ob, nm, n', kh, kt)) : SemC Try.prog Γ (lp 42 0) (st_ip c ds d n v s v2 m i) e.to (St.of n' (lve_ip e) vs ob nm kh kt) := SemC.of_evM cfg2_ok Try.func42 bd_ip li_ip h
def hp_ix : HP := { n := 19, lv := [0, 1, 7, 8], sp := [.ty (.slice ity), .fn 64 [], .ty ity, .ty ity], op := [], bp := [] }
def lve_ix : Ex → List Nat
 | .normal => [0, 1, 7, 8]
 | .ret => [4]
 | .exit 0 => []
 | _ => []
theorem bd_ix : Try.f76.body = some (root 76) := by kernel_rfl
theorem le_ix : (loops (root 76))[0]? = some (lp 76 0) := by kernel_rfl
theorem li_ix : Lies (root 76) 1 (lp 76 0) := Lies.of_take (n := 0) (by kernel_rfl)
def st_ix (a : List Int) (n i : Int) : St := hp_ix.st ⟨(a, (), n, i, ()), (), ()⟩
noncomputable def rn_ix (a : List Int) (n i : Int) := outa lve_ix (evCK Try.prog Γ (cfM Try.prog Γ cfg2 30) (cfg2.lo 76) [] 60 1 (lp 76 0) (st_ix a n i))
theorem rn_ix_eq (a : List Int) (n i : Int) : (rn_ix a n i).run = (bif decide (i < n) then (bif decide ((0 : Int) ≤ i ∧ i < (a.length : Int)) then (bif !bif decide ((0 : Int) ≤ a.getD i.toNat (0 : Int)) then decide (a.getD i.toNat (0 : Int) ≤ (100000 : Int)) else false then (some ((Ex.ret, [V.si .i64 i], [], [], 19, 0, 0))) else (some ((Ex.normal, [V.slst .ro ity a, V.fn (Fn.func (64 : FuncId)) [] [], V.si .i64 n, V.si .i64 (IntKind.i64.wrap (i + (1 : Int)))], [], [], 19, 0, 0)))) else none) else (some ((Ex.exit 0, [], [], [], 19, 0, 0)))) := by kernel_rfl
theorem rn_ix_c (a : List Int) (n i : Int) {e : Ex} {vs : List V} {ob : Ob} {nm : Nm} {n' kh kt : Nat} (h : (rn_ix a n i).run = some (e, vs, ob, nm, n', kh, kt)) : SemC Try.prog Γ (lp 76 0) (st_ix a n i) e.to (St.of n' (lve_ix e) vs ob nm kh kt) := SemC.of_evM cfg2_ok Try.func76 bd_ix li_ix h
def hp_to0 : HP := { n := 61, lv := [1, 5, 6, 22, 23, 24], sp := [.ptr 0 0, .bz 0, .ty ity, .ty (.slice ity), .ty ity, .ty ity], op := [.cells [.ty ity, .ty (.slice ity), .ty (.slice retT)]], bp := [.arr ity] }
def lve_to0 : Ex → List Nat
 | .normal => [1, 5, 6, 22, 23, 24]
 | .exit 0 => [1, 5, 6]
 | _ => []
theorem bd_to0 : Try.f16.body = some (root 16) := by kernel_rfl
theorem le_to0 : (loops (root 16))[0]? = some (lp 16 0) := by kernel_rfl
theorem li_to0 : Lies (root 16) 1 (lp 16 0) := Lies.of_take (n := 0) (by kernel_rfl)
def st_to0 (c : Int) (ds : List Int) (rs : List (Ty.den retT)) (j : Nat) (s : Int) (d2 : List Int) (m i : Int) (b : List Int) : St := hp_to0.st ⟨((), j, s, d2, m, i, ()), ((c, ds, rs, ()), ()), (b, ())⟩
noncomputable def rn_to0 (c : Int) (ds : List Int) (rs : List (Ty.den retT)) (j : Nat) (s : Int) (d2 : List Int) (m i : Int) (b : List Int) := outa lve_to0 (evCK Try.prog Γ (cfM Try.prog Γ cfg2 30) (cfg2.lo 16) [] 60 1 (lp 16 0) (st_to0 c ds rs j s d2 m i b))
theorem rn_to0_eq (c : Int) (ds : List Int) (rs : List (Ty.den retT)) (j : Nat) (s : Int) (d2 : List Int) (m i : Int) (b : List Int) : (rn_to0 c ds rs j s d2 m i b).run = (bif decide (i < m) then (bif decide ((0 : Int) ≤ i ∧ i < (d2.length : Int)) then (some ((Ex.normal, [V.ptr 0 0, V.bs true 0 0 j, V.si .i64 (IntKind.i64.wrap (s + d2.getD i.toNat (0 : Int))), V.slst .ro ity d2, V.si .i64 m, V.si .i64 (IntKind.i64.wrap (i + (1 : Int)))], [some [V.si .i64 c, V.slst .ro ity ds, V.slst .ro retT rs]], [some (Bf.live (.arr ity b))], 61, 0, 0))) else none) else (some ((Ex.exit 0, [V.ptr 0 0, V.bs true 0 0 j, V.si .i64 s], [some [V.si .i64 c, V.slst .ro ity ds, V.slst .ro retT rs]], [some (Bf.live (.arr ity b))], 61, 0, 0)))) := by kernel_rfl
theorem rn_to0_c (c : Int) (ds : List Int) (rs : List (Ty.den retT)) (j : Nat) (s : Int) (d2 : List Int) (m i : Int) (b : List Int) {e : Ex} {vs : List V} {ob : Ob} {nm : Nm} {n' kh kt : Nat} (h : (rn_to0 c ds rs j s d2 m i b).run = some (e, vs, ob, nm, n', kh, kt)) : SemC Try.prog Γ (lp 16 0) (st_to0 c ds rs j s d2 m i b) e.to (St.of n' (lve_to0 e) vs ob nm kh kt) := SemC.of_evM cfg2_ok Try.func16 bd_to0 li_to0 h
def hp_to2 : HP := { n := 61, lv := [5, 6, 33, 34, 35, 40, 41, 42], sp := [.bz 0, .ty ity, .ty (.slice retT), .ty ity, .ty ity, .ty (.slice ity), .ty ity, .ty ity], op := [], bp := [.arr ity] }
def lve_to2 : Ex → List Nat
 | .normal => [5, 6, 33, 34, 35, 40, 41, 42]
 | .exit 4 => [5, 6, 33, 34, 35]
 | _ => []
theorem bd_to2 : Try.f16.body = some (root 16) := by kernel_rfl
theorem le_to2 : (loops (root 16))[2]? = some (lp 16 2) := by kernel_rfl
theorem li_to2 : Lies (root 16) 3 (lp 16 2) := Lies.of_take (n := 0) (by kernel_rfl)
def st_to2 (j : Nat) (s : Int) (l : List (Ty.den retT)) (n k : Int) (v : List Int) (m i : Int) (b : List Int) : St := hp_to2.st ⟨(j, s, l, n, k, v, m, i, ()), (), (b, ())⟩
noncomputable def rn_to2 (j : Nat) (s : Int) (l : List (Ty.den retT)) (n k : Int) (v : List Int) (m i : Int) (b : List Int) := outa lve_to2 (evCK Try.prog Γ (cfM Try.prog Γ cfg2 30) (cfg2.lo 16) [] 60 3 (lp 16 2) (st_to2 j s l n k v m i b))
theorem rn_to2_eq (j : Nat) (s : Int) (l : List (Ty.den retT)) (n k : Int) (v : List Int) (m i : Int) (b : List Int) : (rn_to2 j s l n k v m i b).run = (bif decide (i < m) then (bif decide ((0 : Int) ≤ i ∧ i < (v.length : Int)) then (bif decide ((0 : Int) ≤ i ∧ i < (Nat.cast (j) : Int)) then (bif decide (0 + i.toNat < b.length) then (bif decide ((0 : Int) ≤ i ∧ i < (Nat.cast (j) : Int)) then (bif decide (0 + i.toNat < b.length) then (some ((Ex.normal, [V.bs true 0 0 j, V.si .i64 (IntKind.i64.wrap (s - v.getD i.toNat (0 : Int))), V.slst .ro retT l, V.si .i64 n, V.si .i64 k, V.slst .ro ity v, V.si .i64 m, V.si .i64 (IntKind.i64.wrap (i + (1 : Int)))], [], [some (Bf.live (.arr ity (b.set (0 + i.toNat) (IntKind.i64.wrap (b.getD (0 + i.toNat) (0 : Int) + v.getD i.toNat (0 : Int))))))], 61, 0, 0))) else none) else none) else none) else none) else none) else (some ((Ex.exit 4, [V.bs true 0 0 j, V.si .i64 s, V.slst .ro retT l, V.si .i64 n, V.si .i64 k], [], [some (Bf.live (.arr ity b))], 61, 0, 0)))) := by kernel_rfl
theorem rn_to2_c (j : Nat) (s : Int) (l : List (Ty.den retT)) (n k : Int) (v : List Int) (m i : Int) (b : List Int) {e : Ex} {vs : List V} {ob : Ob} {nm : Nm} {n' kh kt : Nat} (h : (rn_to2 j s l n k v m i b).run = some (e, vs, ob, nm, n', kh, kt)) : SemC Try.prog Γ (lp 16 2) (st_to2 j s l n k v m i b) e.to (St.of n' (lve_to2 e) vs ob nm kh kt) := SemC.of_evM cfg2_ok Try.func16 bd_to2 li_to2 h
def hp_eq : HP := { n := 26, lv := [0, 1, 12, 13], sp := [.ty (.slice ity), .ty (.slice ity), .ty ity, .ty ity], op := [], bp := [] }
def lve_eq : Ex → List Nat
 | .normal => [0, 1, 12, 13]
 | .ret => [4]
 | .exit 0 => []
 | _ => []
theorem bd_eq : Try.f68.body = some (root 68) := by kernel_rfl
theorem le_eq : (loops (root 68))[0]? = some (lp 68 0) := by kernel_rfl
theorem li_eq : Lies (root 68) 1 (lp 68 0) := Lies.of_take (n := 0) (by kernel_rfl)
def st_eq (a b : List Int) (n i : Int) : St := hp_eq.st ⟨(a, b, n, i, ()), (), ()⟩
noncomputable def rn_eq (a b : List Int) (n i : Int) := outa lve_eq (evCK Try.prog Γ (cfM Try.prog Γ cfg2 30) (cfg2.lo 68) [] 60 1 (lp 68 0) (st_eq a b n i))
theorem rn_eq_eq (a b : List Int) (n i : Int) : (rn_eq a b n i).run = (bif decide (i < n) then (bif decide ((0 : Int) ≤ i ∧ i < (a.length : Int)) then (bif decide ((0 : Int) ≤ i ∧ i < (b.length : Int)) then (bif a.getD i.toNat (0 : Int) != b.getD i.toNat (0 : Int) then (some ((Ex.ret, [V.b false], [], [], 26, 0, 0))) else (some ((Ex.normal, [V.slst .ro ity a, V.slst .ro ity b, V.si .i64 n, V.si .i64 (IntKind.i64.wrap (i + (1 : Int)))], [], [], 26, 0, 0)))) else none) else none) else (some ((Ex.exit 0, [], [], [], 26, 0, 0)))) := by kernel_rfl
theorem rn_eq_c (a b : List Int) (n i : Int) {e : Ex} {vs : List V} {ob : Ob} {nm : Nm} {n' kh kt : Nat} (h : (rn_eq a b n i).run = some (e, vs, ob, nm, n', kh, kt)) : SemC Try.prog Γ (lp 68 0) (st_eq a b n i) e.to (St.of n' (lve_eq e) vs ob nm kh kt) := SemC.of_evM cfg2_ok Try.func68 bd_eq li_eq h
theorem c70_run (a b : Int) : run cfg0 70 [.si .i64 a, .si .i64 b] = .ok (none) (V.si .i64 (bif a != a then bif b != b then (0 : Int) else (-1 : Int) else bif b != b then (1 : Int) else bif decide (a < b) then (-1 : Int) else bif decide (a > b) then (1 : Int) else (0 : Int))) := by kernel_rfl
end T
end Go.Proofs.Ytofbchcclkejgaa

/- Package tally: contests, returns, tallies: validity; totals. -/
set_option linter.unusedVariables false
set_option linter.unusedSimpArgs false
set_option maxRecDepth 100000
set_option maxHeartbeats 4000000
namespace Go.Proofs.Ytofbchcclkejgaa
open Go
namespace T
def lvT : List (Nat × List Nat) := [(3, [169, 201, 247, 265, 318]), (4, [10, 218]), (5, [83, 107]), (6, [6, 24, 26, 49, 163]), (7, [6, 126]), (8, [8, 83]), (9, [0, 136]), (10, [28]), (11, [31]), (14, [15]), (15, [20]), (19, [46]), (22, [37]), (23, [43]), (24, [31]), (26, [31]), (27, [39, 63]), (28, [4]), (31, [28]), (32, [25, 43]), (33, [4]), (34, [19]), (35, [18]), (37, [23]), (38, [24]), (39, [2]), (41, [14]), (42, [29]), (43, [28]), (45, [27]), (48, [4]), (50, [4]), (52, [2]), (54, [12]), (57, [2]), (58, [11]), (60, [18, 60]), (61, [6]), (62, [20, 30, 74]), (66, [6]), (78, [15])]
def lvF (f : FuncId) : List Nat := match lvT.find? fun p => Nat.beq p.1 f with | some p => p.2 | none => []
noncomputable def cfgO (orc : Orc) (lo : LOrc) : Cfg := ⟨orc, isClone, om1, lo, lvF, fun f => mems.any (Nat.beq f), 80, fun _ _ => none⟩
theorem cfgO_ok {orc : Orc} {lo : LOrc} (h : OrcOk Try.prog Γ orc) (hl : LOrcOk Try.prog Γ lo) : CfgOk Try.prog Γ (cfgO orc lo) where
 orc := h
 om := om1_ok.1
 fit := om1_ok.2
 lo := hl
 mixed := by kernel_rfl
noncomputable def runL (C : Cfg) (f : FuncId) (args : List V) : MRes := mergeT (evFK Try.prog Γ (cfM Try.prog Γ C 30) C.lo (C.lv f) 80 f args [] [])
theorem of_runL {C : Cfg} (hC : CfgOk Try.prog Γ C) {f : FuncId} {args : List V} {c : Option Bool} {v v' : V} (h : runL C f args = .ok c v) (hc : c.getD true = true) (hv : v = v') : SemF Try.prog Γ f args [] [] v' [] [] := SemF.of_evM hC h hc hv
theorem take_snoc {α : Type} {l : List α} {i : Nat} (d : α) (h : i < l.length) : l.take (i + 1) = l.take i ++ [l.getD i d] := by
 rw [List.take_succ_eq_append_getElem h]; simp [List.getD, h]
theorem getD_mem {α : Type} {l : List α} {i : Nat} (d : α) (h : i < l.length) : l.getD i d ∈ l := by
 simp [List.getD, h]
theorem all_at {α : Type} {l : List α} {p : α → Bool} (d : α) (h : ∀ j, j < l.length → p (l.getD j d) = true) : l.all p = true := by
 rw [List.all_eq_true]
 intro x hx
 obtain ⟨i, hi, rfl⟩ := List.getElem_of_mem hx
 have := h i hi
 simpa [List.getD, hi] using this
theorem all_not {α : Type} {l : List α} {p : α → Bool} (d : α) {i : Nat} (hi : i < l.length) (h : p (l.getD i d) = false) : ¬ l.all p = true := by
 intro hc
 have := List.all_eq_true.1 hc _ (getD_mem d hi)
 rw [h] at this; cases this
def okV (x : Int) : Bool := decide (0 ≤ x ∧ x ≤ 100000)
theorem okV_iff {x : Int} : okV x = true ↔ 0 ≤ x ∧ x ≤ 100000 := by simp [okV]
theorem okV_bif (x : Int) : (bif decide ((0 : Int) ≤ x) then decide (x ≤ (100000 : Int)) else false) = okV x := by
 unfold okV
 by_cases h1 : 0 ≤ x <;> by_cases h2 : x ≤ 100000 <;> simp [h1, h2]
theorem sum_bound {l : List Int} (h : ∀ x ∈ l, 0 ≤ x ∧ x ≤ 100000) : 0 ≤ l.sum ∧ l.sum ≤ 100000 * (l.length : Int) := by
 induction l with
 | nil => simp
 | cons a l ih =>
  have h1 := ih (fun x hx => h x (by simp [hx]))
  have h2 := h a (by simp)
  simp only [List.sum_cons, List.length_cons]
  omega
theorem sum_take {l : List Int} {i : Nat} (h : i < l.length) : (l.take (i + 1)).sum = (l.take i).sum + l.getD i 0 := by
 rw [take_snoc 0 h]; simp
theorem all_take {l : List Int} {i : Nat} (hi : i ≤ l.length) (h : ∀ j, j < i → okV (l.getD j 0) = true) : ∀ x ∈ l.take i, 0 ≤ x ∧ x ≤ 100000 := by
 intro x hx
 obtain ⟨j, hj, rfl⟩ := List.getElem_of_mem hx
 have hj' : j < i := by simp at hj; omega
 have := okV_iff.1 (h j hj')
 have hjl : j < l.length := by omega
 simpa [List.getD, hjl] using this
theorem wrap_succ {i n : Nat} (hi : i < n) (hn : n ≤ 1000000) : IntKind.i64.wrap ((i : Int) + 1) = ((i + 1 : Nat) : Int) := by rw [wrap_in (by omega) (by omega)]; rfl
abbrev pre_ip (c : Int) (ds : List Int) (d n : Int) (v : List Int) (s : Int) (v2 : List Int) (m i : Int) : Prop := v2 = v ∧ m = (v.length : Int) ∧ i = 0 ∧ s = 0 ∧ v.length ≤ 1000000
def rs_ip (c : Int) (ds : List Int) (d n : Int) (v : List Int) (s : Int) (v2 : List Int) (m i : Int) : Ex × St := if v.all okV = true then (.exit 0, St.of 52 (lve_ip (.exit 0)) [.ptr 0 0, .ptr 1 0, .si .i64 v.sum] [some [.si .i64 c, .slst .ro ity ds], some [.si .i64 d, .si .i64 n, .slst .ro ity v]] [] hp_ip.kh hp_ip.kt) else (.ret, St.of 52 (lve_ip (.ret)) [.b false] [] [] hp_ip.kh hp_ip.kt)
def res_ip (c : Int) (ds : List Int) (d n : Int) (v : List Int) (s : Int) (v2 : List Int) (m i : Int) : Tr (Ex × St) := .br (decide (pre_ip c ds d n v s v2 m i)) (.br (decide (v.all okV = true)) (.leaf (some (.exit 0, St.of 52 (lve_ip (.exit 0)) [.ptr 0 0, .ptr 1 0, .si .i64 v.sum] [some [.si .i64 c, .slst .ro ity ds], some [.si .i64 d, .si .i64 n, .slst .ro ity v]] [] hp_ip.kh hp_ip.kt))) (.leaf (some (.ret, St.of 52 (lve_ip (.ret)) [.b false] [] [] hp_ip.kh hp_ip.kt)))) (.leaf none)
def ent_ip : LEnt := LEnt.by hp_ip fun ⟨(_, _, s, v2, m, i, _), ((c, ds, _), (d, n, v, _), _), _⟩ => res_ip c ds d n v s v2 m i
theorem ent_ip_ok (hgo : ∀ (c : Int) (ds : List Int) (d n : Int) (v : List Int) (s : Int) (v2 : List Int) (m i : Int), pre_ip c ds d n v s v2 m i → SemL Try.prog Γ (lp 42 0) (st_ip c ds d n v s v2 m i) (rs_ip c ds d n v s v2 m i).1.to (rs_ip c ds d n v s v2 m i).2) : EntOk Try.prog Γ (lp 42 0) ent_ip := LEnt.by_ok fun ⟨(_, _, s, v2, m, i, _), ((c, ds, _), (d, n, v, _), _), _⟩ _ _ h_ => SemL.br (out := rs_ip c ds d n v s v2 m i) (Tr.run_ite rfl rfl) (hgo c ds d n v s v2 m i) h_
theorem ip_go (c : Int) (ds : List Int) (d n : Int) (v : List Int) (s : Int) (v2 : List Int) (m i : Int) (h : pre_ip c ds d n v s v2 m i) : SemL Try.prog Γ (lp 42 0) (st_ip c ds d n v s v2 m i) (rs_ip c ds d n v s v2 m i).1.to (rs_ip c ds d n v s v2 m i).2 := by
 obtain ⟨rfl, rfl, rfl, rfl, hc⟩ := h
 refine SemL.scan v2.length 0 (Nat.zero_le _) (fun i => st_ip c ds d n v2 (v2.take i).sum v2 v2.length (i : Nat)) (fun i => okV (v2.getD i 0)) _ ?_ ?_ ?_
 · intro i _ hi hb hp
   refine rn_ip_c c ds d n v2 _ v2 v2.length i (e := .normal) ?_
   have hs := sum_bound (all_take (Nat.le_of_lt hi) (fun j hj => hb j (Nat.zero_le _) hj))
   have hx := okV_iff.1 hp
   have hl : ((v2.take i).length : Int) ≤ 1000000 := by simp only [List.length_take]; omega
   have hw : IntKind.i64.wrap ((v2.take i).sum + v2.getD i 0) = (v2.take (i + 1)).sum := by
    rw [sum_take hi, wrap_in]
    · omega
    · omega
   rw [rn_ip_eq, wrap_succ hi hc, decide_eq_true (by omega : (i : Int) < v2.length), decide_eq_true (by omega : (0 : Int) ≤ (i : Int) ∧ (i : Int) < v2.length), Int.toNat_natCast, okV_bif, hp, hw]
   rfl
 · intro i _ hi hb hp
   unfold rs_ip
   rw [if_neg (all_not 0 hi hp)]
   refine ⟨by simp [Ex.to], rn_ip_c c ds d n v2 _ v2 v2.length i (e := .ret) ?_⟩
   rw [rn_ip_eq, decide_eq_true (by omega : (i : Int) < v2.length), decide_eq_true (by omega : (0 : Int) ≤ (i : Int) ∧ (i : Int) < v2.length), Int.toNat_natCast, okV_bif, hp]
   rfl
 · intro hb
   unfold rs_ip
   rw [if_pos (all_at 0 (fun j hj => hb j (Nat.zero_le _) hj))]
   refine ⟨by simp [Ex.to], rn_ip_c c ds d n v2 _ v2 v2.length v2.length (e := .exit 0) ?_⟩
   rw [rn_ip_eq, decide_eq_false (by omega), List.take_length]
   rfl
abbrev pre_ix (a : List Int) (n i : Int) : Prop := n = (a.length : Int) ∧ i = 0 ∧ a.length ≤ 1000000
def rs_ix (a : List Int) (n i : Int) : Ex × St := if a.all okV = true then (.exit 0, St.of 19 (lve_ix (.exit 0)) [] [] [] hp_ix.kh hp_ix.kt) else (.ret, St.of 19 (lve_ix (.ret)) [.si .i64 (a.findIdx (fun y => !okV y) : Nat)] [] [] hp_ix.kh hp_ix.kt)
def res_ix (a : List Int) (n i : Int) : Tr (Ex × St) := .br (decide (pre_ix a n i)) (.br (decide (a.all okV = true)) (.leaf (some (.exit 0, St.of 19 (lve_ix (.exit 0)) [] [] [] hp_ix.kh hp_ix.kt))) (.leaf (some (.ret, St.of 19 (lve_ix (.ret)) [.si .i64 (a.findIdx (fun y => !okV y) : Nat)] [] [] hp_ix.kh hp_ix.kt)))) (.leaf none)
def ent_ix : LEnt := LEnt.by hp_ix fun ⟨(a, _, n, i, _), _, _⟩ => res_ix a n i
theorem ent_ix_ok (hgo : ∀ (a : List Int) (n i : Int), pre_ix a n i → SemL Try.prog Γ (lp 76 0) (st_ix a n i) (rs_ix a n i).1.to (rs_ix a n i).2) : EntOk Try.prog Γ (lp 76 0) ent_ix := LEnt.by_ok fun ⟨(a, _, n, i, _), _, _⟩ _ _ h_ => SemL.br (out := rs_ix a n i) (Tr.run_ite rfl rfl) (hgo a n i) h_
theorem ix_go (a : List Int) (n i : Int) (h : pre_ix a n i) : SemL Try.prog Γ (lp 76 0) (st_ix a n i) (rs_ix a n i).1.to (rs_ix a n i).2 := by
 obtain ⟨rfl, rfl, hc⟩ := h
 refine SemL.scan a.length 0 (Nat.zero_le _) (fun i => st_ix a a.length (i : Nat)) (fun i => okV (a.getD i 0)) _ ?_ ?_ ?_
 · intro i _ hi hb hp
   refine rn_ix_c a a.length i (e := .normal) ?_
   rw [rn_ix_eq, wrap_succ hi hc, decide_eq_true (by omega : (i : Int) < a.length), decide_eq_true (by omega : (0 : Int) ≤ (i : Int) ∧ (i : Int) < a.length), Int.toNat_natCast, okV_bif, hp]
   rfl
 · intro i _ hi hb hp
   have e : a.findIdx (fun y => !okV y) = i := findIdx_at 0 hi (fun j hj => by simpa using hb j (Nat.zero_le _) hj) (by simpa using hp)
   unfold rs_ix
   rw [if_neg (all_not 0 hi hp), e]
   refine ⟨by simp [Ex.to], rn_ix_c a a.length i (e := .ret) ?_⟩
   rw [rn_ix_eq, decide_eq_true (by omega : (i : Int) < a.length), decide_eq_true (by omega : (0 : Int) ≤ (i : Int) ∧ (i : Int) < a.length), Int.toNat_natCast, okV_bif, hp]
   rfl
 · intro hb
   unfold rs_ix
   rw [if_pos (all_at 0 (fun j hj => hb j (Nat.zero_le _) hj))]
   refine ⟨by simp [Ex.to], rn_ix_c a a.length a.length (e := .exit 0) ?_⟩
   rw [rn_ix_eq, decide_eq_false (by omega)]
   rfl
def lo3 : LOrc := (LOrc.add (LOrc.add (fun _ _ => none) 42 0 ent_ip) 76 0 ent_ix)
theorem lo3_ok : LOrcOk Try.prog Γ lo3 := (LOrcOk.add (LOrcOk.add LOrcOk.none 42 0 Try.func42 bd_ip le_ip (ent_ip_ok ip_go)) 76 0 Try.func76 bd_ix le_ix (ent_ix_ok ix_go))
noncomputable def cfg3 : Cfg := cfgO none0 lo3
theorem cfg3_ok : CfgOk Try.prog Γ cfg3 := cfgO_ok none0_ok lo3_ok
theorem c39_run (c : Int) (ds : List Int) : runL cfg3 39 [.agg [.si .i64 c, .slst .ro ity ds]] = .ok (some ((some ((!bif decide ((2 : Int) ≤ c) then decide (c ≤ (4 : Int)) else false) || ((!bif decide ((1 : Int) ≤ (ds.length : Int)) then decide ((ds.length : Int) ≤ (12 : Int)) else false) || decide (pre_ix ds (ds.length : Int) (0 : Int))))).getD true)) (V.sb (bif bif decide ((2 : Int) ≤ c) then decide (c ≤ (4 : Int)) else false then bif bif decide ((1 : Int) ≤ (ds.length : Int)) then decide ((ds.length : Int) ≤ (12 : Int)) else false then !decide ((bif decide (ds.all okV = true) then (-1 : Int) else (Nat.cast ((List.findIdx (fun y => !okV y) ds)) : Int)) ≥ (0 : Int)) else false else false)) := by kernel_rfl
theorem c42_run (c : Int) (ds : List Int) (d n : Int) (v : List Int) : runL cfg3 42 [.agg [.si .i64 c, .slst .ro ity ds], .agg [.si .i64 d, .si .i64 n, .slst .ro ity v]] = .ok (some ((bif !bif decide ((0 : Int) ≤ d) then decide (d ≤ IntKind.i64.wrap ((ds.length : Int) - (1 : Int))) else false then true else bif !bif decide ((1 : Int) ≤ n) then decide (n ≤ (1000 : Int)) else false then true else (v.length : Int) != c) || decide (pre_ip c ds d n v (0 : Int) v (v.length : Int) (0 : Int)) && (!decide (v.all okV = true) || decide ((0 : Int) ≤ d ∧ d < (ds.length : Int))))) (V.sb (bif bif !bif decide ((0 : Int) ≤ d) then decide (d ≤ IntKind.i64.wrap ((ds.length : Int) - (1 : Int))) else false then true else bif !bif decide ((1 : Int) ≤ n) then decide (n ≤ (1000 : Int)) else false then true else (v.length : Int) != c then false else bif decide (v.all okV = true) then decide (v.sum ≤ ds.getD d.toNat (0 : Int)) else false)) := by kernel_rfl
end T
end Go.Proofs.Ytofbchcclkejgaa

/- Package tally: contests, returns: contracts; loops of Valid and Totals. -/
set_option linter.unusedVariables false
set_option linter.unusedSimpArgs false
set_option maxRecDepth 100000
set_option maxHeartbeats 4000000
namespace Go.Proofs.Ytofbchcclkejgaa
open Go
namespace T
instance : DecidableEq (Ty.den conT) := inferInstanceAs (DecidableEq (Int × List Int × Unit))
instance : DecidableEq (Ty.den retT) := inferInstanceAs (DecidableEq (Int × Int × List Int × Unit))
def validC (c : Int) (ds : List Int) : Bool := decide (2 ≤ c ∧ c ≤ 4) && (decide (1 ≤ ds.length ∧ ds.length ≤ 12) && ds.all okV)
def properD (c : Int) (ds : List Int) (d n : Int) (v : List Int) : Bool := decide (0 ≤ d ∧ d < (ds.length : Int)) && (decide (1 ≤ n ∧ n ≤ 1000) && (decide ((v.length : Int) = c) && (v.all okV && decide (v.sum ≤ ds.getD d.toNat 0))))
theorem c39_ok (c : Int) (ds : List Int) : SemF Try.prog Γ 39 [.agg [.si .i64 c, .slst .ro ity ds]] [] [] (.sb (validC c ds)) [] [] :=
  of_runL cfg3_ok (c39_run c ds) (by
    by_cases h : (1 : Int) ≤ (ds.length : Int) ∧ (ds.length : Int) ≤ 12
    · simp [h.1, h.2, pre_ix]; right; omega
    · by_cases h1 : (1 : Int) ≤ (ds.length : Int)
      · have h2 : ¬ (ds.length : Int) ≤ 12 := fun h2 => h ⟨h1, h2⟩
        simp [h1, h2]
      · simp [h1]) (by
    unfold validC
    congr 1
    have hf : ds.all okV = false → ¬ ((ds.findIdx fun y => !okV y : Nat) : Int) < 0 := fun _ => by omega
    by_cases h1 : (2 : Int) ≤ c <;> by_cases h2 : c ≤ 4 <;> by_cases h3 : (1 : Int) ≤ (ds.length : Int) <;> by_cases h4 : (ds.length : Int) ≤ 12 <;> cases h5 : ds.all okV <;>
      first
        | (exfalso; omega)
        | (have h3' : 1 ≤ ds.length := by omega
           have h4' : ds.length ≤ 12 := by omega
           simp [h1, h2, h3, h4, h3', h4'])
        | (have h3' : ¬ 1 ≤ ds.length := by omega
           have h4' : ds.length ≤ 12 := by omega
           simp [h1, h2, h3, h4, h3', h4'])
        | (have h3' : 1 ≤ ds.length := by omega
           have h4' : ¬ ds.length ≤ 12 := by omega
           simp [h1, h2, h3, h4, h3', h4']))
theorem c42_ok (c : Int) (ds : List Int) (d n : Int) (v : List Int) (h : ds.length ≤ 1000000 ∧ v.length ≤ 1000000) : SemF Try.prog Γ 42 [.agg [.si .i64 c, .slst .ro ity ds], .agg [.si .i64 d, .si .i64 n, .slst .ro ity v]] [] [] (.sb (properD c ds d n v)) [] [] := by
 have hw : IntKind.i64.wrap ((Nat.cast (ds.length) : Int) - (1 : Int)) = (ds.length : Int) - 1 := by rw [wrap_in] <;> omega
 refine of_runL cfg3_ok (c42_run c ds d n v) ?_ ?_
 · rw [hw]
   by_cases h1 : 0 ≤ d <;> by_cases h2 : d ≤ (ds.length : Int) - 1 <;> by_cases h3 : 1 ≤ n <;> by_cases h4 : n ≤ 1000 <;> by_cases h5 : (v.length : Int) = c <;> cases h6 : v.all okV <;> simp [h1, h2, h3, h4, h5, h6, pre_ip, h.2] <;> omega
 · rw [hw]
   unfold properD
   congr 1
   have e : decide (0 ≤ d ∧ d < (ds.length : Int)) = decide (0 ≤ d ∧ d ≤ (ds.length : Int) - 1) := by congr 1; apply propext; omega
   rw [e]
   by_cases h1 : 0 ≤ d <;> by_cases h2 : d ≤ (ds.length : Int) - 1 <;> by_cases h3 : 1 ≤ n <;> by_cases h4 : n ≤ 1000 <;> by_cases h5 : (v.length : Int) = c <;> cases h6 : v.all okV <;> simp [h1, h2, h3, h4, h5, h6]
noncomputable def gg_o39 (c : Int) (ds : List Int) : Option Bool × V := (none, .sb (validC c ds))
noncomputable def o39 : Orc := fun f args => if f = 39 then (Ty.ofVs [conT] args).map (fun x => gg_o39 x.1.1 x.1.2.1) else none0 f args
theorem o39_ok : OrcOk Try.prog Γ o39 := none0_ok.plain 39 [conT] (fun x => gg_o39 x.1.1 x.1.2.1) Try.f39 Try.func39 rfl (by kernel_rfl) (fun x h => (fun c ds => c39_ok c ds) x.1.1 x.1.2.1)
noncomputable def gg_o42 (c : Int) (ds : List Int) (d n : Int) (v : List Int) : Option Bool × V := (some (decide (ds.length ≤ 1000000 ∧ v.length ≤ 1000000)), .sb (properD c ds d n v))
noncomputable def o42 : Orc := fun f args => if f = 42 then (Ty.ofVs [conT, retT] args).map (fun x => gg_o42 x.1.1 x.1.2.1 x.2.1.1 x.2.1.2.1 x.2.1.2.2.1) else o39 f args
theorem o42_ok : OrcOk Try.prog Γ o42 := o39_ok.plain 42 [conT, retT] (fun x => gg_o42 x.1.1 x.1.2.1 x.2.1.1 x.2.1.2.1 x.2.1.2.2.1) Try.f42 Try.func42 rfl (by kernel_rfl) (fun x h => c42_ok x.1.1 x.1.2.1 x.2.1.1 x.2.1.2.1 x.2.1.2.2.1 (of_decide_eq_true h))
noncomputable def cfg4 : Cfg := cfgO o42 lo3
theorem cfg4_ok : CfgOk Try.prog Γ cfg4 := cfgO_ok o42_ok lo3_ok
def hp_va : HP := { n := 39, lv := [1, 10, 11, 12], sp := [.ptr 0 0, .ty (.slice retT), .ty ity, .ty ity], op := [.cells [.ty ity, .ty (.slice ity), .ty (.slice retT)]], bp := [] }
def lve_va : Ex → List Nat
 | .normal => [1, 10, 11, 12]
 | .ret => [2]
 | .exit 0 => []
 | _ => []
theorem bd_va : Try.f22.body = some (root 22) := by kernel_rfl
theorem le_va : (loops (root 22))[0]? = some (lp 22 0) := by kernel_rfl
theorem li_va : Lies (root 22) 1 (lp 22 0) := Lies.of_take (n := 0) (by kernel_rfl)
def st_va (c : Int) (ds : List Int) (rs rs2 : List (Ty.den retT)) (m i : Int) : St := hp_va.st ⟨((), rs2, m, i, ()), ((c, ds, rs, ()), ()), ()⟩
noncomputable def rn_va (c : Int) (ds : List Int) (rs rs2 : List (Ty.den retT)) (m i : Int) := outa lve_va (evCK Try.prog Γ (cfM Try.prog Γ cfg4 30) (cfg4.lo 22) [37] 60 1 (lp 22 0) (st_va c ds rs rs2 m i))
theorem rn_va_eq (c : Int) (ds : List Int) (rs rs2 : List (Ty.den retT)) (m i : Int) : (rn_va c ds rs rs2 m i).run = (bif decide (i < m) then (bif decide ((0 : Int) ≤ i ∧ i < (rs2.length : Int)) then (bif (some (decide (ds.length ≤ 1000000 ∧ List.length (rV (rs2.getD i.toNat retT.dflt)) ≤ 1000000) && (!properD c ds (rD (rs2.getD i.toNat retT.dflt)) (rN (rs2.getD i.toNat retT.dflt)) (rV (rs2.getD i.toNat retT.dflt)) || (!decide (i > (0 : Int)) || decide ((0 : Int) ≤ IntKind.i64.wrap (i - (1 : Int)) ∧ IntKind.i64.wrap (i - (1 : Int)) < (rs.length : Int)))))).getD true then (bif bif !properD c ds (rD (rs2.getD i.toNat retT.dflt)) (rN (rs2.getD i.toNat retT.dflt)) (rV (rs2.getD i.toNat retT.dflt)) then true else bif decide (i > (0 : Int)) then decide ((rD (rs2.getD i.toNat retT.dflt)) ≤ (rD (rs.getD (IntKind.i64.wrap (i - (1 : Int))).toNat retT.dflt))) else false then (some ((Ex.ret, [V.b false], [], [], 39, 0, 0))) else (some ((Ex.normal, [V.ptr 0 0, V.slst .ro retT rs2, V.si .i64 m, V.si .i64 (IntKind.i64.wrap (i + (1 : Int)))], [some [V.si .i64 c, V.slst .ro ity ds, V.slst .ro retT rs]], [], 39, 0, 0)))) else none) else none) else (some ((Ex.exit 0, [], [], [], 39, 0, 0)))) := by kernel_rfl
theorem rn_va_c (c : Int) (ds : List Int) (rs rs2 : List (Ty.den retT)) (m i : Int) {e : Ex} {vs : List V} {ob : Ob} {nm : Nm} {n' kh kt : Nat} (h : (rn_va c ds rs rs2 m i).run = some (e, vs, ob, nm, n', kh, kt)) : SemC Try.prog Γ (lp 22 0) (st_va c ds rs rs2 m i) e.to (St.of n' (lve_va e) vs ob nm kh kt) := SemC.of_evM cfg4_ok Try.func22 bd_va li_va h
abbrev prR (c : Int) (ds : List Int) (r : Ty.den retT) : Bool := properD c ds (rD r) (rN r) (rV r)
abbrev szR (rs : List (Ty.den retT)) : Prop := rs.length ≤ 1000000 ∧ ∀ r ∈ rs, (rV r).length ≤ 1000000
def vaR (c : Int) (ds : List Int) (rs : List (Ty.den retT)) (i : Nat) : Bool := prR c ds (rs.getD i retT.dflt) && decide (0 < i → rD (rs.getD (i - 1) retT.dflt) < rD (rs.getD i retT.dflt))
def validR (c : Int) (ds : List Int) (rs : List (Ty.den retT)) : Bool := allI rs.length (vaR c ds rs)
abbrev pre_va (c : Int) (ds : List Int) (rs rs2 : List (Ty.den retT)) (m i : Int) : Prop := rs2 = rs ∧ m = (rs.length : Int) ∧ i = 0 ∧ ds.length ≤ 1000000 ∧ szR rs
def rs_va (c : Int) (ds : List Int) (rs rs2 : List (Ty.den retT)) (m i : Int) : Ex × St := if validR c ds rs = true then (.exit 0, St.of 39 (lve_va (.exit 0)) [] [] [] hp_va.kh hp_va.kt) else (.ret, St.of 39 (lve_va (.ret)) [.b false] [] [] hp_va.kh hp_va.kt)
def res_va (c : Int) (ds : List Int) (rs rs2 : List (Ty.den retT)) (m i : Int) : Tr (Ex × St) := .br (decide (pre_va c ds rs rs2 m i)) (.br (decide (validR c ds rs = true)) (.leaf (some (.exit 0, St.of 39 (lve_va (.exit 0)) [] [] [] hp_va.kh hp_va.kt))) (.leaf (some (.ret, St.of 39 (lve_va (.ret)) [.b false] [] [] hp_va.kh hp_va.kt)))) (.leaf none)
def ent_va : LEnt := LEnt.by hp_va fun ⟨(_, rs2, m, i, _), ((c, ds, rs, _), _), _⟩ => res_va c ds rs rs2 m i
theorem ent_va_ok (hgo : ∀ (c : Int) (ds : List Int) (rs rs2 : List (Ty.den retT)) (m i : Int), pre_va c ds rs rs2 m i → SemL Try.prog Γ (lp 22 0) (st_va c ds rs rs2 m i) (rs_va c ds rs rs2 m i).1.to (rs_va c ds rs rs2 m i).2) : EntOk Try.prog Γ (lp 22 0) ent_va := LEnt.by_ok fun ⟨(_, rs2, m, i, _), ((c, ds, rs, _), _), _⟩ _ _ h_ => SemL.br (out := rs_va c ds rs rs2 m i) (Tr.run_ite rfl rfl) (hgo c ds rs rs2 m i) h_
theorem va_go (c : Int) (ds : List Int) (rs rs2 : List (Ty.den retT)) (m i : Int) (h : pre_va c ds rs rs2 m i) : SemL Try.prog Γ (lp 22 0) (st_va c ds rs rs2 m i) (rs_va c ds rs rs2 m i).1.to (rs_va c ds rs rs2 m i).2 := by
 obtain ⟨rfl, rfl, rfl, hd, hc, hv⟩ := h
 have eq0 : ∀ i : Nat, i < rs2.length → (rn_va c ds rs2 rs2 rs2.length i).run = (bif vaR c ds rs2 i then (some (Ex.normal, [V.ptr 0 0, V.slst Tag.ro retT rs2, V.si IntKind.i64 rs2.length, V.si IntKind.i64 ((i + 1 : Nat) : Int)], [some [V.si IntKind.i64 c, V.slst Tag.ro ity ds, V.slst Tag.ro retT rs2]], [], (39 : Nat), (0 : Nat), (0 : Nat))) else (some (Ex.ret, [V.b false], [], [], (39 : Nat), (0 : Nat), (0 : Nat)))) := by
  intro i hi
  have hx := hv _ (getD_mem retT.dflt hi)
  rw [rn_va_eq, wrap_succ hi hc, decide_eq_true (by omega : (i : Int) < rs2.length), decide_eq_true (by omega : (0 : Int) ≤ (i : Int) ∧ (i : Int) < rs2.length), Int.toNat_natCast, decide_eq_true (⟨hd, hx⟩ : ds.length ≤ 1000000 ∧ List.length (rV (rs2.getD i retT.dflt)) ≤ 1000000)]
  unfold vaR prR
  generalize properD c ds (rD (rs2.getD i retT.dflt)) (rN (rs2.getD i retT.dflt)) (rV (rs2.getD i retT.dflt)) = p
  by_cases h0 : i = 0
  · subst h0
    cases p <;> simp
  · have hw2 : IntKind.i64.wrap ((i : Int) - 1) = ((i - 1 : Nat) : Int) := by rw [wrap_in (by omega) (by omega)]; omega
    have hgt : decide ((i : Int) > 0) = true := decide_eq_true (by omega)
    rw [hgt, hw2, Int.toNat_natCast, decide_eq_true (by omega : (0 : Int) ≤ ((i - 1 : Nat) : Int) ∧ ((i - 1 : Nat) : Int) < (Nat.cast rs2.length : Int))]
    generalize rD (rs2.getD (i - 1) retT.dflt) = y
    generalize rD (rs2.getD i retT.dflt) = z
    have hi0 : 0 < i := by omega
    by_cases h : y < z
    · have h' : ¬ z ≤ y := by omega
      cases p <;> simp [h, h', hi0]
    · have h' : z ≤ y := by omega
      cases p <;> simp [h, h', hi0]
 refine SemL.scan rs2.length 0 (Nat.zero_le _) (fun i => st_va c ds rs2 rs2 rs2.length (i : Nat)) (vaR c ds rs2) _ ?_ ?_ ?_
 · intro i _ hi hb hp
   refine rn_va_c c ds rs2 rs2 rs2.length i (e := .normal) ?_
   rw [eq0 i hi, hp]
   rfl
 · intro i _ hi hb hp
   have hr : ¬ validR c ds rs2 = true := by unfold validR; rw [allI_false hi hp]; simp
   unfold rs_va
   rw [if_neg hr]
   refine ⟨by simp [Ex.to], rn_va_c c ds rs2 rs2 rs2.length i (e := .ret) ?_⟩
   rw [eq0 i hi, hp]
   rfl
 · intro hb
   have hr : validR c ds rs2 = true := allI_true.2 fun i hi => hb i (Nat.zero_le _) hi
   unfold rs_va
   rw [if_pos hr]
   refine ⟨by simp [Ex.to], rn_va_c c ds rs2 rs2 rs2.length rs2.length (e := .exit 0) ?_⟩
   rw [rn_va_eq, decide_eq_false (by omega)]
   rfl
def lo4 : LOrc := (LOrc.add lo3 22 0 ent_va)
theorem lo4_ok : LOrcOk Try.prog Γ lo4 := (LOrcOk.add lo3_ok 22 0 Try.func22 bd_va le_va (ent_va_ok va_go))
noncomputable def cfg5 : Cfg := cfgO o42 lo4
theorem cfg5_ok : CfgOk Try.prog Γ cfg5 := cfgO_ok o42_ok lo4_ok
theorem c22_run (c : Int) (ds : List Int) (rs : List (Ty.den retT)) : runL cfg5 22 [.agg [.si .i64 c, .slst .ro ity ds, .slst .ro retT rs]] = .ok (some (!validC c ds || decide (pre_va c ds rs rs (rs.length : Int) (0 : Int)))) (V.sb (bif !validC c ds then false else bif decide (validR c ds rs = true) then true else false)) := by kernel_rfl
theorem to0_sum {d : List Int} (hd : ∀ x ∈ d, 0 ≤ x ∧ x ≤ 100000) {i : Nat} (hi : i < d.length) (hl : d.length ≤ 1000000) : IntKind.i64.wrap ((d.take i).sum + d.getD i 0) = (d.take (i + 1)).sum := by
 have hs := sum_bound (l := d.take i) (fun x hx => hd x (List.mem_of_mem_take hx))
 have hx := hd _ (getD_mem 0 hi)
 have hl : ((d.take i).length : Int) ≤ 1000000 := by simp only [List.length_take]; omega
 rw [sum_take hi, wrap_in]
 · omega
 · omega
abbrev pre_to0 (c : Int) (ds : List Int) (rs : List (Ty.den retT)) (j : Nat) (s : Int) (d2 : List Int) (m i : Int) (b : List Int) : Prop := d2 = ds ∧ m = (ds.length : Int) ∧ i = 0 ∧ s = 0 ∧ ds.length ≤ 1000000 ∧ ∀ x ∈ ds, 0 ≤ x ∧ x ≤ 100000
def rs_to0 (c : Int) (ds : List Int) (rs : List (Ty.den retT)) (j : Nat) (s : Int) (d2 : List Int) (m i : Int) (b : List Int) : Ex × St := (.exit 0, St.of 61 (lve_to0 (.exit 0)) [.ptr 0 0, .bs true 0 0 j, .si .i64 ds.sum] [some [.si .i64 c, .slst .ro ity ds, .slst .ro retT rs]] [some (.live (.arr ity b))] hp_to0.kh hp_to0.kt)
def res_to0 (c : Int) (ds : List Int) (rs : List (Ty.den retT)) (j : Nat) (s : Int) (d2 : List Int) (m i : Int) (b : List Int) : Tr (Ex × St) := .br (decide (pre_to0 c ds rs j s d2 m i b)) (.leaf (some (.exit 0, St.of 61 (lve_to0 (.exit 0)) [.ptr 0 0, .bs true 0 0 j, .si .i64 ds.sum] [some [.si .i64 c, .slst .ro ity ds, .slst .ro retT rs]] [some (.live (.arr ity b))] hp_to0.kh hp_to0.kt))) (.leaf none)
def ent_to0 : LEnt := LEnt.by hp_to0 fun ⟨(_, j, s, d2, m, i, _), ((c, ds, rs, _), _), (b, _)⟩ => res_to0 c ds rs j s d2 m i b
theorem ent_to0_ok (hgo : ∀ (c : Int) (ds : List Int) (rs : List (Ty.den retT)) (j : Nat) (s : Int) (d2 : List Int) (m i : Int) (b : List Int), pre_to0 c ds rs j s d2 m i b → SemL Try.prog Γ (lp 16 0) (st_to0 c ds rs j s d2 m i b) (rs_to0 c ds rs j s d2 m i b).1.to (rs_to0 c ds rs j s d2 m i b).2) : EntOk Try.prog Γ (lp 16 0) ent_to0 := LEnt.by_ok fun ⟨(_, j, s, d2, m, i, _), ((c, ds, rs, _), _), (b, _)⟩ _ _ h_ => SemL.br (out := rs_to0 c ds rs j s d2 m i b) rfl (hgo c ds rs j s d2 m i b) h_
theorem to0_go (c : Int) (ds : List Int) (rs : List (Ty.den retT)) (j : Nat) (s : Int) (d2 : List Int) (m i : Int) (b : List Int) (h : pre_to0 c ds rs j s d2 m i b) : SemL Try.prog Γ (lp 16 0) (st_to0 c ds rs j s d2 m i b) (rs_to0 c ds rs j s d2 m i b).1.to (rs_to0 c ds rs j s d2 m i b).2 := by
 obtain ⟨rfl, rfl, rfl, rfl, hc, hd⟩ := h
 refine SemL.scan d2.length 0 (Nat.zero_le _) (fun i => st_to0 c d2 rs j (d2.take i).sum d2 d2.length (i : Nat) b) (fun _ => true) _ ?_ ?_ ?_
 · intro i _ hi hb hp
   refine rn_to0_c c d2 rs j _ d2 d2.length i b (e := .normal) ?_
   rw [rn_to0_eq, wrap_succ hi hc, decide_eq_true (by omega : (i : Int) < d2.length), decide_eq_true (by omega : (0 : Int) ≤ (i : Int) ∧ (i : Int) < d2.length), Int.toNat_natCast, to0_sum hd hi hc]
   rfl
 · intro i _ hi hb hp
   cases hp
 · intro hb
   unfold rs_to0
   refine ⟨by simp [Ex.to], rn_to0_c c d2 rs j _ d2 d2.length d2.length b (e := .exit 0) ?_⟩
   rw [rn_to0_eq, decide_eq_false (by omega), List.take_length]
   rfl
def addL (b v : List Int) : List Int := List.zipWith (· + ·) b v
def addI (b v : List Int) (i : Nat) : List Int := List.zipWith (· + ·) (b.take i) (v.take i) ++ b.drop i
theorem addI_len {b v : List Int} {i : Nat} (hi : i ≤ b.length) (hl : v.length = b.length) : (addI b v i).length = b.length := by
 simp [addI]; omega
theorem addI_at {b v : List Int} {i : Nat} (hi : i < b.length) (hl : v.length = b.length) : (addI b v i).getD i 0 = b.getD i 0 := by
 have h1 : (List.zipWith (· + ·) (b.take i) (v.take i)).length = i := by simp; omega
 simp only [addI, List.getD]
 rw [List.getElem?_append_right (by omega), h1]
 simp
theorem addI_next {b v : List Int} {i : Nat} (hi : i < b.length) (hl : v.length = b.length) : (addI b v i).set i (b.getD i 0 + v.getD i 0) = addI b v (i + 1) := by
 have h1 : (List.zipWith (· + ·) (b.take i) (v.take i)).length = i := by simp; omega
 simp only [addI]
 rw [List.set_append_right _ _ (by omega), h1, Nat.sub_self, List.drop_eq_getElem_cons hi, List.set_cons_zero, take_snoc 0 hi, take_snoc 0 (by omega : i < v.length), List.zipWith_append (by simp; omega), List.append_assoc]
 rfl
theorem addI_all {b v : List Int} (hl : v.length = b.length) : addI b v v.length = addL b v := by
 simp only [addI, addL, List.take_length, hl, List.drop_length, List.append_nil]
 rw [← hl, List.take_length]
abbrev pre_to2 (j : Nat) (s : Int) (l : List (Ty.den retT)) (n k : Int) (v : List Int) (m i : Int) (b : List Int) : Prop := m = (v.length : Int) ∧ i = 0 ∧ j = b.length ∧ v.length = b.length ∧ v.length ≤ 1000 ∧ (-1000000000000 ≤ s ∧ s ≤ 1000000000000) ∧ (∀ x ∈ v, 0 ≤ x ∧ x ≤ 100000) ∧ (∀ x ∈ b, 0 ≤ x ∧ x ≤ 1000000000000)
def rs_to2 (j : Nat) (s : Int) (l : List (Ty.den retT)) (n k : Int) (v : List Int) (m i : Int) (b : List Int) : Ex × St := (.exit 4, St.of 61 (lve_to2 (.exit 4)) [.bs true 0 0 b.length, .si .i64 (s - v.sum), .slst .ro retT l, .si .i64 n, .si .i64 k] [] [some (.live (.arr ity (addL b v)))] hp_to2.kh hp_to2.kt)
def res_to2 (j : Nat) (s : Int) (l : List (Ty.den retT)) (n k : Int) (v : List Int) (m i : Int) (b : List Int) : Tr (Ex × St) := .br (decide (pre_to2 j s l n k v m i b)) (.leaf (some (.exit 4, St.of 61 (lve_to2 (.exit 4)) [.bs true 0 0 b.length, .si .i64 (s - v.sum), .slst .ro retT l, .si .i64 n, .si .i64 k] [] [some (.live (.arr ity (addL b v)))] hp_to2.kh hp_to2.kt))) (.leaf none)
def ent_to2 : LEnt := LEnt.by hp_to2 fun ⟨(j, s, l, n, k, v, m, i, _), _, (b, _)⟩ => res_to2 j s l n k v m i b
theorem ent_to2_ok (hgo : ∀ (j : Nat) (s : Int) (l : List (Ty.den retT)) (n k : Int) (v : List Int) (m i : Int) (b : List Int), pre_to2 j s l n k v m i b → SemL Try.prog Γ (lp 16 2) (st_to2 j s l n k v m i b) (rs_to2 j s l n k v m i b).1.to (rs_to2 j s l n k v m i b).2) : EntOk Try.prog Γ (lp 16 2) ent_to2 := LEnt.by_ok fun ⟨(j, s, l, n, k, v, m, i, _), _, (b, _)⟩ _ _ h_ => SemL.br (out := rs_to2 j s l n k v m i b) rfl (hgo j s l n k v m i b) h_
theorem to2_go (j : Nat) (s : Int) (l : List (Ty.den retT)) (n k : Int) (v : List Int) (m i : Int) (b : List Int) (h : pre_to2 j s l n k v m i b) : SemL Try.prog Γ (lp 16 2) (st_to2 j s l n k v m i b) (rs_to2 j s l n k v m i b).1.to (rs_to2 j s l n k v m i b).2 := by
 obtain ⟨rfl, rfl, rfl, hl, hc, ⟨s1, s2⟩, hv, hb⟩ := h
 suffices key : SemL Try.prog Γ (lp 16 2) (st_to2 b.length (s - (v.take 0).sum) l n k v v.length ((0 : Nat) : Int) (addI b v 0)) (rs_to2 b.length s l n k v v.length 0 b).1.to (rs_to2 b.length s l n k v v.length 0 b).2 by
  rw [show s - (v.take 0).sum = s by simp, show addI b v 0 = b by simp [addI]] at key
  exact key
 refine SemL.scan v.length 0 (Nat.zero_le _) (fun i => st_to2 b.length (s - (v.take i).sum) l n k v v.length (i : Nat) (addI b v i)) (fun _ => true) _ ?_ ?_ ?_
 · intro i _ hi _ _
   have hib : i < b.length := by omega
   refine rn_to2_c b.length _ l n k v v.length i _ (e := .normal) ?_
   have hs := sum_bound (l := v.take i) (fun x hx => hv x (List.mem_of_mem_take hx))
   have hx := hv _ (getD_mem 0 hi)
   have hbx := hb _ (getD_mem 0 hib)
   have hl2 : ((v.take i).length : Int) ≤ 1000 := by simp only [List.length_take]; omega
   rw [rn_to2_eq, wrap_succ hi (by omega), decide_eq_true (by omega : (i : Int) < v.length), decide_eq_true (by omega : (0 : Int) ≤ (i : Int) ∧ (i : Int) < v.length), decide_eq_true (by omega : (0 : Int) ≤ (i : Int) ∧ (i : Int) < b.length), Int.toNat_natCast, Nat.zero_add,
    decide_eq_true (by rw [addI_len (by omega) hl]; omega : i < (addI b v i).length), addI_at hib hl, wrap_in (n := b.getD i 0 + v.getD i 0) (by omega) (by omega), addI_next hib hl, wrap_in (n := s - (v.take i).sum - v.getD i 0) (by omega) (by omega), sum_take hi]
   simp only [cond_true]
   rw [show s - (v.take i).sum - v.getD i 0 = s - ((v.take i).sum + v.getD i 0) by omega]
   rfl
 · intro i _ hi _ hp
   cases hp
 · intro _
   unfold rs_to2
   refine ⟨by simp [Ex.to], rn_to2_c b.length _ l n k v v.length v.length _ (e := .exit 4) ?_⟩
   rw [rn_to2_eq, decide_eq_false (by omega), List.take_length, addI_all hl]
   rfl
def lo5 : LOrc := (LOrc.add (LOrc.add lo4 16 0 ent_to0) 16 2 ent_to2)
theorem lo5_ok : LOrcOk Try.prog Γ lo5 := (LOrcOk.add (LOrcOk.add lo4_ok 16 0 Try.func16 bd_to0 le_to0 (ent_to0_ok to0_go)) 16 2 Try.func16 bd_to2 le_to2 (ent_to2_ok to2_go))
noncomputable def cfg6 : Cfg := cfgO o42 lo5
theorem cfg6_ok : CfgOk Try.prog Γ cfg6 := cfgO_ok o42_ok lo5_ok
def hp_to1 : HP := { n := 61, lv := [5, 6, 33, 34, 35], sp := [.bz 0, .ty ity, .ty (.slice retT), .ty ity, .ty ity], op := [], bp := [.arr ity] }
def lve_to1 : Ex → List Nat
 | .normal => [5, 6, 33, 34, 35]
 | .exit 2 => [5, 6]
 | _ => []
theorem bd_to1 : Try.f16.body = some (root 16) := by kernel_rfl
theorem le_to1 : (loops (root 16))[1]? = some (lp 16 1) := by kernel_rfl
theorem li_to1 : Lies (root 16) 2 (lp 16 1) := Lies.of_take (n := 1) (by kernel_rfl)
def st_to1 (j : Nat) (s : Int) (l : List (Ty.den retT)) (n k : Int) (b : List Int) : St := hp_to1.st ⟨(j, s, l, n, k, ()), (), (b, ())⟩
noncomputable def rn_to1 (j : Nat) (s : Int) (l : List (Ty.den retT)) (n k : Int) (b : List Int) := outa lve_to1 (evCK Try.prog Γ (cfM Try.prog Γ cfg6 30) (cfg6.lo 16) [] 60 2 (lp 16 1) (st_to1 j s l n k b))
theorem rn_to1_eq (j : Nat) (s : Int) (l : List (Ty.den retT)) (n k : Int) (b : List Int) : (rn_to1 j s l n k b).run = (bif decide (k < n) then (bif decide ((0 : Int) ≤ k ∧ k < (l.length : Int)) then (bif decide (pre_to2 j s l n k (rV (l.getD k.toNat retT.dflt)) (Nat.cast ((List.length (rV (l.getD k.toNat retT.dflt)))) : Int) (0 : Int) b) then (some ((Ex.normal, [V.bs true 0 0 (List.length b), V.si .i64 (s - List.sum (rV (l.getD k.toNat retT.dflt))), V.slst .ro retT l, V.si .i64 n, V.si .i64 (IntKind.i64.wrap (k + (1 : Int)))], [], [some (Bf.live (.arr ity (addL b (rV (l.getD k.toNat retT.dflt)))))], 61, 0, 0))) else none) else none) else (some ((Ex.exit 2, [V.bs true 0 0 j, V.si .i64 s], [], [some (Bf.live (.arr ity b))], 61, 0, 0)))) := by kernel_rfl
theorem rn_to1_c (j : Nat) (s : Int) (l : List (Ty.den retT)) (n k : Int) (b : List Int) {e : Ex} {vs : List V} {ob : Ob} {nm : Nm} {n' kh kt : Nat} (h : (rn_to1 j s l n k b).run = some (e, vs, ob, nm, n', kh, kt)) : SemC Try.prog Γ (lp 16 1) (st_to1 j s l n k b) e.to (St.of n' (lve_to1 e) vs ob nm kh kt) := SemC.of_evM cfg6_ok Try.func16 bd_to1 li_to1 h
end T
end Go.Proofs.Ytofbchcclkejgaa

/- Package tally: contracts of Valid, Totals. -/
set_option linter.unusedVariables false
set_option linter.unusedSimpArgs false
set_option maxRecDepth 100000
set_option maxHeartbeats 4000000
namespace Go.Proofs.Ytofbchcclkejgaa
open Go
namespace T
def validT (c : Int) (ds : List Int) (rs : List (Ty.den retT)) : Bool := validC c ds && validR c ds rs
theorem validC_iff {c : Int} {ds : List Int} : validC c ds = true ↔ (2 ≤ c ∧ c ≤ 4) ∧ (1 ≤ ds.length ∧ ds.length ≤ 12) ∧ ∀ x ∈ ds, 0 ≤ x ∧ x ≤ 100000 := by
 simp only [validC, Bool.and_eq_true, decide_eq_true_eq, List.all_eq_true, okV_iff]
theorem properD_iff {c : Int} {ds : List Int} {d n : Int} {v : List Int} : properD c ds d n v = true ↔ (0 ≤ d ∧ d < (ds.length : Int)) ∧ (1 ≤ n ∧ n ≤ 1000) ∧ (v.length : Int) = c ∧ (∀ x ∈ v, 0 ≤ x ∧ x ≤ 100000) ∧ v.sum ≤ ds.getD d.toNat 0 := by
 simp only [properD, Bool.and_eq_true, decide_eq_true_eq, List.all_eq_true, okV_iff]
theorem validR_iff {c : Int} {ds : List Int} {rs : List (Ty.den retT)} : validR c ds rs = true ↔ (∀ r ∈ rs, prR c ds r = true) ∧ ∀ i, 0 < i → i < rs.length → rD (rs.getD (i - 1) retT.dflt) < rD (rs.getD i retT.dflt) := by
 unfold validR
 rw [allI_true]
 unfold vaR
 simp only [Bool.and_eq_true, decide_eq_true_eq]
 constructor
 · intro h
   refine ⟨fun r hr => ?_, fun i h0 hi => (h i hi).2 h0⟩
   obtain ⟨i, hi, rfl⟩ := List.getElem_of_mem hr
   have := (h i hi).1
   simpa [List.getD, hi] using this
 · intro h i hi
   exact ⟨h.1 _ (getD_mem _ hi), fun h0 => h.2 i h0 hi⟩
theorem c22_ok (c : Int) (ds : List Int) (rs : List (Ty.den retT)) (h : szR rs) : SemF Try.prog Γ 22 [.agg [.si .i64 c, .slst .ro ity ds, .slst .ro retT rs]] [] [] (.sb (validT c ds rs)) [] [] :=
 of_runL cfg5_ok (c22_run c ds rs) (by
  cases hc : validC c ds with
  | false => rfl
  | true =>
   have hl := (validC_iff.1 hc).2.1
   rw [decide_eq_true (show pre_va c ds rs rs (Nat.cast rs.length : Int) 0 from ⟨rfl, rfl, rfl, by omega, h⟩)]
   rfl) (by unfold validT; cases validC c ds <;> cases validR c ds rs <;> rfl)
noncomputable def gg_o22 (c : Int) (ds : List Int) (rs : List (Ty.den retT)) : Option Bool × V := (some (decide (szR rs)), .sb (validT c ds rs))
theorem gg_o22_c (c : Int) (ds : List Int) (rs : List (Ty.den retT)) (h : (gg_o22 c ds rs).1.getD true = true) : szR rs := of_decide_eq_true h
noncomputable def o22 : Orc := fun f args => if f = 22 then (Ty.ofVs [talT] args).map (fun x => gg_o22 x.1.1.1 x.1.1.2.1 x.1.2.1) else o42 f args
theorem o22_ok : OrcOk Try.prog Γ o22 := o42_ok.plain 22 [talT] (fun x => gg_o22 x.1.1.1 x.1.1.2.1 x.1.2.1) Try.f22 Try.func22 rfl (by kernel_rfl) (fun x h => c22_ok x.1.1.1 x.1.1.2.1 x.1.2.1 (gg_o22_c x.1.1.1 x.1.1.2.1 x.1.2.1 h))
def totB (rs : List (Ty.den retT)) (b : List Int) : List Int := rs.foldl (fun b r => addL b (rV r)) b
def sumV (rs : List (Ty.den retT)) : Int := (rs.map fun r => (rV r).sum).sum
theorem totB_take {rs : List (Ty.den retT)} {b : List Int} {i : Nat} (hi : i < rs.length) : totB (rs.take (i + 1)) b = addL (totB (rs.take i) b) (rV (rs.getD i retT.dflt)) := by
 rw [take_snoc retT.dflt hi, totB, List.foldl_append]; rfl
theorem sumV_take {rs : List (Ty.den retT)} {i : Nat} (hi : i < rs.length) : sumV (rs.take (i + 1)) = sumV (rs.take i) + (rV (rs.getD i retT.dflt)).sum := by
 rw [take_snoc retT.dflt hi, sumV, List.map_append, List.sum_append]
 show _ + ([(rV (rs.getD i retT.dflt)).sum] : List Int).sum = _
 simp [sumV]
theorem addL_len {b v : List Int} (h : v.length = b.length) : (addL b v).length = b.length := by simp [addL]; omega
theorem addL_mem {b v : List Int} {x : Int} (h : x ∈ addL b v) : ∃ y z, y ∈ b ∧ z ∈ v ∧ x = y + z := by
 unfold addL at h
 obtain ⟨i, hi, rfl⟩ := List.getElem_of_mem h
 simp only [List.length_zipWith] at hi
 exact ⟨b[i]'(by omega), v[i]'(by omega), List.getElem_mem _, List.getElem_mem _, by simp⟩
theorem totB_ok {rs : List (Ty.den retT)} {b : List Int} (h : ∀ r ∈ rs, (rV r).length = b.length ∧ ∀ x ∈ rV r, 0 ≤ x ∧ x ≤ 100000) (hb : ∀ x ∈ b, x = 0) : ∀ i, i ≤ rs.length → (totB (rs.take i) b).length = b.length ∧ ∀ x ∈ totB (rs.take i) b, 0 ≤ x ∧ x ≤ 100000 * (i : Int)
 | 0, _ => by
  refine ⟨rfl, fun x hx => ?_⟩
  have : x ∈ b := hx
  have := hb x this
  omega
 | i + 1, hi => by
  obtain ⟨h1, h2⟩ := totB_ok h hb i (by omega)
  obtain ⟨g1, g2⟩ := h _ (getD_mem retT.dflt (show i < rs.length by omega))
  rw [totB_take (by omega)]
  refine ⟨by rw [addL_len (by omega), h1], fun x hx => ?_⟩
  obtain ⟨y, z, hy, hz, rfl⟩ := addL_mem hx
  have := h2 y hy
  have := g2 z hz
  omega
theorem sumV_ok {rs : List (Ty.den retT)} {n : Nat} (hn : n ≤ 1000) (h : ∀ r ∈ rs, (rV r).length = n ∧ ∀ x ∈ rV r, 0 ≤ x ∧ x ≤ 100000) : ∀ i, i ≤ rs.length → 0 ≤ sumV (rs.take i) ∧ sumV (rs.take i) ≤ 100000000 * (i : Int)
 | 0, _ => by simp [sumV]
 | i + 1, hi => by
  have ih := sumV_ok hn h i (by omega)
  obtain ⟨g1, g2⟩ := h _ (getD_mem retT.dflt (show i < rs.length by omega))
  rw [sumV_take (by omega)]
  have := sum_bound g2
  rw [g1] at this
  omega
abbrev okR (n : Nat) (rs : List (Ty.den retT)) : Prop := ∀ r ∈ rs, (rV r).length = n ∧ ∀ x ∈ rV r, 0 ≤ x ∧ x ≤ 100000
abbrev pre_to1 (j : Nat) (s : Int) (l : List (Ty.den retT)) (n k : Int) (b : List Int) : Prop := n = (l.length : Int) ∧ k = 0 ∧ j = b.length ∧ b.length ≤ 1000 ∧ l.length ≤ 1000 ∧ (-100000000000 ≤ s ∧ s ≤ 100000000000) ∧ okR b.length l ∧ (∀ x ∈ b, x = 0)
def rs_to1 (j : Nat) (s : Int) (l : List (Ty.den retT)) (n k : Int) (b : List Int) : Ex × St := (.exit 2, St.of 61 (lve_to1 (.exit 2)) [.bs true 0 0 b.length, .si .i64 (s - sumV l)] [] [some (.live (.arr ity (totB l b)))] hp_to1.kh hp_to1.kt)
def res_to1 (j : Nat) (s : Int) (l : List (Ty.den retT)) (n k : Int) (b : List Int) : Tr (Ex × St) := .br (decide (pre_to1 j s l n k b)) (.leaf (some (.exit 2, St.of 61 (lve_to1 (.exit 2)) [.bs true 0 0 b.length, .si .i64 (s - sumV l)] [] [some (.live (.arr ity (totB l b)))] hp_to1.kh hp_to1.kt))) (.leaf none)
def ent_to1 : LEnt := LEnt.by hp_to1 fun ⟨(j, s, l, n, k, _), _, (b, _)⟩ => res_to1 j s l n k b
theorem ent_to1_ok (hgo : ∀ (j : Nat) (s : Int) (l : List (Ty.den retT)) (n k : Int) (b : List Int), pre_to1 j s l n k b → SemL Try.prog Γ (lp 16 1) (st_to1 j s l n k b) (rs_to1 j s l n k b).1.to (rs_to1 j s l n k b).2) : EntOk Try.prog Γ (lp 16 1) ent_to1 := LEnt.by_ok fun ⟨(j, s, l, n, k, _), _, (b, _)⟩ _ _ h_ => SemL.br (out := rs_to1 j s l n k b) rfl (hgo j s l n k b) h_
theorem to1_go (j : Nat) (s : Int) (l : List (Ty.den retT)) (n k : Int) (b : List Int) (h : pre_to1 j s l n k b) : SemL Try.prog Γ (lp 16 1) (st_to1 j s l n k b) (rs_to1 j s l n k b).1.to (rs_to1 j s l n k b).2 := by
 obtain ⟨rfl, rfl, rfl, hb1, hl1, ⟨s1, s2⟩, hok, hb⟩ := h
 suffices key : SemL Try.prog Γ (lp 16 1) (st_to1 (totB (l.take 0) b).length (s - sumV (l.take 0)) l l.length ((0 : Nat) : Int) (totB (l.take 0) b)) (rs_to1 b.length s l l.length 0 b).1.to (rs_to1 b.length s l l.length 0 b).2 by
  rw [show s - sumV (l.take 0) = s by simp [sumV]] at key
  exact key
 refine SemL.scan l.length 0 (Nat.zero_le _) (fun i => st_to1 (totB (l.take i) b).length (s - sumV (l.take i)) l l.length (i : Nat) (totB (l.take i) b)) (fun _ => true) _ ?_ ?_ ?_
 · intro i _ hi _ _
   refine rn_to1_c _ _ l l.length i _ (e := .normal) ?_
   obtain ⟨g1, g2⟩ := totB_ok hok hb i (by omega)
   obtain ⟨q1, q2⟩ := sumV_ok hb1 hok i (by omega)
   obtain ⟨k1, k2⟩ := hok _ (getD_mem retT.dflt hi)
   have hp : pre_to2 (totB (l.take i) b).length (s - sumV (l.take i)) l (l.length : Int) (i : Int) (rV (l.getD i retT.dflt)) ((rV (l.getD i retT.dflt)).length : Int) 0 (totB (l.take i) b) :=
    ⟨rfl, rfl, rfl, by omega, by omega, ⟨by omega, by omega⟩, k2, fun x hx => ⟨(g2 x hx).1, by have := (g2 x hx).2; omega⟩⟩
   rw [rn_to1_eq, wrap_succ hi (by omega), decide_eq_true (by omega : (i : Int) < l.length), decide_eq_true (by omega : (0 : Int) ≤ (i : Int) ∧ (i : Int) < l.length), Int.toNat_natCast, decide_eq_true hp, totB_take hi, sumV_take hi]
   rw [show s - sumV (l.take i) - (rV (l.getD i retT.dflt)).sum = s - (sumV (l.take i) + (rV (l.getD i retT.dflt)).sum) by omega, addL_len (by omega)]
   rfl
 · intro i _ hi _ hp
   cases hp
 · intro _
   unfold rs_to1
   obtain ⟨g1, g2⟩ := totB_ok hok hb l.length (by omega)
   refine ⟨by simp [Ex.to], rn_to1_c _ _ l l.length l.length _ (e := .exit 2) ?_⟩
   rw [rn_to1_eq, decide_eq_false (by omega), List.take_length]
   rw [List.take_length] at g1
   simp only [cond_false]
   rw [g1]
   rfl
def lo6 : LOrc := (LOrc.add lo5 16 1 ent_to1)
theorem lo6_ok : LOrcOk Try.prog Γ lo6 := (LOrcOk.add lo5_ok 16 1 Try.func16 bd_to1 le_to1 (ent_to1_ok to1_go))
noncomputable def cfg7 : Cfg := cfgO o22 lo6
theorem cfg7_ok : CfgOk Try.prog Γ cfg7 := cfgO_ok o22_ok lo6_ok
theorem c16_run (c : Int) (ds : List Int) (rs : List (Ty.den retT)) : runL cfg7 16 [.agg [.si .i64 c, .slst .ro ity ds, .slst .ro retT rs]] = .ok (some (decide (szR rs) && (!validT c ds rs || decide ((0 : Int) ≤ c ∧ c ≤ c ∧ (8 : Int) * c ≤ (281474976710656 : Int) ∧ c ≤ (9223372036854775807 : Int)) && (decide (pre_to0 c ds rs c.toNat (0 : Int) ds (ds.length : Int) (0 : Int) (List.replicate c.toNat (0 : Int))) && decide (pre_to1 c.toNat ds.sum rs (rs.length : Int) (0 : Int) (List.replicate c.toNat (0 : Int))))))) (V.tup [V.slst .ro ity (bif !validT c ds rs then [] else List.take (List.replicate c.toNat (0 : Int)).length (List.drop (0) (totB rs (List.replicate c.toNat (0 : Int))))), V.si .i64 (bif !validT c ds rs then (0 : Int) else ds.sum - sumV rs), V.si .i64 (bif !validT c ds rs then (270 : Int) else (0 : Int))]) := by kernel_rfl
end T
end Go.Proofs.Ytofbchcclkejgaa

/- Slots that say less: a known truth value, or number, as any one. -/
set_option linter.unusedVariables false
namespace Go.Proofs.Ytofbchcclkejgaa
open Go
inductive VLe : V → V → Prop
 | rfl (v : V) : VLe v v
 | b (x : Bool) : VLe (.b x) (.sb x)
 | i (k : IntKind) (n : Int) : VLe (.i k n) (.si k n)
inductive VLes : List V → List V → Prop
 | nil : VLes [] []
 | cons {v v' : V} {l l' : List V} (h : VLe v v') (t : VLes l l') : VLes (v :: l) (v' :: l')
end Go.Proofs.Ytofbchcclkejgaa

/- Ranges over functions that may be left early: yield is told by its loop. -/
set_option linter.unusedVariables false
set_option linter.unusedSimpArgs false
namespace Go.Proofs.Ytofbchcclkejgaa
open Go
structure YAt (G : Gh) (l : Nat) (r : Loop) (tm : List V) : Prop where
 d : G.D l = some (.loop r)
 s : r.state = .ready
 p : r.pending = none
 t : Rels G tm r.tmps.toList
 o : ∀ o ∈ V.refsL tm, o < G.kh
 n : ∀ n ∈ V.nrefsL tm, n < G.kt
theorem YAt.leW {G G' : Gh} {l : Nat} {r : Loop} {tm : List V} (h : YAt G l r tm) (k : G.leW G') : YAt G' l r tm :=
 ⟨k.d _ _ h.d, h.s, h.p, h.t.byRefs k.m k.d (fun o ho b hb => k.h o b (h.o o ho) hb) (fun n hn x hx => k.t n x (h.n n hn) hx), fun o ho => by rw [k.kh]; exact h.o o ho, fun n hn => by rw [k.kt]; exact h.n n hn⟩
def Gh.brk (G : Gh) (q : Option Loop) (l : Nat) : Gh := match q with | none => G | some r => G.setD l (.loop r)
theorem brk_leW {G G1 : Gh} {q : Option Loop} {l : Nat} (h : G.leW G1) : (G.brk q l).leW (G1.brk q l) := by
 cases q with
 | none => exact h
 | some r => exact ⟨h.m, h.h, h.t, fun k o hk => by
  have hk : (if k = l then some (Obj.loop r) else G.D k) = some o := hk
  show (if k = l then some (Obj.loop r) else G1.D k) = some o
  split at hk
  · rename_i e; rw [if_pos e]; exact hk
  · rename_i e; rw [if_neg e]; exact h.d _ _ hk, h.kh, h.kt, h.w0, h.m0, h.kd⟩
theorem RoOk.brk {G : Gh} {ro : Option Nat} (h : RoOk G ro) (q : Option Loop) (l : Nat) : RoOk (G.brk q l) ro := by
 cases q with
 | none => exact h
 | some r =>
  intro l' e
  obtain ⟨r', hr'⟩ := h l' e
  by_cases hk : l' = l
  · exact ⟨r, by show (if l' = l then some (Obj.loop r) else G.D l') = _; rw [if_pos hk]⟩
  · exact ⟨r', by show (if l' = l then some (Obj.loop r) else G.D l') = _; rw [if_neg hk]; exact hr'⟩
section
variable {P : Program} {Γ : Nat → Option V} {G : Gh} {ob ob' : Ob} {nm nm' : Nm} {w : World} {σ σ1 σ2 : St} {x : Exit} {l : Nat} {r : Loop} {tm : List V} {q : Option Loop} {cf : CallF} {ops : Array Oper} {base : Nat}
def SemY (P : Program) (Γ : Nat → Option V) (l : Nat) (r : Loop) (tm : List V) (q : Option Loop) (c : Code) (σ : St) (x : Exit) (σ' : St) : Prop :=
 ∀ (ro : Option Nat) G a w, Rel Γ G σ a w → RoOk G ro → YAt G l r tm → c.wpIn (wideR ro) 0 P (fun e a' w' => e = x ∧ ∃ G', (G.brk q l).leW G' ∧ Rel Γ G' σ' a' w') a w
theorem SemY.of {c : Code} (h : SemC P Γ c σ x σ1) : SemY P Γ l r tm none c σ x σ1 := fun ro G a w hr ho _ => h ro G a w hr ho
theorem SemY.seq {c d : Code} (h : SemY P Γ l r tm none c σ .normal σ1) (k : SemY P Γ l r tm q d σ1 x σ2) : SemY P Γ l r tm q (.seq c d) σ x σ2 := by
 intro ro G a w hr ho hy
 refine wpIn_seq (wpIn_mono (h ro G a w hr ho hy) ?_)
 rintro e a' w' ⟨rfl, G1, h1, r1⟩
 refine wpIn_mono (k ro G1 a' w' r1 (ho.leW h1) (hy.leW h1)) ?_
 rintro e a'' w'' ⟨rfl, G2, h2, r2⟩
 exact ⟨rfl, G2, (brk_leW h1).trans h2, r2⟩
theorem SemY.seqC {c d : Code} (h : SemY P Γ l r tm q c σ .normal σ1) (k : SemC P Γ d σ1 x σ2) : SemY P Γ l r tm q (.seq c d) σ x σ2 := by
 intro ro G a w hr ho hy
 refine wpIn_seq (wpIn_mono (h ro G a w hr ho hy) ?_)
 rintro e a' w' ⟨rfl, G1, h1, r1⟩
 refine wpIn_mono (k ro G1 a' w' r1 ((ho.brk q l).leW h1)) ?_
 rintro e a'' w'' ⟨rfl, G2, h2, r2⟩
 exact ⟨rfl, G2, h1.trans h2, r2⟩
theorem SemY.seq_out {c d : Code} (hx : x ≠ .normal) (h : SemY P Γ l r tm q c σ x σ1) : SemY P Γ l r tm q (.seq c d) σ x σ1 := by
 intro ro G a w hr ho hy
 refine wpIn_seq (wpIn_mono (h ro G a w hr ho hy) ?_)
 rintro e a' w' ⟨rfl, G1, h1, r1⟩
 cases e <;> first | exact absurd rfl hx | exact ⟨rfl, G1, h1, r1⟩
theorem SemY.block {id : Nat} {c : Code} (hx : x ≠ .exit id) (h : SemY P Γ l r tm q c σ x σ1) : SemY P Γ l r tm q (.block id c) σ x σ1 := by
 intro ro G a w hr ho hy
 refine wpIn_block (wpIn_mono (h ro G a w hr ho hy) ?_)
 rintro e a' w' ⟨rfl, G1, h1, r1⟩
 cases e with
 | exit i =>
  have : i ≠ id := fun hh => hx (by rw [hh])
  simp only [Exit.inBlock, this, if_false]
  exact ⟨trivial, G1, h1, r1⟩
 | _ => exact ⟨rfl, G1, h1, r1⟩
theorem SemY.block_exit {id : Nat} {c : Code} (h : SemY P Γ l r tm q c σ (.exit id) σ1) : SemY P Γ l r tm q (.block id c) σ .normal σ1 := by
 intro ro G a w hr ho hy
 refine wpIn_block (wpIn_mono (h ro G a w hr ho hy) ?_)
 rintro e a' w' ⟨rfl, G1, h1, r1⟩
 simp only [Exit.inBlock, if_true]
 exact ⟨trivial, G1, h1, r1⟩
theorem SemY.post {c : Code} {y y' : St} (h : SemY P Γ l r tm q c σ x y) (i : St.imp Γ y y') : SemY P Γ l r tm q c σ x y' := fun ro G a w hr ho hy => by
 refine wpIn_mono (h ro G a w hr ho hy) ?_
 rintro e a' w' ⟨rfl, G1, h1, r1⟩
 exact ⟨rfl, G1, h1, i _ _ _ r1⟩
theorem SemY.ren {c : Code} {n : Nat} {po pn lv : List Nat} {vs : List V} {y : St} (h : SemY P Γ l r tm q c σ x y) (hn : y.tm.length = n) (hs : y.ren po pn lv = some (vs, ob, nm)) : SemY P Γ l r tm q c σ x (St.of n lv vs ob nm y.kh y.kt) := by
 intro ro G a w hr ho hy
 refine wpIn_mono (h ro G a w hr ho hy) ?_
 rintro e a' w' ⟨rfl, G1, h1, r1⟩
 exact ⟨rfl, r1.ren h1 hn hs⟩
def SemLY (P : Program) (Γ : Nat → Option V) (l : Nat) (r : Loop) (tm : List V) (q : Option Loop) (c : Code) (σ : St) (x : Exit) (σ' : St) : Prop :=
 ∃ n, ∀ (ro : Option Nat) G a w, Rel Γ G σ a w → RoOk G ro → YAt G l r tm → Code.roundsIn (wideR ro) 0 P c (fun e a' w' => e = x ∧ ∃ G', (G.brk q l).leW G' ∧ Rel Γ G' σ' a' w') n a w
theorem SemLY.next {c : Code} (h : SemY P Γ l r tm none c σ .normal σ1) (k : SemLY P Γ l r tm q c σ1 x σ2) : SemLY P Γ l r tm q c σ x σ2 := by
 obtain ⟨n, k⟩ := k
 refine ⟨n + 1, fun ro G a w hr ho hy => ?_⟩
 rw [roundsIn_succ]
 refine wpIn_mono (h ro G a w hr ho hy) ?_
 rintro e a' w' ⟨rfl, G1, h1, r1⟩
 refine rounds_mono ?_ n _ _ (k ro G1 a' w' r1 (ho.leW h1) (hy.leW h1))
 rintro e a'' w'' ⟨rfl, G2, h2, r2⟩
 exact ⟨rfl, G2, (brk_leW h1).trans h2, r2⟩
theorem SemLY.out {c : Code} (hx : x ≠ .normal) (h : SemY P Γ l r tm q c σ x σ1) : SemLY P Γ l r tm q c σ x σ1 := by
 refine ⟨1, fun ro G a w hr ho hy => ?_⟩
 rw [roundsIn_succ]
 refine wpIn_mono (h ro G a w hr ho hy) ?_
 rintro e a' w' ⟨rfl, G1, h1, r1⟩
 cases e <;> first | exact absurd rfl hx | exact ⟨rfl, G1, h1, r1⟩
theorem SemY.loop {c : Code} (h : SemLY P Γ l r tm q c σ x σ1) : SemY P Γ l r tm q (.loop c) σ x σ1 := by
 obtain ⟨n, h⟩ := h
 exact fun ro G a w hr ho hy => wpIn_loop_rounds n (h ro G a w hr ho hy)
theorem SemLY.count {b : Code} (emb : Nat → St) {k : Nat} {x : Exit} (hx : x ≠ .normal) (hs : ∀ i, i < k → SemY P Γ l r tm none b (emb i) .normal (emb (i + 1))) (he : SemY P Γ l r tm q b (emb k) x σ1) : SemLY P Γ l r tm q b (emb 0) x σ1 := by
  have key : ∀ n i, i + n = k → SemLY P Γ l r tm q b (emb i) x σ1 := by
    intro n
    induction n with
    | zero => intro i hi; have : i = k := by omega
              subst this; exact .out hx he
    | succ n ih => intro i hi; exact .next (hs i (by omega)) (ih (i + 1) (by omega))
  exact key k 0 (by omega)
def YStep (P : Program) (Γ : Nat → Option V) (l : Nat) (r : Loop) (tm : List V) (q : Option Loop) (vs : List V) (ob : Ob) (nm : Nm) (b : Bool) (ob' : Ob) (nm' : Nm) : Prop :=
 ∀ (G : Gh) (w : World) (cvs : List Value), WRel Γ G ob nm w → Rels G vs cvs → YAt G l r tm → YCalls P (.func (.yield l) #[] #[] :: cvs) w (fun e w' => ∃ G', e = .returned (.bool b) ∧ (G.brk q l).le G' ∧ WRel Γ G' ob' nm' w')
theorem YStep.of {vs : List V} {s1 s2 : St} {br : Bool} (hl : vs.length = r.params.size)
 (hA : SemC P Γ r.assign ⟨setPs r.params.toList vs tm, ob, nm, ob.length, nm.length⟩ .normal s1) (hY : s1.noY = true) (hB : SemC P Γ r.body s1 (if br then .ret else .normal) s2) :
 YStep P Γ l r tm (if br then some { r with state := .done, pending := some .ret } else none) vs ob nm (!br) s2.ob s2.nm := by
 intro G w rest hw hrs hy
 have hD := hy.d
 have s0 := hy.s
 have p0 := hy.p
 have hheap := (hw.dd _ _ hD).1
 refine ⟨l, rest, rfl, r.fn, _, r.assign, r.body, run_yield hheap (by rw [← hl]; simpa using hrs.1), ?_⟩
 refine roundIn_of_wpIn (F := Fence.wide) trivial ?_
 have htm : Rels G tm r.tmps.toList := hy.t
 have e0 : ((r.params.zip rest.toArray).foldl (fun tmps (x : Tmp × Value) => match x with | (t, a) => tmps.setIfInBounds t a) r.tmps) = (r.params.toList.zip rest).foldl (fun t p => t.setIfInBounds p.1 p.2) r.tmps := by
  rw [← Array.foldl_toList, Array.toList_zip]
 have hps := setPs_rels r.params.toList vs rest tm r.tmps hrs htm
 rw [← e0] at hps
 have hw0 := hw.reK ob.length nm.length
 refine wpIn_mono (hA (some l) ((G.reK ob.length nm.length).reB []) _ w ⟨(hps.mono' (G.reK_sub _ _)).mono' (Gh.reB_sub _ _), hw0.reB, .nil _ rfl, rfl, rfl⟩ (fun l' e => by cases e; exact ⟨r, hD⟩)) ?_
 rintro e a1 w1 ⟨rfl, G1, hle1, r1⟩
 have hD1 : G1.D l = some (.loop r) := hle1.d _ _ hD
 have hold : G1.w0.own l := (r1.wr.dd _ _ hD1).2 rfl
 have hb1 := run_beginRound (P := P) (r1.wr.dd _ _ hD1).1 s0
 refine ⟨_, hb1, ?_⟩
 simp only [St.noY, Bool.and_eq_true] at hY
 obtain ⟨hY1, hY2⟩ := hY
 have hw2 := r1.wr.putD (G2 := G1.setD l (.loop { r with state := .busy })) (o := .loop { r with state := .busy }) hD1 rfl rfl hold rfl (fun v hv cv h => VRel.noYD h (noYm_ob hY2 v hv)) (fun v hv cv h => VRel.noYD h (noYm_nm hY2 v hv))
 have htm1 : V.clL idP s1.tm = some s1.tm := by
  cases hc : V.clL idP s1.tm with
  | none => rw [hc] at hY1; cases hY1
  | some ys => rw [clL_id _ _ hc]
 have rel2 : Rel Γ (G1.setD l (.loop { r with state := .busy })) s1 a1 (w1.putObj l (.loop { r with state := .busy })) :=
  ⟨⟨r1.tm.1, fun j v cv a b => VRel.noYD (r1.tm.2 j v cv a b) (clL_id_mem htm1 v (List.mem_of_getElem? a))⟩, hw2, r1.df.elim fun ms ⟨hms, hdf⟩ => ⟨ms, hms, hdf.nd, fun d hd => by
   obtain ⟨D, e, q1, q2⟩ := hdf.at_ d hd
   refine ⟨D, e, q1, ?_⟩
   show (if D = l then _ else G1.D D) = _
   rw [if_neg (by rintro rfl; rw [hD1] at q2; cases q2)]
   exact q2⟩, r1.kh, r1.kt⟩
 have ro2 : RoOk (G1.setD l (.loop { r with state := .busy })) (some l) := fun l' e => by cases e; exact ⟨_, setD_new _ _ _⟩
 refine wpIn_mono (hB (some l) _ a1 _ rel2 ro2) ?_
 rintro e a2 w3 ⟨rfl, G2, hle2, r2⟩
 have hD2 : G2.D l = some (.loop { r with state := .busy }) := hle2.d _ _ (setD_new _ _ _)
 have fin : ∀ (q : Option Loop) (r' : Loop), (q = none → r' = r) → (∀ r0, q = some r0 → r' = r0) → (∃ G', (G.brk q l).le G' ∧ WRel Γ G' s2.ob s2.nm (w3.putObj l (.loop r'))) := by
  intro q r' hq1 hq2
  refine ⟨((G2.setD l (.loop r')).reK G.kh G.kt).reB G.w0.bd, ?_, ?_⟩
  · have hd : ∀ k o, (G.brk q l).D k = some o → (((G2.setD l (.loop r')).reK G.kh G.kt).reB G.w0.bd).D k = some o := fun k o h => by
     show (if k = l then some (Obj.loop r') else G2.D k) = _
     by_cases hk : k = l
     · rw [if_pos hk]
       subst hk
       cases q with
       | none => rw [hq1 rfl]; rw [← h]; exact hD.symm
       | some r0 =>
        rw [hq2 r0 rfl]
        have h : (if k = k then some (Obj.loop r0) else G.D k) = some o := h
        rw [if_pos rfl] at h
        exact h
     · rw [if_neg hk]
       have h : G.D k = some o := by
        cases q with
        | none => exact h
        | some r0 =>
         have h : (if k = l then some (Obj.loop r0) else G.D k) = some o := h
         rwa [if_neg hk] at h
       refine hle2.d _ _ ?_
       show (if k = l then _ else G1.D k) = _
       rw [if_neg hk]
       exact hle1.d _ _ h
    have hm : ∀ b off cv, G.M b off = some cv → G2.M b off = some cv := fun b off cv h => hle2.m b off cv (hle1.m b off cv h)
    have hh : ∀ o b, G.H o = some b → G2.H o = some b := fun o b h => by
     have hlt := (hw.hlt o b h).1
     have g1 := hle1.h o b hlt h
     exact hle2.h o b (by show o < G1.kh; rw [hle1.kh]; exact hlt) g1
    have ht : ∀ n x, G.T n = some x → G2.T n = some x := fun n x h => by
     have hlt := hw.tlt n x h
     have g1 := hle1.t n x hlt h
     exact hle2.t n x (by show n < G1.kt; rw [hle1.kt]; exact hlt) g1
    have e0 : { G2.w0 with bd := G.w0.bd } = G.w0 := by rw [hle2.w0]; show { G1.w0 with bd := G.w0.bd } = G.w0; rw [hle1.w0]; rfl
    have e1 : G2.M0 = G.M0 := hle2.m0.trans hle1.m0
    have e2 : G2.kd = G.kd := hle2.kd.trans hle1.kd
    cases q with
    | none => exact ⟨⟨hm, hh, ht, hd⟩, rfl, rfl, e0, e1, e2⟩
    | some r0 => exact ⟨⟨hm, hh, ht, hd⟩, rfl, rfl, e0, e1, e2⟩
  · have gd : ∀ {v : V} {cv : Value}, VRel G2 v cv → VRel (G2.setD l (.loop r')) v cv := fun h =>
     VRel.mono0 (G := G2) (G' := G2.setD l (.loop r')) (fun _ _ _ h => h) (fun _ _ h => h) (fun _ _ h => h) (fun l' q hq h => by
      show (if l' = l then _ else G2.D l') = _
      by_cases hk : l' = l
      · subst hk; rw [hD2] at h; cases h; cases hq
      · rw [if_neg hk]; exact h) (fun l' E n h => by
      show (if l' = l then _ else G2.D l') = _
      by_cases hk : l' = l
      · subst hk; rw [hD2] at h; cases h
      · rw [if_neg hk]; exact h) h
    exact (r2.wr.putD (o := .loop r') hD2 rfl rfl (by rw [hle2.w0]; exact hold) rfl (fun v _ cv h => gd h) (fun v _ cv h => gd h)).reK _ _ |>.reB
 cases br with
 | false =>
  have he := run_endRound (P := P) none (r2.wr.dd _ _ hD2).1
  simp only [Option.isNone_none, if_true] at he
  rw [rec_back s0 p0] at he
  obtain ⟨G', g1, g2⟩ := fin none r (fun _ => rfl) (fun _ h => by cases h)
  exact ⟨_, _, he, G', rfl, g1, g2⟩
 | true =>
  have he := run_endRound (P := P) (some .ret) (r2.wr.dd _ _ hD2).1
  obtain ⟨G', g1, g2⟩ := fin (some { r with state := .done, pending := some .ret }) _ (fun h => by cases h) (fun _ h => by cases h; rfl)
  exact ⟨_, _, he, G', rfl, g1, g2⟩
theorem chain_wp (hcf : CallsOk P Γ cf) (hfit : CallsFit cf) {ro : Option Nat} {Q : Exit → Act → World → Prop} {l2 : List Nat} : ∀ (n i : Nat) (x x' : St) (es : List (Option Eff)) (G : Gh) (a : Act) (w : World), Free ops base i x → chain P Γ cf ops base n i x = some (x', es) → Rel Γ G x a w →
 (∀ G' a' w', G.le G' → Rel Γ G' x' a' w' → wpOpsIn (wideR ro) 0 P ops Q l2 a' w') → wpOpsIn (wideR ro) 0 P ops Q (List.range' i n ++ l2) a w
 | 0, i, x, x', es, G, a, w, _, h, hr, k => by
  simp [chain] at h; obtain ⟨rfl, rfl⟩ := h
  simpa using k G a w (.refl G) hr
 | n + 1, i, x, x', es, G, a, w, hf, h, hr, k => by
  simp only [chain] at h
  split at h
  · cases h
  · rename_i x1 ef h1
    split at h
    · cases h
    · rename_i x2 es' h2
      cases h
      rw [List.range'_succ, List.cons_append, wpOpsIn_cons]
      refine stp_wp hcf hfit h1 (fun o ho hal => hf i o (Nat.le_refl _) ho hal) hr _ _ ?_
      intro G1 a1 w1 hle1 r1
      exact chain_wp hcf hfit n (i + 1) x1 x' es' G1 a1 w1 (hf.next hfit h1) h2 r1 (fun G' a' w' hl hr' => k G' a' w' (hle1.trans hl) hr')
theorem SemY.call (hcf : CallsOk P Γ cf) (hfit : CallsFit cf) {id k m : Nat} {x1 x2 : St} {es es2 : List (Option Eff)} {o : Oper} {c : Call} {xx : Operand} {b : Bool}
 (hn : ops.size = k + (m + 1)) (hf : Free ops base 0 σ) (h1 : chain P Γ cf ops base k 0 σ = some (x1, es)) (ho : ops[k]? = some o) (hw : wantedV ops x1.tm o = some true) (hop : o.op = .call c) (hc : c.callee = .value xx) (hx : x1.eval Γ xx = .fn (.yield l) [] [])
 (hY : (V.clL idP x1.tm).isSome = true) (hs : YStep P Γ l r tm q (c.args.toList.map (x1.eval Γ)) x1.ob x1.nm b ob' nm') (hf2 : Free ops base (k + 1) ({ x1 with ob := ob', nm := nm' }.put o.dst (.b b)))
 (h2 : chain P Γ cf ops base m (k + 1) ({ x1 with ob := ob', nm := nm' }.put o.dst (.b b)) = some (x2, es2)) : SemY P Γ l r tm q (.region id ops false) σ .normal x2 := by
 intro ro G a w hr _ hy
 refine wpIn_region ?_
 rw [List.range_eq_range', hn, show List.range' 0 (k + (m + 1)) = List.range' 0 k ++ (k :: List.range' (k + 1) m) by
  rw [← List.range'_succ, ← List.range'_append_1]; simp]
 refine chain_wp hcf hfit k 0 σ x1 es G a w hf h1 hr ?_
 intro G1 a1 w1 hle1 r1
 have hy1 := hy.leW hle1.weak
 simp only [wpOpsIn, ho, wanted_of r1.tm hw, if_true]
 have hfx := r1.eval xx
 rw [hx] at hfx
 have r3 : Rels G1 (c.args.toList.map (x1.eval Γ)) (c.args.toList.map a1.eval) := by
  refine ⟨by simp, fun j v cv g1 g2 => ?_⟩
  simp only [List.getElem?_map, Option.map_eq_some_iff] at g1 g2
  obtain ⟨p, hp, rfl⟩ := g1
  obtain ⟨q, hq, rfl⟩ := g2
  rw [hp] at hq
  cases hq
  exact r1.eval p
 have e1 : a1.eval xx = .func (.yield l) #[] #[] := by
  generalize a1.eval xx = cx at hfx
  cases hfx with
  | @fn _ _ _ ca cc ha hcc k1 k2 =>
   have : ca = #[] := Array.eq_empty_of_size_eq_zero (by simpa using ha)
   subst this
   have : cc = #[] := Array.eq_empty_of_size_eq_zero (by simpa using hcc)
   subst this
   rfl
 obtain ⟨l', rest, e, fn, tmps, as', bd', g1, g2⟩ := hs G1 w1 _ r1.wr r3 hy1
 simp only [List.cons.injEq, Value.func.injEq, and_true] at e
 obtain ⟨e2, rfl⟩ := e
 have e2 : l = l' := by injection e2
 subst e2
 have e3 : (List.map a1.eval c.args.toList).toArray = c.args.map a1.eval := by apply Array.ext'; simp
 rw [e3] at g1
 refine ⟨fun _ _ => trivial, ?_⟩
 have hrun : (execOp a1.eval o).run P w1 = .ok (.round l fn tmps as' bd') w1 := by
  simp [execOp, hop, resolve, hc, e1, Deferred.ofValue, invoke, g1]
 rw [semAt_of hrun (fun _ h => by cases h)]
 refine ⟨depthR, RoundIn.mono (F := Fence.wide) (n := 0) g2 ?_⟩
 rintro e w' ⟨G2, rfl, hle2, hw2⟩
 have htm1 : V.clL idP x1.tm = some x1.tm := by
  cases hc : V.clL idP x1.tm with
  | none => rw [hc] at hY; cases hY
  | some ys => rw [clL_id _ _ hc]
 have hrb : Rels (G1.brk q l) x1.tm a1.tmps.toList := by
  cases q with
  | none => exact r1.tm
  | some r0 => exact ⟨r1.tm.1, fun j v cv a b => VRel.noYD (r1.tm.2 j v cv a b) (clL_id_mem htm1 v (List.mem_of_getElem? a))⟩
 have hkd : (G1.brk q l).kd = G1.kd ∧ (G1.brk q l).w0 = G1.w0 ∧ (G1.brk q l).kh = G1.kh ∧ (G1.brk q l).kt = G1.kt := by cases q <;> exact ⟨rfl, rfl, rfl, rfl⟩
 have hmk : Marks (G1.brk q l) a1.defers := by
  cases q with
  | none => exact r1.df
  | some r0 =>
   obtain ⟨ms, hms, hdf⟩ := r1.df
   refine ⟨ms, hms, hdf.nd, fun d hd => ?_⟩
   obtain ⟨D, e, q1, q2⟩ := hdf.at_ d hd
   refine ⟨D, e, q1, ?_⟩
   show (if D = l then _ else G1.D D) = _
   rw [if_neg (by rintro rfl; rw [hy1.d] at q2; cases q2)]
   exact q2
 have r0 : Rel Γ G2 { x1 with ob := ob', nm := nm' } a1 w' := ⟨hrb.mono hle2, hw2, hmk.mono hle2.d hle2.kd hle2.w0, hle2.kh.trans (hkd.2.2.1.trans r1.kh), hle2.kt.trans (hkd.2.2.2.trans r1.kt)⟩
 have hk2 := r0.put o.dst (VRel.b (G := G2) b)
 have hgo := chain_wp (Q := fun e a' w' => e = .normal ∧ ∃ G', (G.brk q l).leW G' ∧ Rel Γ G' x2 a' w') (ro := ro) (l2 := []) hcf hfit m (k + 1) _ x2 es2 G2 _ w' hf2 h2 hk2 (fun G' a' w'' hl hr' => ⟨rfl, G', ((brk_leW hle1.weak).trans hle2.weak).trans hl.weak, hr'⟩)
 simpa using hgo
def outY (lv : List Nat) (x : Option (St × List (Option Eff))) : Option (List V × Ob × Nm × Nat × Nat × Nat) :=
 match x with
 | some (y, _) => match y.ren (y.autoN lv).1 (y.autoN lv).2 lv with | some r => some (r.1, r.2.1, r.2.2, y.tm.length, y.kh, y.kt) | none => none
 | none => none
theorem free_of (h : (ops.toList.all fun o => !allocs o) = true) (i : Nat) (y : St) : Free ops base i y := fun j o _ ho hal => by
 have h1 := List.all_eq_true.1 h o (by rw [← Array.getElem?_toList] at ho; exact List.mem_of_getElem? ho)
 rw [hal] at h1
 cases h1
theorem SemY.callR (hcf : CallsOk P Γ cf) (hfit : CallsFit cf) {id k m : Nat} {x1 : St} {o : Oper} {c : Call} {xx : Operand} {b : Bool} {lv : List Nat} {vs : List V} {ob2 : Ob} {nm2 : Nm} {n kh kt : Nat}
 (hA : (ops.toList.all fun o => !allocs o) = true) (hn : ops.size = k + (m + 1)) (h1 : (chain P Γ cf ops 0 k 0 σ).map Prod.fst = some x1) (ho : ops[k]? = some o) (hw : wantedV ops x1.tm o = some true) (hop : o.op = .call c) (hc : c.callee = .value xx) (hx : x1.eval Γ xx = .fn (.yield l) [] [])
 (hY : (V.clL idP x1.tm).isSome = true) (hs : YStep P Γ l r tm q (c.args.toList.map (x1.eval Γ)) x1.ob x1.nm b ob' nm')
 (h2 : outY lv (chain P Γ cf ops 0 m (k + 1) ({ x1 with ob := ob', nm := nm' }.put o.dst (.b b))) = some (vs, ob2, nm2, n, kh, kt)) : SemY P Γ l r tm q (.region id ops false) σ .normal (St.of n lv vs ob2 nm2 kh kt) := by
 cases hc1 : chain P Γ cf ops 0 k 0 σ with
 | none => rw [hc1] at h1; cases h1
 | some p =>
  rw [hc1] at h1
  obtain ⟨y1, es1⟩ := p
  have h1 : y1 = x1 := Option.some.inj h1
  subst h1
  cases hc2 : chain P Γ cf ops 0 m (k + 1) ({ y1 with ob := ob', nm := nm' }.put o.dst (.b b)) with
  | none => rw [hc2] at h2; cases h2
  | some p =>
   rw [hc2] at h2
   obtain ⟨y2, es2⟩ := p
   simp only [outY] at h2
   split at h2
   · rename_i rr hren
     simp only [Option.some.injEq, Prod.mk.injEq] at h2
     obtain ⟨rfl, rfl, rfl, rfl, rfl, rfl⟩ := h2
     exact (SemY.call hcf hfit hn (free_of hA 0 σ) hc1 ho hw hop hc hx hY hs (free_of hA _ _) hc2).ren rfl hren
   · cases h2
theorem SemY.callS (hcf : CallsOk P Γ cf) (hfit : CallsFit cf) {id k m : Nat} {x1 : St} {d : Nat} {xx : Operand} {args : Array Operand} {tys : Array TypeId} {b : Bool} {lv : List Nat} {vs asg : List V} {ob0 ob2 : Ob} {nm0 nm2 : Nm} {n kh kt : Nat}
 (hA : (ops.toList.all fun o => !allocs o) = true) (hn : ops.size = k + (m + 1)) (h1 : (chain P Γ cf ops 0 k 0 σ).map Prod.fst = some x1) (ho : (ops[k]?).map (fun o => (o.dst, o.op, o.guard)) = some (some d, .call { callee := .value xx, args := args, argTypes := tys }, none)) (hx : x1.eval Γ xx = .fn (.yield l) [] [])
 (hY : (V.clL idP x1.tm).isSome = true) (ha : args.toList.map (x1.eval Γ) = asg) (h0 : x1.ob = ob0) (hm0 : x1.nm = nm0) (hs : YStep P Γ l r tm q asg ob0 nm0 b ob' nm')
 (h2 : outY lv (chain P Γ cf ops 0 m (k + 1) ({ x1 with ob := ob', nm := nm' }.put (some d) (.b b))) = some (vs, ob2, nm2, n, kh, kt)) : SemY P Γ l r tm q (.region id ops false) σ .normal (St.of n lv vs ob2 nm2 kh kt) := by
 subst ha
 subst h0
 subst hm0
 rw [Option.map_eq_some_iff] at ho
 obtain ⟨o, ho, he⟩ := ho
 simp only [Prod.mk.injEq] at he
 obtain ⟨e1, e2, e3⟩ := he
 rw [← e1] at h2
 exact SemY.callR hcf hfit hA hn h1 ho (by simp [wantedV, e3]) e2 rfl hx hY hs h2
def SemFY (P : Program) (Γ : Nat → Option V) (l : Nat) (r : Loop) (tm : List V) (q : Option Loop) (f : FuncId) (args : List V) (ob : Ob) (nm : Nm) (res : V) (ob' : Ob) (nm' : Nm) : Prop :=
 ∀ (G : Gh) (w : World) (cargs : List Value), WRel Γ G ob nm w → Rels G args cargs → G.D l = some (.loop r) → Rels G tm r.tmps.toList →
  CallsX P f cargs.toArray w fun e w' => ∃ cv G', e = .returned cv ∧ (G.brk q l).le G' ∧ VRel G' res cv ∧ WRel Γ G' ob' nm' w'
theorem SemFY.of_body {f : FuncId} {fn : Func} {c : Code} {args : List V} {x : Exit} {σ' : St} {res : V} (hs : r.state = .ready) (hp : r.pending = none) (hto : (V.refsL tm).all (fun o => Nat.blt o ob.length) = true) (htn : (V.nrefsL tm).all (fun o => Nat.blt o nm.length) = true)
 (hf : P.funcs[f]? = some fn) (hb : fn.body = some c) (hx : x = .ret ∨ x = .normal)
 (hc : SemY P Γ l r tm q c (St.start fn.ntmps args ob nm) x σ') (hres : resV P σ' fn.results.toList = some res) : SemFY P Γ l r tm q f args ob nm res σ'.ob σ'.nm := by
 intro G w cargs hw hr hD ht
 have hy : YAt (((G.reK ob.length nm.length).reD w.heap.size).reB []) l r tm := ⟨hD, hs, hp, ((ht.mono' (G.reK_sub _ _)).mono' (Gh.reD_sub _ _)).mono' (Gh.reB_sub _ _), fun o ho => Nat.le_of_ble_eq_true (List.all_eq_true.1 hto o ho), fun n hn => Nat.le_of_ble_eq_true (List.all_eq_true.1 htn n hn)⟩
 refine (callsX_fn hf).2 (callsIn_wide (n := 0).1 (callsIn_of_wp_marks hf hb trivial (wpIn_mono (hc none (((G.reK ob.length nm.length).reD w.heap.size).reB []) _ w ⟨?_, ((hw.reK _ _).reD (Nat.le_refl _)).reB, .nil _ rfl, rfl, rfl⟩ (RoOk.none _) hy) ?_)))
 · have h1 := (((hr.mono' (G.reK_sub ob.length nm.length)).mono' (Gh.reD_sub _ w.heap.size)).mono' (Gh.reB_sub _ [])).append (Rels.replicate _ (VRel.undef _) (fn.ntmps - args.length))
   have : (cargs.toArray ++ Array.replicate (fn.ntmps - cargs.toArray.size) undef).toList = cargs ++ List.replicate (fn.ntmps - args.length) undef := by simp [hr.1]
   rw [this]
   exact h1
 · rintro e a' w' ⟨rfl, G1, hle, r1⟩
   have ek : ∀ q : Option Loop, ((((G.reK ob.length nm.length).reD w.heap.size).reB []).brk q l).kd = w.heap.size ∧ ((((G.reK ob.length nm.length).reD w.heap.size).reB []).brk q l).w0 = (G.reB []).w0 ∧ ((((G.reK ob.length nm.length).reD w.heap.size).reB []).brk q l).M0 = G.M0 ∧
    ((((G.reK ob.length nm.length).reD w.heap.size).reB []).brk q l).M = G.M ∧ ((((G.reK ob.length nm.length).reD w.heap.size).reB []).brk q l).H = G.H ∧ ((((G.reK ob.length nm.length).reD w.heap.size).reB []).brk q l).T = G.T ∧
    ((((G.reK ob.length nm.length).reD w.heap.size).reB []).brk q l).kh = ob.length ∧ ((((G.reK ob.length nm.length).reD w.heap.size).reB []).brk q l).kt = nm.length ∧ ((((G.reK ob.length nm.length).reD w.heap.size).reB []).brk q l).D = (G.brk q l).D := fun q => by cases q <;> exact ⟨rfl, rfl, rfl, rfl, rfl, rfl, rfl, rfl, rfl⟩
   have eb : ∀ q : Option Loop, (G.brk q l).M = G.M ∧ (G.brk q l).H = G.H ∧ (G.brk q l).T = G.T ∧ (G.brk q l).kh = G.kh ∧ (G.brk q l).kt = G.kt ∧ (G.brk q l).w0 = G.w0 ∧ (G.brk q l).M0 = G.M0 ∧ (G.brk q l).kd = G.kd := fun q => by cases q <;> exact ⟨rfl, rfl, rfl, rfl, rfl, rfl, rfl, rfl⟩
   obtain ⟨k1, k2, k3, k4, k5, k6, k7, k8, k9⟩ := ek q
   obtain ⟨b1, b2, b3, b4, b5, b6, b7, b8⟩ := eb q
   have hkd : G1.kd = w.heap.size := hle.kd.trans k1
   have hw0 : G1.w0 = (G.reB []).w0 := hle.w0.trans k2
   have hdlt : ∀ l' o, (G.brk q l).D l' = some o → l' < w.heap.size := fun l' o hh => by
    cases q with
    | none => exact hw.dlt hh
    | some r0 =>
     have hh : (if l' = l then some (Obj.loop r0) else G.D l') = some o := hh
     split at hh
     · rename_i e; subst e; exact hw.dlt hD
     · exact hw.dlt hh
   have key := leaves_marks (F := Fence.wide) (n := 0) (R := fun e w' => ∃ cv G', e = .returned cv ∧ (G.brk q l).le G' ∧ VRel G' res cv ∧ WRel Γ G' σ'.ob σ'.nm w') hres G1 w' r1 (by rw [hkd, hw0]; exact hw.size) (by rw [hw0]; rfl) (fun G2 cv w2 hn hv hw2 => ⟨cv, ((G2.reK G.kh G.kt).reD G.kd).reB G.w0.bd, rfl,
    ⟨⟨fun b off cv h => by show G2.M b off = _; rw [hn.m]; exact hle.m _ _ _ (by rw [k4, ← b1]; exact h), fun o b hh => by
     show G2.H o = _; rw [hn.h]; rw [b2] at hh; exact hle.h o b (by rw [k7]; exact (hw.hlt o b hh).1) (by rw [k5]; exact hh), fun n x hh => by
     show G2.T n = _; rw [hn.t]; rw [b3] at hh; exact hle.t n x (by rw [k8]; exact hw.tlt n x hh) (by rw [k6]; exact hh),
     fun l' o hh => by show G2.D l' = _; rw [hn.d l' (by rw [hkd]; exact hdlt l' o hh)]; exact hle.d _ _ (by rw [k9]; exact hh)⟩, b4.symm, b5.symm, by rw [b6]; show { G2.w0 with bd := G.w0.bd } = G.w0; rw [hn.w0, hw0]; rfl, by rw [b7]; exact hn.m0.trans (hle.m0.trans k3), b8.symm⟩,
    ((hv.mono' (Gh.reK_sub _ _ _)).mono' (Gh.reD_sub _ _)).mono' (Gh.reB_sub _ _), WRel.reB ((hw2.reK _ _).reD (Nat.le_trans hw.kdle (by have := hw2.kdle; rw [hn.kd, hkd] at this; exact this)))⟩)
   rcases hx with rfl | rfl <;> exact key
theorem SemC.rangeFuncY {g : Operand} {ps : Array Tmp} {asg bd : Code} {f : FuncId} {fn : Func} {first cap : List V} {v : V} {br : Bool} (hx : σ.eval Γ g = .fn (.func f) first cap)
 (hf : P.funcs[f]? = some fn) (hb : fn.body.isSome = true) (hn : (fn.name == "runtime.NumGoroutine") = false)
 (h : ∀ (l : Nat) (r : Loop), r.state = .ready → r.pending = none → r.params = ps → r.assign = asg → r.body = bd → SemFY P Γ l r σ.tm (if br then some { r with state := .done, pending := some .ret } else none) f (first ++ .fn (.yield l) [] [] :: cap) σ.ob σ.nm v ob' nm') (hY : noYm ob' nm' = true) :
 SemC P Γ (.rangeFunc g ps asg bd) σ (if br then .ret else .normal) { σ with ob := ob', nm := nm' } := by
 intro ro G a w hr ho
 obtain ⟨ms, hms, hdf⟩ := hr.df
 have hfx := hr.eval g
 rw [hx] at hfx
 generalize he : a.eval g = cg at hfx
 cases hfx with
 | @fn _ _ _ ca cc ha hcc h1 h2 =>
  have r1 : Rels G first ca.toList := ⟨by simpa using ha, fun j v cv g1 g2 => h1 j v cv g1 (by simpa using g2)⟩
  have r2 : Rels G cap cc.toList := ⟨by simpa using hcc, fun j v cv g1 g2 => h2 j v cv g1 (by simpa using g2)⟩
  refine wpIn_rangeFunc (fun fnid _ => ?_)
  have hn' : ¬ fn.name = "runtime.NumGoroutine" := by simpa using hn
  have hbn' : ¬ fn.body = none := by intro hh; simp [hh] at hb
  have core : ∀ (l : Nat) (mark : List Deferred) (W1 : World) (G2 : Gh) (dfs : Nat), (Instr.enterLoop fnid a.tmps ps asg bd ro).run P w = .ok (l, mark) W1 → G.le G2 → WRel Γ G2 σ.ob σ.nm W1 → G.D l = none → G.w0.heap.size ≤ l →
   G2.D l = some (.loop { state := .ready, pending := none, fn := fnid, tmps := a.tmps, params := ps, assign := asg, body := bd, defers := dfs }) → MarksL G2 (mark ++ ms) → (∀ D, { target := .collected D, args := #[] } ∈ mark ++ ms → D ≠ l) →
   ∃ (l : Nat) (mark : List Deferred) (w₁ : World) (d : Deferred) (w₁' : World) (f : FuncId) (args : Array Value) (w₂ : World),
    (Instr.enterLoop fnid a.tmps ps asg bd (wideR ro).round).run P w = .ok (l, mark) w₁ ∧ (Go.resolve a.eval (rangeCall g l) 0).run P w₁ = .ok d w₁' ∧ (∀ f', Target.leads P w₁' d.target d.args = some f' → (wideR ro).fn f') ∧
    (invoke d.target d.args).run P w₁' = .ok (.enter f args) w₂ ∧ ((wideR ro).depth.isSome = true → 1 ≤ 0) ∧
    CallsIn (wideR ro) (0 - 1) P f args w₂ (rangePost (wideR ro) 0 P l (fun e a' w' => e = (if br then .ret else .normal) ∧ ∃ G', G.leW G' ∧ Rel Γ G' { σ with ob := ob', nm := nm' } a' w') { a with defers := mark ++ a.defers }) := by
   intro l mark W1 G2 dfs e1 hle hw2 hl0 hlo hD hM hMl
   refine ⟨l, mark, W1, { target := .fn (.func f) cc, args := ca ++ #[.func (.yield l) #[] #[]] }, W1, f, ca ++ #[.func (.yield l) #[] #[]] ++ cc, W1, e1, ?_, fun _ _ => trivial, ?_, depthR, ?_⟩
   · simp [Go.resolve, he, Deferred.ofValue]; rfl
   · simp [invoke, callFunc, hf, hbn', hn']
   · have hy : VRel G2 (.fn (.yield l) [] []) (.func (.yield l) #[] #[]) := .fn rfl rfl (fun j v cv h => by simp at h) (fun j v cv h => by simp at h)
     have hcall := h l _ rfl rfl rfl rfl rfl G2 W1 (ca.toList ++ .func (.yield l) #[] #[] :: cc.toList) hw2 ((r1.mono hle).append (Rels.cons hy (r2.mono hle))) hD (hr.tm.mono hle)
     have hargs : (ca.toList ++ Value.func (.yield l) #[] #[] :: cc.toList).toArray = ca ++ #[.func (.yield l) #[] #[]] ++ cc := by
      apply Array.ext'
      simp
     rw [hargs] at hcall
     refine callsR.2 (((callsX_fn hf).1 hcall).mono ?_)
     rintro e w' ⟨cv, G1, rfl, hle1, hv, hw1⟩
     have fin : ∀ (q : Option Loop) (r' : Loop), (G2.brk q l).le G1 → G1.D l = some (.loop r') → r'.state ≠ .busy →
      ∃ w₄, (Instr.endLoop l).run P w' = .ok r'.pending w₄ ∧ ∃ G', G.leW G' ∧ Rel Γ G' { σ with ob := ob', nm := nm' } { a with defers := mark ++ a.defers } w₄ := by
      intro q r' hle1 hD1 hns
      have hheap := (hw1.dd _ _ hD1).1
      refine ⟨_, run_endLoop hheap hns, ?_⟩
      have ebw : (G2.brk q l).w0 = G2.w0 ∧ (G2.brk q l).M = G2.M ∧ (G2.brk q l).H = G2.H ∧ (G2.brk q l).T = G2.T ∧ (G2.brk q l).kh = G2.kh ∧ (G2.brk q l).kt = G2.kt ∧ (G2.brk q l).M0 = G2.M0 ∧ (G2.brk q l).kd = G2.kd := by cases q <;> exact ⟨rfl, rfl, rfl, rfl, rfl, rfl, rfl, rfl⟩
      obtain ⟨b1, b2, b3, b4, b5, b6, b7, b8⟩ := ebw
      have ebd : ∀ k, k ≠ l → (G2.brk q l).D k = G2.D k := fun k hk => by
       cases q with
       | none => rfl
       | some r0 => show (if k = l then _ else G2.D k) = _; rw [if_neg hk]
      have hlb : G1.w0.own l := by rw [hle1.w0, b1, hle.w0]; exact .inl hlo
      have hw3 := hw1.putD (G2 := G1.setD l (.loop { r' with state := .exhausted })) (o := .loop { r' with state := .exhausted }) hD1 rfl rfl hlb rfl
       (fun v hv cv h => VRel.noYD h (noYm_ob hY v hv)) (fun v hv cv h => VRel.noYD h (noYm_nm hY v hv))
      have hle3 : G.le (G1.setD l (.loop { r' with state := .exhausted })) :=
       ⟨⟨fun b off cv hh => hle1.m _ _ _ (by rw [b2]; exact hle.m _ _ _ hh), fun o b hh => hle1.h _ _ (by rw [b3]; exact hle.h _ _ hh), fun n x hh => hle1.t _ _ (by rw [b4]; exact hle.t _ _ hh), fun k q' hk => by
        have hkl : k ≠ l := by rintro rfl; rw [hl0] at hk; cases hk
        show (if k = l then _ else G1.D k) = _
        rw [if_neg hkl]
        exact hle1.d _ _ (by rw [ebd k hkl]; exact hle.d _ _ hk)⟩, hle1.kh.trans (b5.trans hle.kh), hle1.kt.trans (b6.trans hle.kt), hle1.w0.trans (b1.trans hle.w0), hle1.m0.trans (b7.trans hle.m0), hle1.kd.trans (b8.trans hle.kd)⟩
      refine ⟨_, hle3.weak, ⟨hr.tm.mono hle3, hw3, ⟨mark ++ ms, by rw [hle3.w0, hms, List.append_assoc], hM.nd, fun d hd => ?_⟩, hle3.kh.trans hr.kh, hle3.kt.trans hr.kt⟩⟩
      obtain ⟨D, rfl, q1, q2⟩ := hM.at_ d hd
      refine ⟨D, rfl, by rw [hle3.kd, ← hle.kd]; exact q1, ?_⟩
      show (if D = l then _ else G1.D D) = _
      rw [if_neg (hMl D hd)]
      exact hle1.d _ _ (by rw [ebd D (hMl D hd)]; exact q2)
     cases br with
     | false =>
      obtain ⟨w4, g1, G', g2, g3⟩ := fin none _ hle1 (hle1.d _ _ hD) (by simp)
      exact ⟨none, w4, g1, rfl, G', g2, g3⟩
     | true =>
      obtain ⟨w4, g1, G', g2, g3⟩ := fin _ _ hle1 (hle1.d _ _ (setD_new _ _ _)) (by simp)
      exact ⟨some .ret, w4, g1, wpIn_ret ⟨rfl, G', g2, g3⟩⟩
  have hkd : ∀ {d}, d ∈ ms → ∃ D, d = { target := .collected D, args := #[] } ∧ D < w.heap.size := fun hd => by
   obtain ⟨D, e, q1, q2⟩ := hdf.at_ _ hd
   exact ⟨D, e, hr.wr.dlt q2⟩
  cases ro with
  | none =>
   have w1 := hr.wr.alloc (.deferred (some []))
   have d1 : G.D w.heap.size = none := hr.wr.dnew (Nat.le_refl _)
   have w2 := w1.addD d1 (World.alloc_heap_new w _) rfl (.inl hr.wr.size)
   have w3 := w2.alloc (.loop { state := .ready, pending := none, fn := fnid, tmps := a.tmps, params := ps, assign := asg, body := bd, defers := w.heap.size })
   have d2 : (G.setD w.heap.size (.deferred (some []))).D (w.heap.size + 1) = none := w2.dnew (by simp)
   have e4 := World.alloc_heap_new (w.alloc (.deferred (some []))) (.loop { state := .ready, pending := none, fn := fnid, tmps := a.tmps, params := ps, assign := asg, body := bd, defers := w.heap.size })
   rw [World.size_alloc] at e4
   have w4 := w3.addD d2 e4 rfl (.inl (Nat.le_succ_of_le hr.wr.size))
   have hle := (Gh.le_setD (o := .deferred (some [])) d1).trans (Gh.le_setD (o := .loop { state := .ready, pending := none, fn := fnid, tmps := a.tmps, params := ps, assign := asg, body := bd, defers := w.heap.size }) d2)
   refine core _ _ _ _ w.heap.size (run_enterLoop_outer _ _ _ _ _) hle w4 (hr.wr.dnew (by omega)) (by have := hr.wr.size; omega) (setD_new _ _ _) ⟨?_, ?_⟩ ?_
   · refine List.nodup_cons.2 ⟨fun hd => ?_, hdf.nd⟩
     obtain ⟨D, e, hlt⟩ := hkd hd
     have : D = w.heap.size := by simpa using e.symm
     omega
   · intro d hd
     rcases List.mem_cons.1 hd with rfl | hd
     · refine ⟨_, rfl, ?_, ?_⟩
       · show G.kd ≤ w.heap.size
         exact hr.wr.kdle
       · show (if w.heap.size = w.heap.size + 1 then _ else (if w.heap.size = w.heap.size then _ else _)) = _
         rw [if_neg (by omega), if_pos rfl]
     · exact ((hdf.mono hle.d hle.kd)).at_ d hd
   · intro D hd
     rcases List.mem_cons.1 hd with e | hd
     · have : D = w.heap.size := by simpa using e
       omega
     · obtain ⟨D', e, hlt⟩ := hkd hd
       have : D = D' := by simpa using e
       omega
  | some l0 =>
   obtain ⟨r0, hr0⟩ := ho l0 rfl
   have d1 : G.D w.heap.size = none := hr.wr.dnew (Nat.le_refl _)
   have w2 := (hr.wr.alloc (.loop { state := .ready, pending := none, fn := fnid, tmps := a.tmps, params := ps, assign := asg, body := bd, defers := r0.defers })).addD d1 (World.alloc_heap_new w _) rfl (.inl hr.wr.size)
   have hle := Gh.le_setD (o := .loop { state := .ready, pending := none, fn := fnid, tmps := a.tmps, params := ps, assign := asg, body := bd, defers := r0.defers }) d1
   refine core _ _ _ _ r0.defers (run_enterLoop_inner (hr.wr.dd _ _ hr0).1 _ _ _ _ _) hle w2 d1 hr.wr.size (setD_new _ _ _) (hdf.mono hle.d hle.kd) ?_
   intro D hd
   obtain ⟨D', e, hlt⟩ := hkd hd
   have : D = D' := by simpa using e
   omega
end
end Go.Proofs.Ytofbchcclkejgaa

/- Package tally: contract of Totals; the pieces of Sure, Open, candidates. -/
set_option linter.unusedVariables false
set_option linter.unusedSimpArgs false
set_option maxRecDepth 100000
set_option maxHeartbeats 4000000
namespace Go.Proofs.Ytofbchcclkejgaa
open Go
namespace T
def totD (c : Int) (rs : List (Ty.den retT)) : List Int := totB rs (List.replicate c.toNat 0)
def restD (ds : List Int) (rs : List (Ty.den retT)) : Int := ds.sum - sumV rs
theorem asc_ge {rs : List (Ty.den retT)} (h0 : ∀ r ∈ rs, 0 ≤ rD r) (h : ∀ i, 0 < i → i < rs.length → rD (rs.getD (i - 1) retT.dflt) < rD (rs.getD i retT.dflt)) : ∀ i : Nat, i < rs.length → (i : Int) ≤ rD (rs.getD i retT.dflt)
 | 0, hi => h0 _ (getD_mem _ hi)
 | i + 1, hi => by
  have h1 := asc_ge h0 h i (by omega)
  have h2 := h (i + 1) (by omega) hi
  simp only [Nat.add_sub_cancel] at h2
  omega
theorem validT_iff {c : Int} {ds : List Int} {rs : List (Ty.den retT)} : validT c ds rs = true ↔ validC c ds = true ∧ (∀ r ∈ rs, prR c ds r = true) ∧ ∀ i, 0 < i → i < rs.length → rD (rs.getD (i - 1) retT.dflt) < rD (rs.getD i retT.dflt) := by
 unfold validT; rw [Bool.and_eq_true, validR_iff]
theorem validT_len {c : Int} {ds : List Int} {rs : List (Ty.den retT)} (h : validT c ds rs = true) : rs.length ≤ ds.length := by
 obtain ⟨h1, h2, h3⟩ := validT_iff.1 h
 by_cases h0 : rs.length = 0
 · omega
 · have hi : rs.length - 1 < rs.length := by omega
   have g1 := asc_ge (fun r hr => (properD_iff.1 (h2 r hr)).1.1) h3 _ hi
   have g2 := (properD_iff.1 (h2 _ (getD_mem retT.dflt hi))).1.2
   omega
theorem validT_ok {c : Int} {ds : List Int} {rs : List (Ty.den retT)} (h : validT c ds rs = true) : okR c.toNat rs := fun r hr => by
 have := properD_iff.1 ((validT_iff.1 h).2.1 r hr)
 exact ⟨by omega, this.2.2.2.1⟩
theorem validT_sz {c : Int} {ds : List Int} {rs : List (Ty.den retT)} (h : validT c ds rs = true) : szR rs := by
 have h1 := validT_len h
 have h2 := validC_iff.1 (validT_iff.1 h).1
 refine ⟨by omega, fun r hr => ?_⟩
 have := validT_ok h r hr
 omega
theorem c16_ok (c : Int) (ds : List Int) (rs : List (Ty.den retT)) (h : szR rs) : SemF Try.prog Γ 16 [.agg [.si .i64 c, .slst .ro ity ds, .slst .ro retT rs]] [] []
 (.tup [.slst .ro ity (bif validT c ds rs then totD c rs else []), .si .i64 (bif validT c ds rs then restD ds rs else 0), .si .i64 (bif validT c ds rs then 0 else 270)]) [] [] :=
 of_runL cfg7_ok (c16_run c ds rs) (by
  rw [decide_eq_true h]
  cases hv : validT c ds rs with
  | false => rfl
  | true =>
   have h1 := validC_iff.1 (validT_iff.1 hv).1
   have h2 := validT_len hv
   have h3 := sum_bound h1.2.2
   rw [decide_eq_true (show pre_to0 c ds rs c.toNat 0 ds (Nat.cast ds.length : Int) 0 (List.replicate c.toNat 0) from ⟨rfl, rfl, rfl, rfl, by omega, h1.2.2⟩),
    decide_eq_true (show pre_to1 c.toNat ds.sum rs (Nat.cast rs.length : Int) 0 (List.replicate c.toNat 0) from ⟨rfl, rfl, by simp, by rw [List.length_replicate]; omega, by omega, ⟨by omega, by omega⟩, by rw [List.length_replicate]; exact validT_ok hv, fun x hx => (List.mem_replicate.1 hx).2⟩),
    decide_eq_true (by omega : 0 ≤ c ∧ c ≤ c ∧ (8 : Int) * c ≤ 281474976710656 ∧ c ≤ 9223372036854775807)]
   rfl) (by
  cases hv : validT c ds rs with
  | false => rfl
  | true =>
   have h2 := validT_len hv
   have h1 := validC_iff.1 (validT_iff.1 hv).1
   obtain ⟨g1, _⟩ := totB_ok (rs := rs) (b := List.replicate c.toNat 0) (by rw [List.length_replicate]; exact validT_ok hv) (fun x hx => (List.mem_replicate.1 hx).2) rs.length (Nat.le_refl _)
   rw [List.take_length] at g1
   have e : ∀ z : List Int, z.length = (List.replicate c.toNat (0 : Int)).length → List.take (List.replicate c.toNat (0 : Int)).length (List.drop 0 z) = z := fun z hz => by rw [← hz, List.drop_zero, List.take_length]
   exact congrArg (fun z : List Int => V.tup [V.slst .ro ity z, .si .i64 (ds.sum - sumV rs), .si .i64 0]) (e _ g1))
noncomputable def gg_o16 (c : Int) (ds : List Int) (rs : List (Ty.den retT)) : Option Bool × V := (some (decide (szR rs)), .tup [.slst .ro ity (bif validT c ds rs then totD c rs else []), .si .i64 (bif validT c ds rs then restD ds rs else 0), .si .i64 (bif validT c ds rs then 0 else 270)])
theorem gg_o16_c (c : Int) (ds : List Int) (rs : List (Ty.den retT)) (h : (gg_o16 c ds rs).1.getD true = true) : szR rs := of_decide_eq_true h
noncomputable def o16 : Orc := fun f args => if f = 16 then (Ty.ofVs [talT] args).map (fun x => gg_o16 x.1.1.1 x.1.1.2.1 x.1.2.1) else o22 f args
theorem o16_ok : OrcOk Try.prog Γ o16 := o22_ok.plain 16 [talT] (fun x => gg_o16 x.1.1.1 x.1.1.2.1 x.1.2.1) Try.f16 Try.func16 rfl (by kernel_rfl) (fun x h => c16_ok x.1.1.1 x.1.1.2.1 x.1.2.1 (gg_o16_c x.1.1.1 x.1.1.2.1 x.1.2.1 h))
def othT (t : List Int) (c : Int) : Nat → Int
 | 0 => 0
 | k + 1 => if (k : Int) ≠ c then (if t.getD k 0 > othT t c k then t.getD k 0 else othT t c k) else othT t c k
def othD (t : List Int) (c : Int) : Int := othT t c t.length
noncomputable def cfg8 : Cfg := cfgO o16 lo6
theorem cfg8_ok : CfgOk Try.prog Γ cfg8 := cfgO_ok o16_ok lo6_ok
def cA : Code → Code | .seq a _ => a | c => c
def cB : Code → Code | .seq _ b => b | c => c
def cK : Code → Code | .block _ b => b | c => c
def rfA : Code → Code | .rangeFunc _ _ a _ => a | c => c
def rfB : Code → Code | .rangeFunc _ _ _ b => b | c => c
def opsOf : Code → Array Oper | .region _ ops _ => ops | _ => #[]
noncomputable def s0 : Code := cA (root 18)
noncomputable def s1 : Code := cA (cB (root 18))
noncomputable def s2 : Code := cA (cB (cB (root 18)))
noncomputable def s4 : Code := cA (cA (cB (cB (cB (root 18)))))
noncomputable def sR : Code := cK (cB (cA (cB (cB (cB (root 18))))))
noncomputable def s9 : Code := cB (cB (cB (cB (root 18))))
noncomputable def sAs : Code := rfA sR
noncomputable def sBd : Code := rfB sR
theorem root18 : root 18 = .seq s0 (.seq s1 (.seq s2 (.seq (.seq s4 (.block 0 (.rangeFunc (.tmp 19) #[20, 21] sAs sBd))) s9))) := by kernel_rfl
noncomputable def o0 : Code := cA (root 20)
noncomputable def o1 : Code := cA (cB (root 20))
noncomputable def o2 : Code := cA (cB (cB (root 20)))
noncomputable def o4 : Code := cA (cA (cB (cB (cB (root 20)))))
noncomputable def oR : Code := cK (cB (cA (cB (cB (cB (root 20))))))
noncomputable def o9 : Code := cB (cB (cB (cB (root 20))))
noncomputable def oAs : Code := rfA oR
noncomputable def oBd : Code := rfB oR
theorem root20 : root 20 = .seq o0 (.seq o1 (.seq o2 (.seq (.seq o4 (.block 0 (.rangeFunc (.tmp 18) #[19, 20] oAs oBd))) o9))) := by kernel_rfl
noncomputable def k0 : Code := cA (root 67)
noncomputable def kr : Code := lp 67 0
noncomputable def kA : Code := cA kr
noncomputable def kB : Code := cA (cB kr)
noncomputable def kIn : Code := cK (cA (cB (cB kr)))
noncomputable def kC : Code := cA kIn
noncomputable def kD : Code := cA (cB kIn)
noncomputable def kE : Code := cA (cB (cB kIn))
noncomputable def kF : Code := cA (cB (cB (cB kIn)))
noncomputable def kH : Code := cB (cB (cB (cB kIn)))
noncomputable def kK : Code := cB (cB (cB kr))
theorem root67 : root 67 = .seq k0 (.block 0 (.loop kr)) := by kernel_rfl
theorem kr_eq : kr = .seq kA (.seq kB (.seq (.block 1 (.seq kC (.seq kD (.seq kE (.seq (.region 10 (opsOf kF) false) kH))))) kK)) := by kernel_rfl
def lvE (lv lvr : List Nat) (e : Ex) : List Nat := match e with | .normal => lv | _ => lvr
noncomputable def pc (f : Nat) (i : Nat) (C : Cfg) (c : Code) (lv lvr : List Nat) (x : St) := outa (lvE lv lvr) (evCK Try.prog Γ (cfM Try.prog Γ C 30) (C.lo f) (lvF f) 60 i c x)
noncomputable def vT (c : Int) (ds : List Int) (rs : List (Ty.den retT)) : V := .agg [.si .i64 c, .slst .ro ity ds, .slst .ro retT rs]
def vC (t : List Int) : V := .pel [.agg [.slst .ro ity t]] 0 0
def z0 : V := .i .i64 0
def obS (r : Int) : Ob := [some [z0], some [z0], some [.si .i64 r]]
theorem p0_eq (c : Int) (ds : List Int) (rs : List (Ty.den retT)) : (pc 18 0 cfg8 s0 [1, 2, 3] [] (St.start 30 [vT c ds rs] [] [])).run = (some ((Ex.normal, [V.ptr (0 : Nat) (0 : Nat), V.ptr (1 : Nat) (0 : Nat), V.ptr (2 : Nat) (0 : Nat)], [some [V.si IntKind.i64 c, V.slst Tag.ro ity ds, V.slst Tag.ro retT rs], some [V.i IntKind.i64 (0 : Int)], some [V.i IntKind.i64 (0 : Int)]], [], (30 : Nat), (0 : Nat), (0 : Nat)))) := by kernel_rfl
theorem p1_eq (c : Int) (ds : List Int) (rs : List (Ty.den retT)) : (pc 18 0 cfg8 s1 [2, 3, 4, 5, 6] [] (St.of 30 [1, 2, 3] [.ptr 0 0, .ptr 1 0, .ptr 2 0] [some [.si .i64 c, .slst .ro ity ds, .slst .ro retT rs], some [z0], some [z0]] [])).run = (bif decide (szR rs) then (some ((Ex.normal, [V.ptr (0 : Nat) (0 : Nat), V.ptr (1 : Nat) (0 : Nat), V.slst Tag.ro ity (bif validT c ds rs then totD c rs else []), V.ptr (2 : Nat) (0 : Nat), V.si IntKind.i64 (bif validT c ds rs then (0 : Int) else (270 : Int))], [some [V.i IntKind.i64 (0 : Int)], some [V.i IntKind.i64 (0 : Int)], some [V.si IntKind.i64 (bif validT c ds rs then restD ds rs else (0 : Int))]], [], (30 : Nat), (0 : Nat), (0 : Nat)))) else none) := by kernel_rfl
theorem p2_eq (t : List Int) (r e : Int) : (pc 18 0 cfg8 s2 [2, 3, 4, 5] [2, 3] (St.of 30 [2, 3, 4, 5, 6] [.ptr 0 0, .ptr 1 0, .slst .ro ity t, .ptr 2 0, .si .i64 e] [some [z0], some [z0], some [.si .i64 r]] [])).run = (bif e != (0 : Int) then (some ((Ex.ret, [V.ptr (0 : Nat) (0 : Nat), V.ptr (1 : Nat) (0 : Nat)], [some [V.i IntKind.i64 (0 : Int)], some [V.si IntKind.i64 e]], [], (30 : Nat), (0 : Nat), (0 : Nat)))) else (some ((Ex.normal, [V.ptr (0 : Nat) (0 : Nat), V.ptr (1 : Nat) (0 : Nat), V.slst Tag.ro ity t, V.ptr (2 : Nat) (0 : Nat)], [some [V.i IntKind.i64 (0 : Int)], some [V.i IntKind.i64 (0 : Int)], some [V.si IntKind.i64 r]], [], (30 : Nat), (0 : Nat), (0 : Nat))))) := by kernel_rfl
theorem p4_eq (t : List Int) (r : Int) : (pc 18 0 cfg8 s4 [2, 3, 5, 19] [] (St.of 30 [2, 3, 4, 5] [.ptr 0 0, .ptr 1 0, .slst .ro ity t, .ptr 2 0] (obS r) [])).run = (some ((Ex.normal, [V.ptr (0 : Nat) (0 : Nat), V.ptr (1 : Nat) (0 : Nat), V.ptr (2 : Nat) (0 : Nat), V.fn (Fn.func (67 : Nat)) [] [V.pel [V.agg [V.slst Tag.ro ity t]] (0 : Nat) (0 : Nat)]], [some [V.i IntKind.i64 (0 : Int)], some [V.i IntKind.i64 (0 : Int)], some [V.si IntKind.i64 r]], [], (30 : Nat), (0 : Nat), (0 : Nat)))) := by kernel_rfl
theorem p9_eq (r : Int) : (pc 18 0 cfg8 s9 [2, 3] [2, 3] (St.of 30 [2, 3, 5, 19] [.ptr 0 0, .ptr 1 0, .ptr 2 0, .any] (obS r) [])).run = (some ((Ex.ret, [V.ptr (0 : Nat) (0 : Nat), V.ptr (1 : Nat) (0 : Nat)], [some [V.i IntKind.i64 (-1 : Int)], some [V.i IntKind.i64 (0 : Int)]], [], (30 : Nat), (0 : Nat), (0 : Nat)))) := by kernel_rfl
def hp_c1 : HP := { n := 37, lv := [0, 1, 3, 4, 5, 8, 9, 10, 15, 16, 17], sp := [.yv, .pea [.ty (.slice ity)], .ty ity, .ty ity, .ty ity, .ty (.slice ity), .ty ity, .ty ity, .ty (.slice ity), .ty ity, .ty ity], op := [.cells [.ci 0], .cells [.ci 0], .cells [.ty ity]], bp := [], kh := 3 }
def lve_c1 : Ex → List Nat
 | .normal => [0, 1, 3, 4, 5, 8, 9, 10, 15, 16, 17]
 | .exit 2 => [0, 1, 3, 4, 5, 8, 9, 10]
 | _ => []
theorem bd_c1 : Try.f67.body = some (root 67) := by kernel_rfl
theorem le_c1 : (loops (root 67))[1]? = some (lp 67 1) := by kernel_rfl
theorem li_c1 : Lies (root 67) 2 (lp 67 1) := Lies.of_take (n := 0) (by kernel_rfl)
def st_c1 (l : Nat) (t : List Int) (c n o : Int) (t8 : List Int) (m i : Int) (t15 : List Int) (m2 k r : Int) : St := hp_c1.st ⟨(l, (t, ()), c, n, o, t8, m, i, t15, m2, k, ()), (((), ()), ((), ()), (r, ()), ()), ()⟩
noncomputable def rn_c1 (l : Nat) (t : List Int) (c n o : Int) (t8 : List Int) (m i : Int) (t15 : List Int) (m2 k r : Int) := outa lve_c1 (evCK Try.prog Γ (cfM Try.prog Γ cfg8 30) (cfg8.lo 67) [] 60 2 (lp 67 1) (st_c1 l t c n o t8 m i t15 m2 k r))
theorem rn_c1_eq (l : Nat) (t : List Int) (c n o : Int) (t8 : List Int) (m i : Int) (t15 : List Int) (m2 k r : Int) : (rn_c1 l t c n o t8 m i t15 m2 k r).run = (bif decide (k < m2) then (bif decide ((0 : Int) ≤ k ∧ k < (t15.length : Int)) then (bif k != c then (some ((Ex.normal, [V.fn (Fn.yield l) [] [], V.pel [V.agg [V.slst .ro ity t]] (0 : Nat) (0 : Nat), V.si .i64 c, V.si .i64 n, V.si .i64 (if t15.getD k.toNat (0 : Int) > o then t15.getD k.toNat (0 : Int) else o), V.slst .ro ity t8, V.si .i64 m, V.si .i64 i, V.slst .ro ity t15, V.si .i64 m2, V.si .i64 (IntKind.i64.wrap (k + (1 : Int)))], [some [V.i .i64 (0 : Int)], some [V.i .i64 (0 : Int)], some [V.si .i64 r]], [], (37 : Nat), (3 : Nat), (0 : Nat)))) else (some ((Ex.normal, [V.fn (Fn.yield l) [] [], V.pel [V.agg [V.slst .ro ity t]] (0 : Nat) (0 : Nat), V.si .i64 c, V.si .i64 n, V.si .i64 o, V.slst .ro ity t8, V.si .i64 m, V.si .i64 i, V.slst .ro ity t15, V.si .i64 m2, V.si .i64 (IntKind.i64.wrap (k + (1 : Int)))], [some [V.i .i64 (0 : Int)], some [V.i .i64 (0 : Int)], some [V.si .i64 r]], [], (37 : Nat), (3 : Nat), (0 : Nat))))) else none) else (some ((Ex.exit 2, [V.fn (Fn.yield l) [] [], V.pel [V.agg [V.slst .ro ity t]] (0 : Nat) (0 : Nat), V.si .i64 c, V.si .i64 n, V.si .i64 o, V.slst .ro ity t8, V.si .i64 m, V.si .i64 i], [some [V.i .i64 (0 : Int)], some [V.i .i64 (0 : Int)], some [V.si .i64 r]], [], (37 : Nat), (3 : Nat), (0 : Nat))))) := by kernel_rfl
theorem rn_c1_c (l : Nat) (t : List Int) (c n o : Int) (t8 : List Int) (m i : Int) (t15 : List Int) (m2 k r : Int) {e : Ex} {vs : List V} {ob : Ob} {nm : Nm} {n' kh kt : Nat} (h : (rn_c1 l t c n o t8 m i t15 m2 k r).run = some (e, vs, ob, nm, n', kh, kt)) : SemC Try.prog Γ (lp 67 1) (st_c1 l t c n o t8 m i t15 m2 k r) e.to (St.of n' (lve_c1 e) vs ob nm kh kt) := SemC.of_evM cfg8_ok Try.func67 bd_c1 li_c1 h
def hp_c2 : HP := { n := 37, lv := [0, 1, 3, 4, 5, 8, 9, 10, 15, 16, 17], sp := [.yv, .pea [.ty (.slice ity)], .ty ity, .ty ity, .ty ity, .ty (.slice ity), .ty ity, .ty ity, .ty (.slice ity), .ty ity, .ty ity], op := [.cells [.bz 0], .cells [.ty ity]], bp := [.arr ity], kh := 2 }
def lve_c2 : Ex → List Nat
 | .normal => [0, 1, 3, 4, 5, 8, 9, 10, 15, 16, 17]
 | .exit 2 => [0, 1, 3, 4, 5, 8, 9, 10]
 | _ => []
theorem bd_c2 : Try.f67.body = some (root 67) := by kernel_rfl
theorem le_c2 : (loops (root 67))[1]? = some (lp 67 1) := by kernel_rfl
theorem li_c2 : Lies (root 67) 2 (lp 67 1) := Lies.of_take (n := 0) (by kernel_rfl)
def st_c2 (l : Nat) (t : List Int) (c n o : Int) (t8 : List Int) (m i : Int) (t15 : List Int) (m2 k : Int) (j : Nat) (r : Int) (b : List Int) : St := hp_c2.st ⟨(l, (t, ()), c, n, o, t8, m, i, t15, m2, k, ()), ((j, ()), (r, ()), ()), (b, ())⟩
noncomputable def rn_c2 (l : Nat) (t : List Int) (c n o : Int) (t8 : List Int) (m i : Int) (t15 : List Int) (m2 k : Int) (j : Nat) (r : Int) (b : List Int) := outa lve_c2 (evCK Try.prog Γ (cfM Try.prog Γ cfg8 30) (cfg8.lo 67) [] 60 2 (lp 67 1) (st_c2 l t c n o t8 m i t15 m2 k j r b))
theorem rn_c2_eq (l : Nat) (t : List Int) (c n o : Int) (t8 : List Int) (m i : Int) (t15 : List Int) (m2 k : Int) (j : Nat) (r : Int) (b : List Int) : (rn_c2 l t c n o t8 m i t15 m2 k j r b).run = (bif decide (k < m2) then (bif decide ((0 : Int) ≤ k ∧ k < (t15.length : Int)) then (bif k != c then (some ((Ex.normal, [V.fn (Fn.yield l) [] [], V.pel [V.agg [V.slst .ro ity t]] (0 : Nat) (0 : Nat), V.si .i64 c, V.si .i64 n, V.si .i64 (if t15.getD k.toNat (0 : Int) > o then t15.getD k.toNat (0 : Int) else o), V.slst .ro ity t8, V.si .i64 m, V.si .i64 i, V.slst .ro ity t15, V.si .i64 m2, V.si .i64 (IntKind.i64.wrap (k + (1 : Int)))], [some [V.bs true 0 0 j], some [V.si .i64 r]], [some (Bf.live (.arr ity b))], (37 : Nat), (2 : Nat), (0 : Nat)))) else (some ((Ex.normal, [V.fn (Fn.yield l) [] [], V.pel [V.agg [V.slst .ro ity t]] (0 : Nat) (0 : Nat), V.si .i64 c, V.si .i64 n, V.si .i64 o, V.slst .ro ity t8, V.si .i64 m, V.si .i64 i, V.slst .ro ity t15, V.si .i64 m2, V.si .i64 (IntKind.i64.wrap (k + (1 : Int)))], [some [V.bs true 0 0 j], some [V.si .i64 r]], [some (Bf.live (.arr ity b))], (37 : Nat), (2 : Nat), (0 : Nat))))) else none) else (some ((Ex.exit 2, [V.fn (Fn.yield l) [] [], V.pel [V.agg [V.slst .ro ity t]] (0 : Nat) (0 : Nat), V.si .i64 c, V.si .i64 n, V.si .i64 o, V.slst .ro ity t8, V.si .i64 m, V.si .i64 i], [some [V.bs true 0 0 j], some [V.si .i64 r]], [some (Bf.live (.arr ity b))], (37 : Nat), (2 : Nat), (0 : Nat))))) := by kernel_rfl
theorem rn_c2_c (l : Nat) (t : List Int) (c n o : Int) (t8 : List Int) (m i : Int) (t15 : List Int) (m2 k : Int) (j : Nat) (r : Int) (b : List Int) {e : Ex} {vs : List V} {ob : Ob} {nm : Nm} {n' kh kt : Nat} (h : (rn_c2 l t c n o t8 m i t15 m2 k j r b).run = some (e, vs, ob, nm, n', kh, kt)) : SemC Try.prog Γ (lp 67 1) (st_c2 l t c n o t8 m i t15 m2 k j r b) e.to (St.of n' (lve_c2 e) vs ob nm kh kt) := SemC.of_evM cfg8_ok Try.func67 bd_c2 li_c2 h
theorem q0_eq (c : Int) (ds : List Int) (rs : List (Ty.den retT)) : (pc 20 0 cfg8 o0 [1, 2, 3] [] (St.start 33 [vT c ds rs] [] [])).run = (some ((Ex.normal, [V.ptr (0 : Nat) (0 : Nat), V.ptr (1 : Nat) (0 : Nat), V.i IntKind.i64 (0 : Int)], [some [V.si IntKind.i64 c, V.slst Tag.ro ity ds, V.slst Tag.ro retT rs], some [V.lst Tag.full []]], [], (33 : Nat), (0 : Nat), (0 : Nat)))) := by kernel_rfl
theorem q1_eq (c : Int) (ds : List Int) (rs : List (Ty.den retT)) : (pc 20 0 cfg8 o1 [2, 3, 4, 5] [] (St.of 33 [1, 2, 3] [.ptr 0 0, .ptr 1 0, z0] [some [.si .i64 c, .slst .ro ity ds, .slst .ro retT rs], some [.lst .full []]] [])).run = (bif decide (szR rs) then (some ((Ex.normal, [V.ptr (0 : Nat) (0 : Nat), V.si IntKind.i64 (bif validT c ds rs then (0 : Int) else (270 : Int)), V.slst Tag.ro ity (bif validT c ds rs then totD c rs else []), V.ptr (1 : Nat) (0 : Nat)], [some [V.lst Tag.full []], some [V.si IntKind.i64 (bif validT c ds rs then restD ds rs else (0 : Int))]], [], (33 : Nat), (0 : Nat), (0 : Nat)))) else none) := by kernel_rfl
theorem q2_eq (t : List Int) (r e : Int) : (pc 20 0 cfg8 o2 [2, 4, 5] [2, 3] (St.of 33 [2, 3, 4, 5] [.ptr 0 0, .si .i64 e, .slst .ro ity t, .ptr 1 0] [some [.lst .full []], some [.si .i64 r]] [])).run = (bif e != (0 : Int) then (some ((Ex.ret, [V.ptr (0 : Nat) (0 : Nat), V.si IntKind.i64 e], [some [V.lst Tag.full []]], [], (33 : Nat), (0 : Nat), (0 : Nat)))) else (some ((Ex.normal, [V.ptr (0 : Nat) (0 : Nat), V.slst Tag.ro ity t, V.ptr (1 : Nat) (0 : Nat)], [some [V.lst Tag.full []], some [V.si IntKind.i64 r]], [], (33 : Nat), (0 : Nat), (0 : Nat))))) := by kernel_rfl
theorem q4_eq (t : List Int) (r : Int) : (pc 20 0 cfg8 o4 [2, 5, 18] [] (St.of 33 [2, 4, 5] [.ptr 0 0, .slst .ro ity t, .ptr 1 0] [some [.lst .full []], some [.si .i64 r]] [])).run = (some ((Ex.normal, [V.ptr (0 : Nat) (0 : Nat), V.ptr (1 : Nat) (0 : Nat), V.fn (Fn.func (67 : Nat)) [] [V.pel [V.agg [V.slst Tag.ro ity t]] (0 : Nat) (0 : Nat)]], [some [V.lst Tag.full []], some [V.si IntKind.i64 r]], [], (33 : Nat), (0 : Nat), (0 : Nat)))) := by kernel_rfl
theorem q9_eq (r : Int) (j : Nat) (b : List Int) : (pc 20 0 cfg8 o9 [2, 3] [2, 3] (St.of 33 [2, 5, 18] [.ptr 0 0, .ptr 1 0, .any] [some [.bs true 0 0 j], some [.si .i64 r]] [some (.live (.arr ity b))])).run = (some ((Ex.ret, [V.ptr (0 : Nat) (0 : Nat), V.i IntKind.i64 (0 : Int)], [some [V.bs true (0 : Nat) (0 : Nat) j]], [some (Bf.live (BC.arr ity b))], (33 : Nat), (0 : Nat), (0 : Nat)))) := by kernel_rfl
def yN (l : Nat) : V := .fn (.yield l) [] []
noncomputable def ySt (lv : List Nat) (vs : List V) (r : Int) : St := St.of 37 lv vs (obS r) [] 3 0
noncomputable def yOt (lv : List Nat) (vs : List V) (r : Int) (b : List Int) : St := St.of 37 lv vs [some [.bs true 0 0 b.length], some [.si .i64 r]] [some (.live (.arr ity b))] 2 0
abbrev pre_c1 (l : Nat) (t : List Int) (c n o : Int) (t8 : List Int) (m i : Int) (t15 : List Int) (m2 k r : Int) : Prop := t15 = t ∧ m2 = (t.length : Int) ∧ k = 0 ∧ o = 0 ∧ t.length ≤ 1000
def rs_c1 (l : Nat) (t : List Int) (c n o : Int) (t8 : List Int) (m i : Int) (t15 : List Int) (m2 k r : Int) : Ex × St := (.exit 2, St.of 37 (lve_c1 (.exit 2)) [yN l, vC t, .si .i64 c, .si .i64 n, .si .i64 (othD t c), .slst .ro ity t8, .si .i64 m, .si .i64 i] [some [z0], some [z0], some [.si .i64 r]] [] hp_c1.kh hp_c1.kt)
def res_c1 (l : Nat) (t : List Int) (c n o : Int) (t8 : List Int) (m i : Int) (t15 : List Int) (m2 k r : Int) : Tr (Ex × St) := .br (decide (pre_c1 l t c n o t8 m i t15 m2 k r)) (.leaf (some (.exit 2, St.of 37 (lve_c1 (.exit 2)) [yN l, vC t, .si .i64 c, .si .i64 n, .si .i64 (othD t c), .slst .ro ity t8, .si .i64 m, .si .i64 i] [some [z0], some [z0], some [.si .i64 r]] [] hp_c1.kh hp_c1.kt))) (.leaf none)
def ent_c1 : LEnt := LEnt.by hp_c1 fun ⟨(l, (t, _), c, n, o, t8, m, i, t15, m2, k, _), ((_, _), (_, _), (r, _), _), _⟩ => res_c1 l t c n o t8 m i t15 m2 k r
theorem ent_c1_ok (hgo : ∀ (l : Nat) (t : List Int) (c n o : Int) (t8 : List Int) (m i : Int) (t15 : List Int) (m2 k r : Int), pre_c1 l t c n o t8 m i t15 m2 k r → SemL Try.prog Γ (lp 67 1) (st_c1 l t c n o t8 m i t15 m2 k r) (rs_c1 l t c n o t8 m i t15 m2 k r).1.to (rs_c1 l t c n o t8 m i t15 m2 k r).2) : EntOk Try.prog Γ (lp 67 1) ent_c1 := LEnt.by_ok fun ⟨(l, (t, _), c, n, o, t8, m, i, t15, m2, k, _), ((_, _), (_, _), (r, _), _), _⟩ _ _ h_ => SemL.br (out := rs_c1 l t c n o t8 m i t15 m2 k r) rfl (hgo l t c n o t8 m i t15 m2 k r) h_
theorem othT_next (t : List Int) (c : Int) (k : Nat) : othT t c (k + 1) = if (k : Int) ≠ c then (if t.getD k 0 > othT t c k then t.getD k 0 else othT t c k) else othT t c k := rfl
theorem c1_go (l : Nat) (t : List Int) (c n o : Int) (t8 : List Int) (m i : Int) (t15 : List Int) (m2 k r : Int) (h : pre_c1 l t c n o t8 m i t15 m2 k r) : SemL Try.prog Γ (lp 67 1) (st_c1 l t c n o t8 m i t15 m2 k r) (rs_c1 l t c n o t8 m i t15 m2 k r).1.to (rs_c1 l t c n o t8 m i t15 m2 k r).2 := by
 obtain ⟨rfl, rfl, rfl, rfl, hc⟩ := h
 refine SemL.scan t15.length 0 (Nat.zero_le _) (fun k => st_c1 l t15 c n (othT t15 c k) t8 m i t15 t15.length (k : Nat) r) (fun _ => true) _ ?_ ?_ ?_
 · intro k _ hk _ _
   refine rn_c1_c l t15 c n _ t8 m i t15 t15.length k r (e := .normal) ?_
   rw [rn_c1_eq, wrap_succ hk (by omega), decide_eq_true (by omega : (k : Int) < t15.length), decide_eq_true (by omega : (0 : Int) ≤ (k : Int) ∧ (k : Int) < t15.length), Int.toNat_natCast, othT_next]
   by_cases h1 : (k : Int) = c
   · rw [show ((k : Int) != c) = false by simp [h1], if_neg (show ¬ (k : Int) ≠ c from fun h => h h1)]; rfl
   · rw [show ((k : Int) != c) = true by simpa using h1, if_pos (show (k : Int) ≠ c from h1)]; rfl
 · intro k _ hk _ hp
   cases hp
 · intro _
   unfold rs_c1
   refine ⟨by simp [Ex.to], rn_c1_c l t15 c n _ t8 m i t15 t15.length t15.length r (e := .exit 2) ?_⟩
   rw [rn_c1_eq, decide_eq_false (by omega)]
   rfl
abbrev pre_c2 (l : Nat) (t : List Int) (c n o : Int) (t8 : List Int) (m i : Int) (t15 : List Int) (m2 k : Int) (j : Nat) (r : Int) (b : List Int) : Prop := t15 = t ∧ m2 = (t.length : Int) ∧ k = 0 ∧ o = 0 ∧ t.length ≤ 1000
def rs_c2 (l : Nat) (t : List Int) (c n o : Int) (t8 : List Int) (m i : Int) (t15 : List Int) (m2 k : Int) (j : Nat) (r : Int) (b : List Int) : Ex × St := (.exit 2, St.of 37 (lve_c2 (.exit 2)) [yN l, vC t, .si .i64 c, .si .i64 n, .si .i64 (othD t c), .slst .ro ity t8, .si .i64 m, .si .i64 i] [some [.bs true 0 0 j], some [.si .i64 r]] [some (.live (.arr ity b))] hp_c2.kh hp_c2.kt)
def res_c2 (l : Nat) (t : List Int) (c n o : Int) (t8 : List Int) (m i : Int) (t15 : List Int) (m2 k : Int) (j : Nat) (r : Int) (b : List Int) : Tr (Ex × St) := .br (decide (pre_c2 l t c n o t8 m i t15 m2 k j r b)) (.leaf (some (.exit 2, St.of 37 (lve_c2 (.exit 2)) [yN l, vC t, .si .i64 c, .si .i64 n, .si .i64 (othD t c), .slst .ro ity t8, .si .i64 m, .si .i64 i] [some [.bs true 0 0 j], some [.si .i64 r]] [some (.live (.arr ity b))] hp_c2.kh hp_c2.kt))) (.leaf none)
def ent_c2 : LEnt := LEnt.by hp_c2 fun ⟨(l, (t, _), c, n, o, t8, m, i, t15, m2, k, _), ((j, _), (r, _), _), (b, _)⟩ => res_c2 l t c n o t8 m i t15 m2 k j r b
theorem ent_c2_ok (hgo : ∀ (l : Nat) (t : List Int) (c n o : Int) (t8 : List Int) (m i : Int) (t15 : List Int) (m2 k : Int) (j : Nat) (r : Int) (b : List Int), pre_c2 l t c n o t8 m i t15 m2 k j r b → SemL Try.prog Γ (lp 67 1) (st_c2 l t c n o t8 m i t15 m2 k j r b) (rs_c2 l t c n o t8 m i t15 m2 k j r b).1.to (rs_c2 l t c n o t8 m i t15 m2 k j r b).2) : EntOk Try.prog Γ (lp 67 1) ent_c2 := LEnt.by_ok fun ⟨(l, (t, _), c, n, o, t8, m, i, t15, m2, k, _), ((j, _), (r, _), _), (b, _)⟩ _ _ h_ => SemL.br (out := rs_c2 l t c n o t8 m i t15 m2 k j r b) rfl (hgo l t c n o t8 m i t15 m2 k j r b) h_
theorem c2_go (l : Nat) (t : List Int) (c n o : Int) (t8 : List Int) (m i : Int) (t15 : List Int) (m2 k : Int) (j : Nat) (r : Int) (b : List Int) (h : pre_c2 l t c n o t8 m i t15 m2 k j r b) : SemL Try.prog Γ (lp 67 1) (st_c2 l t c n o t8 m i t15 m2 k j r b) (rs_c2 l t c n o t8 m i t15 m2 k j r b).1.to (rs_c2 l t c n o t8 m i t15 m2 k j r b).2 := by
 obtain ⟨rfl, rfl, rfl, rfl, hc⟩ := h
 refine SemL.scan t15.length 0 (Nat.zero_le _) (fun k => st_c2 l t15 c n (othT t15 c k) t8 m i t15 t15.length (k : Nat) j r b) (fun _ => true) _ ?_ ?_ ?_
 · intro k _ hk _ _
   refine rn_c2_c l t15 c n _ t8 m i t15 t15.length k j r b (e := .normal) ?_
   rw [rn_c2_eq, wrap_succ hk (by omega), decide_eq_true (by omega : (k : Int) < t15.length), decide_eq_true (by omega : (0 : Int) ≤ (k : Int) ∧ (k : Int) < t15.length), Int.toNat_natCast, othT_next]
   by_cases h1 : (k : Int) = c
   · rw [show ((k : Int) != c) = false by simp [h1], if_neg (show ¬ (k : Int) ≠ c from fun h => h h1)]; rfl
   · rw [show ((k : Int) != c) = true by simpa using h1, if_pos (show (k : Int) ≠ c from h1)]; rfl
 · intro k _ hk _ hp
   cases hp
 · intro _
   unfold rs_c2
   refine ⟨by simp [Ex.to], rn_c2_c l t15 c n _ t8 m i t15 t15.length t15.length j r b (e := .exit 2) ?_⟩
   rw [rn_c2_eq, decide_eq_false (by omega)]
   rfl
def loS : LOrc := (LOrc.add lo6 67 1 ent_c1)
theorem loS_ok : LOrcOk Try.prog Γ loS := (LOrcOk.add lo6_ok 67 1 Try.func67 bd_c1 le_c1 (ent_c1_ok c1_go))
def loP : LOrc := (LOrc.add lo6 67 1 ent_c2)
theorem loP_ok : LOrcOk Try.prog Γ loP := (LOrcOk.add lo6_ok 67 1 Try.func67 bd_c2 le_c2 (ent_c2_ok c2_go))
noncomputable def cfgS : Cfg := cfgO o16 loS
theorem cfgS_ok : CfgOk Try.prog Γ cfgS := cfgO_ok o16_ok loS_ok
noncomputable def cfgP : Cfg := cfgO o16 loP
theorem cfgP_ok : CfgOk Try.prog Γ cfgP := cfgO_ok o16_ok loP_ok
theorem y0_eq (l : Nat) (t : List Int) (r : Int) : (pc 67 0 cfgS k0 [0, 1, 8, 9, 10] [] (St.start 37 [yN l, vC t] (obS r) [])).run = (some ((Ex.normal, [V.fn (Fn.yield l) [] [], V.pel [V.agg [V.slst Tag.ro ity t]] (0 : Nat) (0 : Nat), V.slst Tag.ro ity t, V.si IntKind.i64 (Nat.cast (t.length) : Int), V.i IntKind.i64 (0 : Int)], [some [V.i IntKind.i64 (0 : Int)], some [V.i IntKind.i64 (0 : Int)], some [V.si IntKind.i64 r]], [], (37 : Nat), (3 : Nat), (0 : Nat)))) := by kernel_rfl
theorem yA_eq (l : Nat) (t : List Int) (m i r : Int) : (pc 67 1 cfgS kA [0, 1, 8, 9, 10, 11] [] (ySt [0, 1, 8, 9, 10] [yN l, vC t, .slst .ro ity t, .si .i64 m, .si .i64 i] r)).run = (some ((Ex.normal, [V.fn (Fn.yield l) [] [], V.pel [V.agg [V.slst Tag.ro ity t]] (0 : Nat) (0 : Nat), V.slst Tag.ro ity t, V.si IntKind.i64 m, V.si IntKind.i64 i, V.sb (decide (i < m))], [some [V.i IntKind.i64 (0 : Int)], some [V.i IntKind.i64 (0 : Int)], some [V.si IntKind.i64 r]], [], (37 : Nat), (3 : Nat), (0 : Nat)))) := by kernel_rfl
theorem yB_eq (l : Nat) (t : List Int) (m i r : Int) (b : Bool) : (pc 67 1 cfgS kB [0, 1, 8, 9, 10] [] (ySt [0, 1, 8, 9, 10, 11] [yN l, vC t, .slst .ro ity t, .si .i64 m, .si .i64 i, .sb b] r)).run = (bif b then (some ((Ex.normal, [V.fn (Fn.yield l) [] [], V.pel [V.agg [V.slst Tag.ro ity t]] (0 : Nat) (0 : Nat), V.slst Tag.ro ity t, V.si IntKind.i64 m, V.si IntKind.i64 i], [some [V.i IntKind.i64 (0 : Int)], some [V.i IntKind.i64 (0 : Int)], some [V.si IntKind.i64 r]], [], (37 : Nat), (3 : Nat), (0 : Nat)))) else (some ((Ex.exit (0 : Nat), [], [some [V.i IntKind.i64 (0 : Int)], some [V.i IntKind.i64 (0 : Int)], some [V.si IntKind.i64 r]], [], (37 : Nat), (3 : Nat), (0 : Nat))))) := by kernel_rfl
theorem yC_eq (l : Nat) (t : List Int) (m i r : Int) : (pc 67 1 cfgS kC [0, 1, 3, 4, 8, 9, 10] [] (ySt [0, 1, 8, 9, 10] [yN l, vC t, .slst .ro ity t, .si .i64 m, .si .i64 i] r)).run = (bif decide ((0 : Int) ≤ i ∧ i < (Nat.cast (t.length) : Int)) then (some ((Ex.normal, [V.fn (Fn.yield l) [] [], V.pel [V.agg [V.slst Tag.ro ity t]] (0 : Nat) (0 : Nat), V.si IntKind.i64 i, V.si IntKind.i64 (t.getD i.toNat (0 : Int)), V.slst Tag.ro ity t, V.si IntKind.i64 m, V.si IntKind.i64 i], [some [V.i IntKind.i64 (0 : Int)], some [V.i IntKind.i64 (0 : Int)], some [V.si IntKind.i64 r]], [], (37 : Nat), (3 : Nat), (0 : Nat)))) else none) := by kernel_rfl
theorem yD_eq (l : Nat) (t : List Int) (m i c n r : Int) : (pc 67 1 cfgS kD [0, 1, 3, 4, 5, 8, 9, 10] [] (ySt [0, 1, 3, 4, 8, 9, 10] [yN l, vC t, .si .i64 c, .si .i64 n, .slst .ro ity t, .si .i64 m, .si .i64 i] r)).run = (some ((Ex.normal, [V.fn (Fn.yield l) [] [], V.pel [V.agg [V.slst Tag.ro ity t]] (0 : Nat) (0 : Nat), V.si IntKind.i64 c, V.si IntKind.i64 n, V.i IntKind.i64 (0 : Int), V.slst Tag.ro ity t, V.si IntKind.i64 m, V.si IntKind.i64 i], [some [V.i IntKind.i64 (0 : Int)], some [V.i IntKind.i64 (0 : Int)], some [V.si IntKind.i64 r]], [], (37 : Nat), (3 : Nat), (0 : Nat)))) := by kernel_rfl
theorem yE_eq (l : Nat) (t : List Int) (m i c n r : Int) : (pc 67 1 cfgS kE [0, 1, 3, 4, 5, 8, 9, 10] [] (ySt [0, 1, 3, 4, 5, 8, 9, 10] [yN l, vC t, .si .i64 c, .si .i64 n, z0, .slst .ro ity t, .si .i64 m, .si .i64 i] r)).run = (bif decide (pre_c1 l t c n (0 : Int) t m i t (Nat.cast (t.length) : Int) (0 : Int) r) then (some ((Ex.normal, [V.fn (Fn.yield (have this := l; this)) [] [], V.pel [V.agg [V.slst Tag.ro ity t]] (0 : Nat) (0 : Nat), V.si IntKind.i64 c, V.si IntKind.i64 n, V.si IntKind.i64 (othD t c), V.slst Tag.ro ity t, V.si IntKind.i64 m, V.si IntKind.i64 i], [some [V.i IntKind.i64 (0 : Int)], some [V.i IntKind.i64 (0 : Int)], some [V.si IntKind.i64 r]], [], (37 : Nat), (3 : Nat), (0 : Nat)))) else none) := by kernel_rfl
theorem yH0_eq (l : Nat) (t : List Int) (m i r : Int) : (pc 67 2 cfgS kH [0, 1, 8, 9, 10] [] (ySt [0, 1, 8, 9, 10, 35] [yN l, vC t, .slst .ro ity t, .si .i64 m, .si .i64 i, .b false] r)).run = (some ((Ex.normal, [V.fn (Fn.yield l) [] [], V.pel [V.agg [V.slst Tag.ro ity t]] (0 : Nat) (0 : Nat), V.slst Tag.ro ity t, V.si IntKind.i64 m, V.si IntKind.i64 i], [some [V.i IntKind.i64 (0 : Int)], some [V.i IntKind.i64 (0 : Int)], some [V.si IntKind.i64 r]], [], (37 : Nat), (3 : Nat), (0 : Nat)))) := by kernel_rfl
theorem yH1_eq (l : Nat) (t : List Int) (m i c r : Int) : (pc 67 2 cfgS kH [0, 1, 8, 9, 10] [] (St.of 37 [0, 1, 8, 9, 10, 35] [yN l, vC t, .slst .ro ity t, .si .i64 m, .si .i64 i, .b true] [some [.si .i64 c], some [z0], some [.si .i64 r]] [] 3 0)).run = (some ((Ex.ret, [], [some [V.si IntKind.i64 c], some [V.i IntKind.i64 (0 : Int)], some [V.si IntKind.i64 r]], [], (37 : Nat), (3 : Nat), (0 : Nat)))) := by kernel_rfl
theorem yK_eq (l : Nat) (t : List Int) (m i r : Int) : (pc 67 2 cfgS kK [0, 1, 8, 9, 10] [] (ySt [0, 1, 8, 9, 10] [yN l, vC t, .slst .ro ity t, .si .i64 m, .si .i64 i] r)).run = (some ((Ex.normal, [V.fn (Fn.yield l) [] [], V.pel [V.agg [V.slst Tag.ro ity t]] (0 : Nat) (0 : Nat), V.slst Tag.ro ity t, V.si IntKind.i64 m, V.si IntKind.i64 (IntKind.i64.wrap (i + (1 : Int)))], [some [V.i IntKind.i64 (0 : Int)], some [V.i IntKind.i64 (0 : Int)], some [V.si IntKind.i64 r]], [], (37 : Nat), (3 : Nat), (0 : Nat)))) := by kernel_rfl
theorem w0_eq (l : Nat) (t : List Int) (r : Int) (b : List Int) : (pc 67 0 cfgP k0 [0, 1, 8, 9, 10] [] (St.start 37 [yN l, vC t] [some [.lst .full []], some [.si .i64 r]] [])).run = (some ((Ex.normal, [V.fn (Fn.yield l) [] [], V.pel [V.agg [V.slst Tag.ro ity t]] (0 : Nat) (0 : Nat), V.slst Tag.ro ity t, V.si IntKind.i64 (Nat.cast (t.length) : Int), V.i IntKind.i64 (0 : Int)], [some [V.lst Tag.full []], some [V.si IntKind.i64 r]], [], (37 : Nat), (2 : Nat), (0 : Nat)))) := by kernel_rfl
theorem wA_eq (l : Nat) (t : List Int) (m i r : Int) (b : List Int) : (pc 67 1 cfgP kA [0, 1, 8, 9, 10, 11] [] (yOt [0, 1, 8, 9, 10] [yN l, vC t, .slst .ro ity t, .si .i64 m, .si .i64 i] r b)).run = (some ((Ex.normal, [V.fn (Fn.yield l) [] [], V.pel [V.agg [V.slst Tag.ro ity t]] (0 : Nat) (0 : Nat), V.slst Tag.ro ity t, V.si IntKind.i64 m, V.si IntKind.i64 i, V.sb (decide (i < m))], [some [V.bs true (0 : Nat) (0 : Nat) b.length], some [V.si IntKind.i64 r]], [some (Bf.live (BC.arr ity b))], (37 : Nat), (2 : Nat), (0 : Nat)))) := by kernel_rfl
theorem wB_eq (l : Nat) (t : List Int) (m i r : Int) (q : Bool) (b : List Int) : (pc 67 1 cfgP kB [0, 1, 8, 9, 10] [] (yOt [0, 1, 8, 9, 10, 11] [yN l, vC t, .slst .ro ity t, .si .i64 m, .si .i64 i, .sb q] r b)).run = (bif q then (some ((Ex.normal, [V.fn (Fn.yield l) [] [], V.pel [V.agg [V.slst Tag.ro ity t]] (0 : Nat) (0 : Nat), V.slst Tag.ro ity t, V.si IntKind.i64 m, V.si IntKind.i64 i], [some [V.bs true (0 : Nat) (0 : Nat) b.length], some [V.si IntKind.i64 r]], [some (Bf.live (BC.arr ity b))], (37 : Nat), (2 : Nat), (0 : Nat)))) else (some ((Ex.exit (0 : Nat), [], [some [V.bs true (0 : Nat) (0 : Nat) b.length], some [V.si IntKind.i64 r]], [some (Bf.live (BC.arr ity b))], (37 : Nat), (2 : Nat), (0 : Nat))))) := by kernel_rfl
theorem wC_eq (l : Nat) (t : List Int) (m i r : Int) (b : List Int) : (pc 67 1 cfgP kC [0, 1, 3, 4, 8, 9, 10] [] (yOt [0, 1, 8, 9, 10] [yN l, vC t, .slst .ro ity t, .si .i64 m, .si .i64 i] r b)).run = (bif decide ((0 : Int) ≤ i ∧ i < (Nat.cast (t.length) : Int)) then (some ((Ex.normal, [V.fn (Fn.yield l) [] [], V.pel [V.agg [V.slst Tag.ro ity t]] (0 : Nat) (0 : Nat), V.si IntKind.i64 i, V.si IntKind.i64 (t.getD i.toNat (0 : Int)), V.slst Tag.ro ity t, V.si IntKind.i64 m, V.si IntKind.i64 i], [some [V.bs true (0 : Nat) (0 : Nat) b.length], some [V.si IntKind.i64 r]], [some (Bf.live (BC.arr ity b))], (37 : Nat), (2 : Nat), (0 : Nat)))) else none) := by kernel_rfl
theorem wD_eq (l : Nat) (t : List Int) (m i c n r : Int) (b : List Int) : (pc 67 1 cfgP kD [0, 1, 3, 4, 5, 8, 9, 10] [] (yOt [0, 1, 3, 4, 8, 9, 10] [yN l, vC t, .si .i64 c, .si .i64 n, .slst .ro ity t, .si .i64 m, .si .i64 i] r b)).run = (some ((Ex.normal, [V.fn (Fn.yield l) [] [], V.pel [V.agg [V.slst Tag.ro ity t]] (0 : Nat) (0 : Nat), V.si IntKind.i64 c, V.si IntKind.i64 n, V.i IntKind.i64 (0 : Int), V.slst Tag.ro ity t, V.si IntKind.i64 m, V.si IntKind.i64 i], [some [V.bs true (0 : Nat) (0 : Nat) b.length], some [V.si IntKind.i64 r]], [some (Bf.live (BC.arr ity b))], (37 : Nat), (2 : Nat), (0 : Nat)))) := by kernel_rfl
theorem wE_eq (l : Nat) (t : List Int) (m i c n r : Int) (b : List Int) : (pc 67 1 cfgP kE [0, 1, 3, 4, 5, 8, 9, 10] [] (yOt [0, 1, 3, 4, 5, 8, 9, 10] [yN l, vC t, .si .i64 c, .si .i64 n, z0, .slst .ro ity t, .si .i64 m, .si .i64 i] r b)).run = (bif decide (pre_c2 l t c n (0 : Int) t m i t (Nat.cast (t.length) : Int) (0 : Int) b.length r b) then (some ((Ex.normal, [V.fn (Fn.yield (have this := l; this)) [] [], V.pel [V.agg [V.slst Tag.ro ity t]] (0 : Nat) (0 : Nat), V.si IntKind.i64 c, V.si IntKind.i64 n, V.si IntKind.i64 (othD t c), V.slst Tag.ro ity t, V.si IntKind.i64 m, V.si IntKind.i64 i], [some [V.bs true (0 : Nat) (0 : Nat) b.length], some [V.si IntKind.i64 r]], [some (Bf.live (BC.arr ity b))], (37 : Nat), (2 : Nat), (0 : Nat)))) else none) := by kernel_rfl
theorem wH_eq (l : Nat) (t : List Int) (m i r : Int) (b : List Int) : (pc 67 2 cfgP kH [0, 1, 8, 9, 10] [] (yOt [0, 1, 8, 9, 10, 35] [yN l, vC t, .slst .ro ity t, .si .i64 m, .si .i64 i, .b false] r b)).run = (some ((Ex.normal, [V.fn (Fn.yield l) [] [], V.pel [V.agg [V.slst Tag.ro ity t]] (0 : Nat) (0 : Nat), V.slst Tag.ro ity t, V.si IntKind.i64 m, V.si IntKind.i64 i], [some [V.bs true (0 : Nat) (0 : Nat) b.length], some [V.si IntKind.i64 r]], [some (Bf.live (BC.arr ity b))], (37 : Nat), (2 : Nat), (0 : Nat)))) := by kernel_rfl
theorem wK_eq (l : Nat) (t : List Int) (m i r : Int) (b : List Int) : (pc 67 2 cfgP kK [0, 1, 8, 9, 10] [] (yOt [0, 1, 8, 9, 10] [yN l, vC t, .slst .ro ity t, .si .i64 m, .si .i64 i] r b)).run = (some ((Ex.normal, [V.fn (Fn.yield l) [] [], V.pel [V.agg [V.slst Tag.ro ity t]] (0 : Nat) (0 : Nat), V.slst Tag.ro ity t, V.si IntKind.i64 m, V.si IntKind.i64 (IntKind.i64.wrap (i + (1 : Int)))], [some [V.bs true (0 : Nat) (0 : Nat) b.length], some [V.si IntKind.i64 r]], [some (Bf.live (BC.arr ity b))], (37 : Nat), (2 : Nat), (0 : Nat)))) := by kernel_rfl
def tmS (t : List Int) : List V := (St.of 30 [2, 3, 5, 19] [.ptr 0 0, .ptr 1 0, .ptr 2 0, .fn (.func 67) [] [vC t]] [] []).tm
def tmO (t : List Int) : List V := (St.of 33 [2, 5, 18] [.ptr 0 0, .ptr 1 0, .fn (.func 67) [] [vC t]] [] []).tm
theorem aS_eq (t : List Int) (c n o r : Int) : (pc 18 0 cfgS sAs [2, 3, 5, 7, 8] [] ⟨setPs [20, 21] [.si .i64 c, .agg [.si .i64 n, .si .i64 o]] (tmS t), obS r, [], 3, 0⟩).run = (some ((Ex.normal, [V.ptr (0 : Nat) (0 : Nat), V.ptr (1 : Nat) (0 : Nat), V.ptr (2 : Nat) (0 : Nat), V.si IntKind.i64 c, V.ptr (3 : Nat) (0 : Nat)], [some [V.i IntKind.i64 (0 : Int)], some [V.i IntKind.i64 (0 : Int)], some [V.si IntKind.i64 r], some [V.si IntKind.i64 n, V.si IntKind.i64 o]], [], (30 : Nat), (3 : Nat), (0 : Nat)))) := by kernel_rfl
theorem bS_eq (c n o r : Int) : (pc 18 0 cfgS sBd [] [] (St.of 30 [2, 3, 5, 7, 8] [.ptr 0 0, .ptr 1 0, .ptr 2 0, .si .i64 c, .ptr 3 0] [some [z0], some [z0], some [.si .i64 r], some [.si .i64 n, .si .i64 o]] [] 3 0)).run = (bif decide (n > IntKind.i64.wrap (o + r)) then (some ((Ex.ret, [], [some [V.si IntKind.i64 c], some [V.i IntKind.i64 (0 : Int)], some [V.si IntKind.i64 r]], [], (30 : Nat), (3 : Nat), (0 : Nat)))) else (some ((Ex.normal, [], [some [V.i IntKind.i64 (0 : Int)], some [V.i IntKind.i64 (0 : Int)], some [V.si IntKind.i64 r]], [], (30 : Nat), (3 : Nat), (0 : Nat))))) := by kernel_rfl
theorem aO_eq (t : List Int) (c n o r : Int) (b : List Int) : (pc 20 0 cfgP oAs [2, 5, 6, 7] [] ⟨setPs [19, 20] [.si .i64 c, .agg [.si .i64 n, .si .i64 o]] (tmO t), [some [.bs true 0 0 b.length], some [.si .i64 r]], [some (.live (.arr ity b))], 2, 1⟩).run = (some ((Ex.normal, [V.ptr (0 : Nat) (0 : Nat), V.ptr (1 : Nat) (0 : Nat), V.si IntKind.i64 c, V.ptr (2 : Nat) (0 : Nat)], [some [V.bs true (0 : Nat) (0 : Nat) b.length], some [V.si IntKind.i64 r], some [V.si IntKind.i64 n, V.si IntKind.i64 o]], [some (Bf.live (BC.arr ity b))], (33 : Nat), (2 : Nat), (1 : Nat)))) := by kernel_rfl
theorem bO_eq (c n o r : Int) (b : List Int) : (pc 20 0 cfgP oBd [] [] (St.of 33 [2, 5, 6, 7] [.ptr 0 0, .ptr 1 0, .si .i64 c, .ptr 2 0] [some [.bs true 0 0 b.length], some [.si .i64 r], some [.si .i64 n, .si .i64 o]] [some (.live (.arr ity b))] 2 1)).run = (bif decide (IntKind.i64.wrap (n + r) ≥ o) then (bif decide ((b.length + 1) * 2 * 8 ≤ 281474976710656) then (some ((Ex.normal, [], [some [V.bs true (1 : Nat) (0 : Nat) (b.length + (1 : Nat))], some [V.si IntKind.i64 r]], [some Bf.dead, some (Bf.live (BC.arr ity (List.take b.length (List.drop (0) b) ++ [c])))], (33 : Nat), (2 : Nat), (1 : Nat)))) else none) else (some ((Ex.normal, [], [some [V.bs true (0 : Nat) (0 : Nat) b.length], some [V.si IntKind.i64 r]], [some (Bf.live (BC.arr ity b))], (33 : Nat), (2 : Nat), (1 : Nat))))) := by kernel_rfl
end T
end Go.Proofs.Ytofbchcclkejgaa

/- Package tally: Sure: contract. -/
set_option linter.unusedVariables false
set_option linter.unusedSimpArgs false
set_option maxRecDepth 100000
set_option maxHeartbeats 4000000
namespace Go.Proofs.Ytofbchcclkejgaa
open Go
namespace T
theorem pc_ok {C : Cfg} (hC : CfgOk Try.prog Γ C) {f : Nat} {fn : Func} (hf : Try.prog.funcs[f]? = some fn) (hb : fn.body = some (root f)) {i : Nat} {c : Code} (hl : Lies (root f) i c) {lv lvr : List Nat} {x : St} {e : Ex} {vs : List V} {ob : Ob} {nm : Nm} {m kh kt : Nat}
 (h : (pc f i C c lv lvr x).run = some (e, vs, ob, nm, m, kh, kt)) : SemC Try.prog Γ c x e.to (St.of m (lvE lv lvr e) vs ob nm kh kt) := SemC.of_evM hC hf hb hl h
theorem bd18 : Try.f18.body = some (root 18) := by kernel_rfl
theorem bd20 : Try.f20.body = some (root 20) := by kernel_rfl
theorem bd67 : Try.f67.body = some (root 67) := by kernel_rfl
theorem lies0 {f i : Nat} {c : Code} (h : loops c = []) : Lies (root f) i c := fun j b hj => by rw [h] at hj; simp at hj
def sureAt (t : List Int) (r : Int) (c : Nat) : Bool := decide (t.getD c 0 > othD t c + r)
abbrev brkR (r : Loop) : Loop := { r with state := .done, pending := some .ret }
theorem si0 {G : Gh} {k : IntKind} {n : Int} {cv : Value} (h : VRel G (.i k n) cv) : VRel G (.si k n) cv := by cases h; exact .si _ _
def obT (c r : Int) : Ob := [some [.si .i64 c], some [z0], some [.si .i64 r]]
section
variable {l : Nat} {r0 : Loop} {t : List Int} {c n o r : Int}
theorem stepS0 (hp : r0.params = #[20, 21]) (ha : r0.assign = sAs) (hb : r0.body = sBd) (h : ¬ n > IntKind.i64.wrap (o + r)) : YStep Try.prog Γ l r0 (tmS t) none [.si .i64 c, .agg [.si .i64 n, .si .i64 o]] (obS r) [] true (obS r) [] := by
 have hA := pc_ok cfgS_ok Try.func18 bd18 (lies0 (by kernel_rfl)) (aS_eq t c n o r)
 have hB := pc_ok cfgS_ok Try.func18 bd18 (lies0 (by kernel_rfl)) (lvr := []) (lv := []) (c := sBd) ((bS_eq c n o r).trans (by rw [decide_eq_false h]; rfl))
 refine YStep.of (r := r0) (br := false) (tm := tmS t) (vs := [.si .i64 c, .agg [.si .i64 n, .si .i64 o]]) (ob := obS r) (nm := []) (by rw [hp]; rfl) ?_ ?_ ?_ (s1 := St.of 30 [2, 3, 5, 7, 8] [V.ptr 0 0, V.ptr 1 0, V.ptr 2 0, V.si IntKind.i64 c, V.ptr 3 0] [some [z0], some [z0], some [.si .i64 r], some [.si .i64 n, .si .i64 o]] [] 3 0) (s2 := St.of 30 [] [] (obS r) [] 3 0)
 · rw [hp, ha]; exact hA
 · kernel_rfl
 · rw [hb]; exact hB
theorem stepS1 (hp : r0.params = #[20, 21]) (ha : r0.assign = sAs) (hb : r0.body = sBd) (h : n > IntKind.i64.wrap (o + r)) : YStep Try.prog Γ l r0 (tmS t) (some (brkR r0)) [.si .i64 c, .agg [.si .i64 n, .si .i64 o]] (obS r) [] false (obT c r) [] := by
 have hA := pc_ok cfgS_ok Try.func18 bd18 (lies0 (by kernel_rfl)) (aS_eq t c n o r)
 have hB := pc_ok cfgS_ok Try.func18 bd18 (lies0 (by kernel_rfl)) (lvr := []) (lv := []) (c := sBd) ((bS_eq c n o r).trans (by rw [decide_eq_true h]; rfl))
 refine YStep.of (r := r0) (br := true) (tm := tmS t) (vs := [.si .i64 c, .agg [.si .i64 n, .si .i64 o]]) (ob := obS r) (nm := []) (by rw [hp]; rfl) ?_ ?_ ?_ (s1 := St.of 30 [2, 3, 5, 7, 8] [V.ptr 0 0, V.ptr 1 0, V.ptr 2 0, V.si IntKind.i64 c, V.ptr 3 0] [some [z0], some [z0], some [.si .i64 r], some [.si .i64 n, .si .i64 o]] [] 3 0) (s2 := St.of 30 [] [] (obT c r) [] 3 0)
 · rw [hp, ha]; exact hA
 · kernel_rfl
 · rw [hb]; exact hB
noncomputable def cfS : CallF := cfM Try.prog Γ cfgS 30
noncomputable def sF (l : Nat) (t : List Int) (m i c n o r : Int) : St := ySt [0, 1, 3, 4, 5, 8, 9, 10] [yN l, vC t, .si .i64 c, .si .i64 n, .si .i64 o, .slst .ro ity t, .si .i64 m, .si .i64 i] r
noncomputable def xF (l : Nat) (t : List Int) (m i c n o r : Int) : St := ((chain Try.prog Γ cfS (opsOf kF) 0 5 0 (sF l t m i c n o r)).map Prod.fst).getD (sF l t m i c n o r)
theorem kFS0 {m i : Int} (hs : YStep Try.prog Γ l r0 (tmS t) none [.si .i64 c, .agg [.si .i64 n, .si .i64 o]] (obS r) [] true (obS r) []) : SemY Try.prog Γ l r0 (tmS t) none (.region 10 (opsOf kF) false) (sF l t m i c n o r) .normal (ySt [0, 1, 8, 9, 10, 35] [yN l, vC t, .slst .ro ity t, .si .i64 m, .si .i64 i, .b false] r) :=
 SemY.callS (cfM_fit cfgS_ok 30).1 (cfM_fit cfgS_ok 30).2 (k := 5) (m := 1) (d := 34) (xx := .tmp 29) (args := #[.tmp 30, .tmp 33]) (tys := #[3, 76]) (x1 := xF l t m i c n o r) (by kernel_rfl) (by kernel_rfl) (by kernel_rfl) (by kernel_rfl) (by kernel_rfl) (by kernel_rfl) (by kernel_rfl) (by kernel_rfl) (by kernel_rfl) hs (by kernel_rfl)
theorem kFS1 {m i : Int} (hs : YStep Try.prog Γ l r0 (tmS t) (some (brkR r0)) [.si .i64 c, .agg [.si .i64 n, .si .i64 o]] (obS r) [] false (obT c r) []) : SemY Try.prog Γ l r0 (tmS t) (some (brkR r0)) (.region 10 (opsOf kF) false) (sF l t m i c n o r) .normal (St.of 37 [0, 1, 8, 9, 10, 35] [yN l, vC t, .slst .ro ity t, .si .i64 m, .si .i64 i, .b true] (obT c r) [] 3 0) :=
 SemY.callS (cfM_fit cfgS_ok 30).1 (cfM_fit cfgS_ok 30).2 (k := 5) (m := 1) (d := 34) (xx := .tmp 29) (args := #[.tmp 30, .tmp 33]) (tys := #[3, 76]) (x1 := xF l t m i c n o r) (by kernel_rfl) (by kernel_rfl) (by kernel_rfl) (by kernel_rfl) (by kernel_rfl) (by kernel_rfl) (by kernel_rfl) (by kernel_rfl) (by kernel_rfl) hs (by kernel_rfl)
noncomputable def embS (l : Nat) (t : List Int) (r : Int) (i : Nat) : St := ySt [0, 1, 8, 9, 10] [yN l, vC t, .slst .ro ity t, .si .i64 (t.length : Int), .si .i64 (i : Int)] r
theorem liesE : Lies (root 67) 1 kE := Lies.of_take (n := 1) (by kernel_rfl)
theorem preS (hl : t.length ≤ 1000) {i : Nat} (hi : i < t.length) {q : Option Loop} {x : Exit} {σ : St}
 (h : SemY Try.prog Γ l r0 (tmS t) q (.seq (.region 10 (opsOf kF) false) kH) (sF l t t.length i i (t.getD i 0) (othD t i) r) x σ) : SemY Try.prog Γ l r0 (tmS t) q kIn (ySt [0, 1, 8, 9, 10] [yN l, vC t, .slst .ro ity t, .si .i64 (t.length : Int), .si .i64 (i : Int)] r) x σ := by
 have hC := pc_ok cfgS_ok Try.func67 bd67 (lies0 (by kernel_rfl)) ((yC_eq l t t.length i r).trans (by rw [decide_eq_true (by omega : (0 : Int) ≤ (i : Int) ∧ (i : Int) < t.length), Int.toNat_natCast]; rfl))
 have hD := pc_ok cfgS_ok Try.func67 bd67 (lies0 (by kernel_rfl)) (yD_eq l t t.length i i (t.getD i 0) r)
 have hE := pc_ok cfgS_ok Try.func67 bd67 liesE ((yE_eq l t t.length i i (t.getD i 0) r).trans (by rw [decide_eq_true (show pre_c1 l t i (t.getD i 0) 0 t t.length i t (Nat.cast t.length : Int) 0 r from ⟨rfl, rfl, rfl, rfl, hl⟩)]; rfl))
 have e : kIn = .seq kC (.seq kD (.seq kE (.seq (.region 10 (opsOf kF) false) kH))) := by kernel_rfl
 rw [e]
 exact (SemY.of hC).seq ((SemY.of hD).seq ((SemY.of hE).seq h))
theorem roundS0 (hp : r0.params = #[20, 21]) (ha : r0.assign = sAs) (hb : r0.body = sBd) (hl : t.length ≤ 1000) {i : Nat} (hi : i < t.length) (h : ¬ t.getD i 0 > IntKind.i64.wrap (othD t i + r)) :
 SemY Try.prog Γ l r0 (tmS t) none kr (embS l t r i) .normal (embS l t r (i + 1)) := by
 have hA := pc_ok cfgS_ok Try.func67 bd67 (lies0 (by kernel_rfl)) (yA_eq l t t.length i r)
 have hB := pc_ok cfgS_ok Try.func67 bd67 (lies0 (by kernel_rfl)) ((yB_eq l t t.length i r (decide ((i : Int) < t.length))).trans (by rw [decide_eq_true (by omega : (i : Int) < t.length)]; rfl))
 have hH := pc_ok cfgS_ok Try.func67 bd67 (lies0 (by kernel_rfl)) (yH0_eq l t t.length i r)
 have hK := pc_ok cfgS_ok Try.func67 bd67 (lies0 (by kernel_rfl)) ((yK_eq l t t.length i r).trans (by rw [wrap_succ hi (by omega)]))
 have hF := kFS0 (l := l) (m := t.length) (i := i) (stepS0 (l := l) (t := t) (c := i) hp ha hb h)
 rw [kr_eq]
 exact (SemY.of hA).seq ((SemY.of hB).seq ((SemY.block (by simp) (by
  have := preS (l := l) (r0 := r0) (r := r) hl hi (hF.seqC hH)
  rw [show kIn = .seq kC (.seq kD (.seq kE (.seq (.region 10 (opsOf kF) false) kH))) by kernel_rfl] at this
  exact this)).seqC hK))
theorem roundS1 (hp : r0.params = #[20, 21]) (ha : r0.assign = sAs) (hb : r0.body = sBd) (hl : t.length ≤ 1000) {i : Nat} (hi : i < t.length) (h : t.getD i 0 > IntKind.i64.wrap (othD t i + r)) :
 SemY Try.prog Γ l r0 (tmS t) (some (brkR r0)) kr (embS l t r i) .ret (St.of 37 [] [] (obT i r) [] 3 0) := by
 have hA := pc_ok cfgS_ok Try.func67 bd67 (lies0 (by kernel_rfl)) (yA_eq l t t.length i r)
 have hB := pc_ok cfgS_ok Try.func67 bd67 (lies0 (by kernel_rfl)) ((yB_eq l t t.length i r (decide ((i : Int) < t.length))).trans (by rw [decide_eq_true (by omega : (i : Int) < t.length)]; rfl))
 have hH := pc_ok cfgS_ok Try.func67 bd67 (lies0 (by kernel_rfl)) (yH1_eq l t t.length i i r)
 have hF := kFS1 (l := l) (m := t.length) (i := i) (stepS1 (l := l) (t := t) (c := i) hp ha hb h)
 rw [kr_eq]
 exact (SemY.of hA).seq ((SemY.of hB).seq (SemY.seq_out (by simp) (SemY.block (by simp) (by
  have := preS (l := l) (r0 := r0) (r := r) hl hi (hF.seqC hH)
  rw [show kIn = .seq kC (.seq kD (.seq kE (.seq (.region 10 (opsOf kF) false) kH))) by kernel_rfl] at this
  exact this))))
theorem roundSx : SemY Try.prog Γ l r0 (tmS t) none kr (embS l t r t.length) (.exit 0) (St.of 37 [] [] (obS r) [] 3 0) := by
 have hA := pc_ok cfgS_ok Try.func67 bd67 (lies0 (by kernel_rfl)) (yA_eq l t t.length t.length r)
 have hB := pc_ok cfgS_ok Try.func67 bd67 (lies0 (by kernel_rfl)) ((yB_eq l t t.length t.length r (decide ((t.length : Int) < t.length))).trans (by rw [decide_eq_false (by omega)]; rfl))
 rw [kr_eq]
 exact (SemY.of hA).seq (SemY.seq_out (by simp) (SemY.of hB))
theorem headS : SemY Try.prog Γ l r0 (tmS t) none k0 (St.start 37 [yN l, vC t] (obS r) []) .normal (embS l t r 0) :=
 (SemY.of (pc_ok cfgS_ok Try.func67 bd67 (lies0 (by kernel_rfl)) (y0_eq l t r))).post (St.of_imps rfl fun G j v v' h1 h2 cv hr => by
  match j with
  | 0 => cases h1; cases h2; exact hr
  | 1 => cases h1; cases h2; exact hr
  | 2 => cases h1; cases h2; exact hr
  | 3 => cases h1; cases h2; exact hr
  | 4 => cases h1; cases h2; exact si0 hr
  | j + 5 => cases h1)
theorem candS0 (hs : r0.state = .ready) (hq : r0.pending = none) (hp : r0.params = #[20, 21]) (ha : r0.assign = sAs) (hb : r0.body = sBd) (hl : t.length ≤ 1000) (h : ∀ i, i < t.length → ¬ t.getD i 0 > IntKind.i64.wrap (othD t i + r)) :
 SemFY Try.prog Γ l r0 (tmS t) none 67 [yN l, vC t] (obS r) [] (.tup []) (obS r) [] := by
 refine SemFY.of_body hs hq (by kernel_rfl) (by kernel_rfl) Try.func67 bd67 (.inr rfl) (σ' := St.of 37 [] [] (obS r) [] 3 0) ?_ (by kernel_rfl)
 rw [root67]
 refine headS.seq (SemY.block_exit (SemY.loop ?_))
 exact SemLY.count (embS l t r) (k := t.length) (by simp) (fun i hi => roundS0 hp ha hb hl hi (h i hi)) roundSx
theorem candS1 (hs : r0.state = .ready) (hq : r0.pending = none) (hp : r0.params = #[20, 21]) (ha : r0.assign = sAs) (hb : r0.body = sBd) (hl : t.length ≤ 1000) {k : Nat} (hk : k < t.length) (h : ∀ i, i < k → ¬ t.getD i 0 > IntKind.i64.wrap (othD t i + r)) (h2 : t.getD k 0 > IntKind.i64.wrap (othD t k + r)) :
 SemFY Try.prog Γ l r0 (tmS t) (some (brkR r0)) 67 [yN l, vC t] (obS r) [] (.tup []) (obT k r) [] := by
 refine SemFY.of_body hs hq (by kernel_rfl) (by kernel_rfl) Try.func67 bd67 (.inl rfl) (σ' := St.of 37 [] [] (obT k r) [] 3 0) ?_ (by kernel_rfl)
 rw [root67]
 refine headS.seq (SemY.block (by simp) (SemY.loop ?_))
 exact SemLY.count (embS l t r) (k := k) (by simp) (fun i hi => roundS0 hp ha hb hl (by omega) (h i hi)) (roundS1 hp ha hb hl hk h2)
end
end T
end Go.Proofs.Ytofbchcclkejgaa

/- Package tally: Sure: contract; Open: rounds. -/
set_option linter.unusedVariables false
set_option linter.unusedSimpArgs false
set_option maxRecDepth 100000
set_option maxHeartbeats 4000000
namespace Go.Proofs.Ytofbchcclkejgaa
open Go
namespace T
theorem othT_bound {t : List Int} {B : Int} (hB : 0 ≤ B) (h : ∀ x ∈ t, x ≤ B) (c : Int) : ∀ k, k ≤ t.length → 0 ≤ othT t c k ∧ othT t c k ≤ B
 | 0, _ => ⟨Int.le_refl _, hB⟩
 | k + 1, hk => by
  have ih := othT_bound hB h c k (by omega)
  have hx := h _ (getD_mem 0 (show k < t.length by omega))
  rw [othT_next]
  split
  · split
    · omega
    · exact ih
  · exact ih
theorem totD_ok {c : Int} {ds : List Int} {rs : List (Ty.den retT)} (h : validT c ds rs = true) : (totD c rs).length = c.toNat ∧ ∀ x ∈ totD c rs, 0 ≤ x ∧ x ≤ 1200000 := by
 obtain ⟨g1, g2⟩ := totB_ok (rs := rs) (b := List.replicate c.toNat 0) (by rw [List.length_replicate]; exact validT_ok h) (fun x hx => (List.mem_replicate.1 hx).2) rs.length (Nat.le_refl _)
 rw [List.take_length] at g1 g2
 have h1 := validT_len h
 have h2 := (validC_iff.1 (validT_iff.1 h).1).2.1
 exact ⟨by rw [totD, g1]; simp, fun x hx => by have := g2 x hx; omega⟩
theorem restD_ok {c : Int} {ds : List Int} {rs : List (Ty.den retT)} (h : validT c ds rs = true) : -1200000000 ≤ restD ds rs ∧ restD ds rs ≤ 1200000 := by
 have h1 := validT_len h
 have h2 := validC_iff.1 (validT_iff.1 h).1
 have h3 := sum_bound h2.2.2
 have h4 := sumV_ok (n := c.toNat) (by omega) (validT_ok h) rs.length (Nat.le_refl _)
 rw [List.take_length] at h4
 unfold restD
 omega
def sureK (t : List Int) (r : Int) : Nat := (List.range t.length).findIdx (sureAt t r)
def sureD (t : List Int) (r : Int) : Int := if sureK t r < t.length then (sureK t r : Int) else -1
theorem range_getD {n i : Nat} (hi : i < n) : (List.range n).getD i 0 = i := by simp [List.getD, hi]
theorem sureK_before {t : List Int} {r : Int} {i : Nat} (hi : i < sureK t r) : sureAt t r i = false := by
 have hl : i < (List.range t.length).length := Nat.lt_of_lt_of_le hi List.findIdx_le_length
 have := findIdx_before 0 hi
 rwa [range_getD (by simpa using hl)] at this
theorem sureK_here {t : List Int} {r : Int} (h : sureK t r < t.length) : sureAt t r (sureK t r) = true := by
 have := findIdx_here (l := List.range t.length) (p := sureAt t r) 0 (by simpa [sureK] using h)
 rwa [show (List.range t.length).findIdx (sureAt t r) = sureK t r from rfl, range_getD h] at this
theorem lifts : ∀ (t : List Int) (r : Int), SemC Try.prog Γ s4 (St.of 30 [2, 3, 4, 5] [.ptr 0 0, .ptr 1 0, .slst .ro ity t, .ptr 2 0] (obS r) []) .normal (St.of 30 [2, 3, 5, 19] [.ptr 0 0, .ptr 1 0, .ptr 2 0, .fn (.func 67) [] [vC t]] (obS r) []) := fun t r => pc_ok cfg8_ok Try.func18 bd18 (lies0 (by kernel_rfl)) (p4_eq t r)
theorem rangeS (t : List Int) (r : Int) (hl : t.length ≤ 1000) (hw : ∀ c : Int, IntKind.i64.wrap (othD t c + r) = othD t c + r) (br : Bool) (hb : br = decide (sureK t r < t.length)) :
 SemC Try.prog Γ (.rangeFunc (.tmp 19) #[20, 21] sAs sBd) (St.of 30 [2, 3, 5, 19] [.ptr 0 0, .ptr 1 0, .ptr 2 0, .fn (.func 67) [] [vC t]] (obS r) []) (if br then .ret else .normal) (St.of 30 [2, 3, 5, 19] [.ptr 0 0, .ptr 1 0, .ptr 2 0, .fn (.func 67) [] [vC t]] (if br then obT (sureK t r) r else obS r) []) := by
 have hno : ∀ i, i < sureK t r → ¬ t.getD i 0 > IntKind.i64.wrap (othD t i + r) := fun i hi => by
  have := sureK_before hi
  rw [hw]
  simpa [sureAt] using this
 refine SemC.rangeFuncY (br := br) (f := 67) (fn := Try.f67) (first := []) (cap := [vC t]) (v := .tup []) (by kernel_rfl) Try.func67 (by kernel_rfl) (by kernel_rfl) (fun l r0 h1 h2 h3 h4 h5 => ?_) (by cases br <;> kernel_rfl)
 cases br with
 | false =>
  have hk : ¬ sureK t r < t.length := of_decide_eq_false hb.symm
  exact candS0 h1 h2 h3 h4 h5 hl (fun i hi => hno i (by omega))
 | true =>
  have hk : sureK t r < t.length := of_decide_eq_true hb.symm
  refine candS1 h1 h2 h3 h4 h5 hl hk hno ?_
  have := sureK_here hk
  rw [hw]
  simpa [sureAt] using this
theorem c18_ok (c : Int) (ds : List Int) (rs : List (Ty.den retT)) (h : szR rs) : SemF Try.prog Γ 18 [vT c ds rs] [] [] (.tup [.si .i64 (bif validT c ds rs then sureD (totD c rs) (restD ds rs) else 0), .si .i64 (bif validT c ds rs then 0 else 270)]) [] [] := by
 have h0 := pc_ok cfg8_ok Try.func18 bd18 (lies0 (by kernel_rfl)) (p0_eq c ds rs)
 have h1 := pc_ok cfg8_ok Try.func18 bd18 (lies0 (by kernel_rfl)) ((p1_eq c ds rs).trans (by rw [decide_eq_true h]; rfl))
 have hd : ∀ {a b : Int} {G : Gh} {cv : Value}, VRel G (.tup [.si .i64 a, .si .i64 b]) cv → VRel G (.tup [.si .i64 a, .si .i64 b]) cv := fun h => h
 cases hv : validT c ds rs with
 | false =>
  rw [hv] at h1
  have h2 := pc_ok cfg8_ok Try.func18 bd18 (lies0 (by kernel_rfl)) (p2_eq [] 0 270)
  have hc : SemC Try.prog Γ (root 18) (St.start 30 [vT c ds rs] [] []) .ret (St.of 30 [2, 3] [.ptr 0 0, .ptr 1 0] [some [z0], some [.si .i64 270]] []) := by
   rw [root18]; exact h0.seq (h1.seq (SemC.seq_out (by simp [Ex.to]) h2))
  have hf : SemF Try.prog Γ 18 [vT c ds rs] [] [] (.tup [.i .i64 0, .si .i64 270]) [some [z0], some [.si .i64 270]] [] := SemF.of_body Try.func18 bd18 (.inl rfl) hc (by kernel_rfl)
  exact (hf.drop (v' := .tup [.i .i64 0, .si .i64 270]) (by kernel_rfl)).weaken (fun G cv hr => by
   cases hr with
   | tup hs hr => exact .tup hs (fun j v w a b => by
    match j with
    | 0 => cases a; exact si0 (hr 0 _ _ rfl b)
    | 1 => cases a; exact hr 1 _ _ rfl b
    | j + 2 => cases a))
 | true =>
  rw [hv] at h1
  have hl : (totD c rs).length ≤ 1000 := by
   have := (totD_ok hv).1
   have := (validC_iff.1 (validT_iff.1 hv).1).1
   omega
  have hw : ∀ i : Int, IntKind.i64.wrap (othD (totD c rs) i + restD ds rs) = othD (totD c rs) i + restD ds rs := fun i => by
   have g1 := othT_bound (t := totD c rs) (B := 1200000) (by omega) (fun x hx => ((totD_ok hv).2 x hx).2) i _ (Nat.le_refl _)
   have g2 := restD_ok hv
   unfold othD
   rw [wrap_in (by omega) (by omega)]
  have h2 := pc_ok cfg8_ok Try.func18 bd18 (lies0 (by kernel_rfl)) (p2_eq (totD c rs) (restD ds rs) 0)
  have h4 := lifts (totD c rs) (restD ds rs)
  by_cases hk : sureK (totD c rs) (restD ds rs) < (totD c rs).length
  · have hr := rangeS (totD c rs) (restD ds rs) hl hw true (decide_eq_true hk).symm
    have hc : SemC Try.prog Γ (root 18) (St.start 30 [vT c ds rs] [] []) .ret (St.of 30 [2, 3, 5, 19] [.ptr 0 0, .ptr 1 0, .ptr 2 0, .fn (.func 67) [] [vC (totD c rs)]] (obT (sureK (totD c rs) (restD ds rs)) (restD ds rs)) []) := by
     rw [root18]; exact h0.seq (h1.seq (h2.seq (SemC.seq_out (by simp) (h4.seq (SemC.block (id := 0) (by simp) hr)))))
    have hf : SemF Try.prog Γ 18 [vT c ds rs] [] [] (.tup [.si .i64 (sureK (totD c rs) (restD ds rs) : Nat), .i .i64 0]) (obT (sureK (totD c rs) (restD ds rs)) (restD ds rs)) [] := SemF.of_body Try.func18 bd18 (.inl rfl) hc (by kernel_rfl)
    have e : sureD (totD c rs) (restD ds rs) = (sureK (totD c rs) (restD ds rs) : Nat) := by unfold sureD; rw [if_pos hk]
    rw [e]
    exact (hf.drop (v' := .tup [.si .i64 (sureK (totD c rs) (restD ds rs) : Nat), .i .i64 0]) (by kernel_rfl)).weaken (fun G cv hr => by
     cases hr with
     | tup hs hr => exact .tup hs (fun j v w a b => by
      match j with
      | 0 => cases a; exact hr 0 _ _ rfl b
      | 1 => cases a; exact si0 (hr 1 _ _ rfl b)
      | j + 2 => cases a))
  · have hr := rangeS (totD c rs) (restD ds rs) hl hw false (decide_eq_false hk).symm
    have h9 := pc_ok cfg8_ok Try.func18 bd18 (lies0 (by kernel_rfl)) (p9_eq (restD ds rs))
    have h9' := h9.pre (x := St.of 30 [2, 3, 5, 19] [.ptr 0 0, .ptr 1 0, .ptr 2 0, .fn (.func 67) [] [vC (totD c rs)]] (obS (restD ds rs)) []) (St.of_imps rfl fun G j v v' h1 h2 cv hr => by
     match j with
     | 0 => cases h1; cases h2; exact hr
     | 1 => cases h1; cases h2; exact hr
     | 2 => cases h1; cases h2; exact hr
     | 3 => cases h1; cases h2; exact .any _
     | j + 4 => cases h1)
    have hc : SemC Try.prog Γ (root 18) (St.start 30 [vT c ds rs] [] []) .ret (St.of 30 [2, 3] [.ptr 0 0, .ptr 1 0] [some [.i .i64 (-1)], some [z0]] []) := by
     rw [root18]; exact h0.seq (h1.seq (h2.seq ((h4.seq (SemC.block (id := 0) (by simp) hr)).seq h9')))
    have hf : SemF Try.prog Γ 18 [vT c ds rs] [] [] (.tup [.i .i64 (-1), .i .i64 0]) [some [.i .i64 (-1)], some [z0]] [] := SemF.of_body Try.func18 bd18 (.inl rfl) hc (by kernel_rfl)
    have e : sureD (totD c rs) (restD ds rs) = -1 := by unfold sureD; rw [if_neg hk]
    rw [e]
    exact (hf.drop (v' := .tup [.i .i64 (-1), .i .i64 0]) (by kernel_rfl)).weaken (fun G cv hr => by
     cases hr with
     | tup hs hr => exact .tup hs (fun j v w a b => by
      match j with
      | 0 => cases a; exact si0 (hr 0 _ _ rfl b)
      | 1 => cases a; exact si0 (hr 1 _ _ rfl b)
      | j + 2 => cases a))
end T
end Go.Proofs.Ytofbchcclkejgaa

/- Package tally: Open: contract. -/
set_option linter.unusedVariables false
set_option linter.unusedSimpArgs false
set_option maxRecDepth 100000
set_option maxHeartbeats 4000000
namespace Go.Proofs.Ytofbchcclkejgaa
open Go
namespace T
def obO (b : List Int) (r : Int) : Ob := [some [.bs true 0 0 b.length], some [.si .i64 r]]
def nmO (b : List Int) : Nm := [some (.live (.arr ity b))]
def ob0 (r : Int) : Ob := [some [.lst .full []], some [.si .i64 r]]
section
variable {l : Nat} {r0 : Loop} {t b : List Int} {c n o r : Int}
theorem stepO0 (hp : r0.params = #[19, 20]) (ha : r0.assign = oAs) (hb : r0.body = oBd) (h : ¬ IntKind.i64.wrap (n + r) ≥ o) : YStep Try.prog Γ l r0 (tmO t) none [.si .i64 c, .agg [.si .i64 n, .si .i64 o]] (obO b r) (nmO b) true (obO b r) (nmO b) := by
 have hA := pc_ok cfgP_ok Try.func20 bd20 (lies0 (by kernel_rfl)) (aO_eq t c n o r b)
 have hB := pc_ok cfgP_ok Try.func20 bd20 (lies0 (by kernel_rfl)) (lvr := []) (lv := []) (c := oBd) ((bO_eq c n o r b).trans (by rw [decide_eq_false h]; rfl))
 refine YStep.of (r := r0) (br := false) (tm := tmO t) (vs := [.si .i64 c, .agg [.si .i64 n, .si .i64 o]]) (ob := obO b r) (nm := nmO b) (by rw [hp]; rfl) ?_ ?_ ?_ (s1 := St.of 33 [2, 5, 6, 7] [V.ptr 0 0, V.ptr 1 0, V.si IntKind.i64 c, V.ptr 2 0] [some [.bs true 0 0 b.length], some [.si .i64 r], some [.si .i64 n, .si .i64 o]] (nmO b) 2 1) (s2 := St.of 33 [] [] (obO b r) (nmO b) 2 1)
 · rw [hp, ha]; exact hA
 · kernel_rfl
 · rw [hb]; exact hB
theorem stepO1 (hp : r0.params = #[19, 20]) (ha : r0.assign = oAs) (hb : r0.body = oBd) (hl : b.length ≤ 1000) (h : IntKind.i64.wrap (n + r) ≥ o) : YStep Try.prog Γ l r0 (tmO t) none [.si .i64 c, .agg [.si .i64 n, .si .i64 o]] (obO b r) (nmO b) true [some [.bs true 1 0 (b.length + 1)], some [.si .i64 r]] [some .dead, some (.live (.arr ity (b ++ [c])))] := by
 have hA := pc_ok cfgP_ok Try.func20 bd20 (lies0 (by kernel_rfl)) (aO_eq t c n o r b)
 have hB := pc_ok cfgP_ok Try.func20 bd20 (lies0 (by kernel_rfl)) (lvr := []) (lv := []) (c := oBd) ((bO_eq c n o r b).trans (by rw [decide_eq_true h, decide_eq_true (by omega : (b.length + 1) * 2 * 8 ≤ 281474976710656)]; rfl))
 have e : List.take b.length (List.drop 0 b) ++ [c] = b ++ [c] := by rw [List.drop_zero, List.take_length]
 refine YStep.of (r := r0) (br := false) (tm := tmO t) (vs := [.si .i64 c, .agg [.si .i64 n, .si .i64 o]]) (ob := obO b r) (nm := nmO b) (by rw [hp]; rfl) ?_ ?_ ?_ (s1 := St.of 33 [2, 5, 6, 7] [V.ptr 0 0, V.ptr 1 0, V.si IntKind.i64 c, V.ptr 2 0] [some [.bs true 0 0 b.length], some [.si .i64 r], some [.si .i64 n, .si .i64 o]] (nmO b) 2 1) (s2 := St.of 33 [] [] [some [.bs true 1 0 (b.length + 1)], some [.si .i64 r]] [some .dead, some (.live (.arr ity (b ++ [c])))] 2 1)
 · rw [hp, ha]; exact hA
 · kernel_rfl
 · rw [hb, ← e]; exact hB
noncomputable def cfP : CallF := cfM Try.prog Γ cfgP 30
noncomputable def oF (l : Nat) (t : List Int) (m i c n o r : Int) (b : List Int) : St := yOt [0, 1, 3, 4, 5, 8, 9, 10] [yN l, vC t, .si .i64 c, .si .i64 n, .si .i64 o, .slst .ro ity t, .si .i64 m, .si .i64 i] r b
noncomputable def xO (l : Nat) (t : List Int) (m i c n o r : Int) (b : List Int) : St := ((chain Try.prog Γ cfP (opsOf kF) 0 5 0 (oF l t m i c n o r b)).map Prod.fst).getD (oF l t m i c n o r b)
theorem kFO0 {m i : Int} (hs : YStep Try.prog Γ l r0 (tmO t) none [.si .i64 c, .agg [.si .i64 n, .si .i64 o]] (obO b r) (nmO b) true (obO b r) (nmO b)) : SemY Try.prog Γ l r0 (tmO t) none (.region 10 (opsOf kF) false) (oF l t m i c n o r b) .normal (yOt [0, 1, 8, 9, 10, 35] [yN l, vC t, .slst .ro ity t, .si .i64 m, .si .i64 i, .b false] r b) :=
 SemY.callS (cfM_fit cfgP_ok 30).1 (cfM_fit cfgP_ok 30).2 (k := 5) (m := 1) (d := 34) (xx := .tmp 29) (args := #[.tmp 30, .tmp 33]) (tys := #[3, 76]) (x1 := xO l t m i c n o r b) (by kernel_rfl) (by kernel_rfl) (by kernel_rfl) (by kernel_rfl) (by kernel_rfl) (by kernel_rfl) (by kernel_rfl) (by kernel_rfl) (by kernel_rfl) hs (by kernel_rfl)
theorem yOt_snoc {lv : List Nat} {vs : List V} (x : Int) : yOt lv vs r (b ++ [x]) = St.of 37 lv vs [some [.bs true 0 0 (b.length + 1)], some [.si .i64 r]] (nmO (b ++ [x])) 2 0 := by
 unfold yOt; rw [List.length_append]; rfl
theorem kFO1 {m i : Int} (hs : YStep Try.prog Γ l r0 (tmO t) none [.si .i64 c, .agg [.si .i64 n, .si .i64 o]] (obO b r) (nmO b) true [some [.bs true 1 0 (b.length + 1)], some [.si .i64 r]] [some .dead, some (.live (.arr ity (b ++ [c])))]) : SemY Try.prog Γ l r0 (tmO t) none (.region 10 (opsOf kF) false) (oF l t m i c n o r b) .normal (yOt [0, 1, 8, 9, 10, 35] [yN l, vC t, .slst .ro ity t, .si .i64 m, .si .i64 i, .b false] r (b ++ [c])) := by
 rw [yOt_snoc]
 exact SemY.callS (cfM_fit cfgP_ok 30).1 (cfM_fit cfgP_ok 30).2 (k := 5) (m := 1) (d := 34) (xx := .tmp 29) (args := #[.tmp 30, .tmp 33]) (tys := #[3, 76]) (x1 := xO l t m i c n o r b) (by kernel_rfl) (by kernel_rfl) (by kernel_rfl) (by kernel_rfl) (by kernel_rfl) (by kernel_rfl) (by kernel_rfl) (by kernel_rfl) (by kernel_rfl) hs (by kernel_rfl)
def openB (t : List Int) (r : Int) (c : Nat) : Bool := decide (t.getD c 0 + r ≥ othD t c)
def openT (t : List Int) (r : Int) : Nat → List Int
 | 0 => []
 | i + 1 => bif openB t r i then openT t r i ++ [(i : Int)] else openT t r i
theorem openT_next (t : List Int) (r : Int) (i : Nat) : openT t r (i + 1) = bif openB t r i then openT t r i ++ [(i : Int)] else openT t r i := rfl
def openD (t : List Int) (r : Int) : List Int := openT t r t.length
theorem openT_len (t : List Int) (r : Int) : ∀ i, (openT t r i).length ≤ i
 | 0 => Nat.le_refl _
 | i + 1 => by
  have := openT_len t r i
  rw [openT_next]
  cases openB t r i
  · simp only [cond_false]; omega
  · simp only [cond_true, List.length_append, List.length_singleton]; omega
noncomputable def embO (l : Nat) (t : List Int) (r : Int) (i : Nat) : St := yOt [0, 1, 8, 9, 10] [yN l, vC t, .slst .ro ity t, .si .i64 (t.length : Int), .si .i64 (i : Int)] r (openT t r i)
theorem preO (hl : t.length ≤ 1000) {i : Nat} (hi : i < t.length) {q : Option Loop} {x : Exit} {σ : St}
 (h : SemY Try.prog Γ l r0 (tmO t) q (.seq (.region 10 (opsOf kF) false) kH) (oF l t t.length i i (t.getD i 0) (othD t i) r b) x σ) : SemY Try.prog Γ l r0 (tmO t) q kIn (yOt [0, 1, 8, 9, 10] [yN l, vC t, .slst .ro ity t, .si .i64 (t.length : Int), .si .i64 (i : Int)] r b) x σ := by
 have hC := pc_ok cfgP_ok Try.func67 bd67 (lies0 (by kernel_rfl)) ((wC_eq l t t.length i r b).trans (by rw [decide_eq_true (by omega : (0 : Int) ≤ (i : Int) ∧ (i : Int) < t.length), Int.toNat_natCast]; rfl))
 have hD := pc_ok cfgP_ok Try.func67 bd67 (lies0 (by kernel_rfl)) (wD_eq l t t.length i i (t.getD i 0) r b)
 have hE := pc_ok cfgP_ok Try.func67 bd67 liesE ((wE_eq l t t.length i i (t.getD i 0) r b).trans (by rw [decide_eq_true (show pre_c2 l t i (t.getD i 0) 0 t t.length i t (Nat.cast t.length : Int) 0 b.length r b from ⟨rfl, rfl, rfl, rfl, hl⟩)]; rfl))
 have e : kIn = .seq kC (.seq kD (.seq kE (.seq (.region 10 (opsOf kF) false) kH))) := by kernel_rfl
 rw [e]
 exact (SemY.of hC).seq ((SemY.of hD).seq ((SemY.of hE).seq h))
theorem roundO (hp : r0.params = #[19, 20]) (ha : r0.assign = oAs) (hb : r0.body = oBd) (hl : t.length ≤ 1000) {i : Nat} (hi : i < t.length) (hw : IntKind.i64.wrap (t.getD i 0 + r) = t.getD i 0 + r) :
 SemY Try.prog Γ l r0 (tmO t) none kr (embO l t r i) .normal (embO l t r (i + 1)) := by
 have hA := pc_ok cfgP_ok Try.func67 bd67 (lies0 (by kernel_rfl)) (wA_eq l t t.length i r (openT t r i))
 have hB := pc_ok cfgP_ok Try.func67 bd67 (lies0 (by kernel_rfl)) ((wB_eq l t t.length i r (decide ((i : Int) < t.length)) (openT t r i)).trans (by rw [decide_eq_true (by omega : (i : Int) < t.length)]; rfl))
 have hH := pc_ok cfgP_ok Try.func67 bd67 (lies0 (by kernel_rfl)) (wH_eq l t t.length i r (openT t r (i + 1)))
 have hK := pc_ok cfgP_ok Try.func67 bd67 (lies0 (by kernel_rfl)) ((wK_eq l t t.length i r (openT t r (i + 1))).trans (by rw [wrap_succ hi (by omega)]))
 have hF : SemY Try.prog Γ l r0 (tmO t) none (.region 10 (opsOf kF) false) (oF l t t.length i i (t.getD i 0) (othD t i) r (openT t r i)) .normal (yOt [0, 1, 8, 9, 10, 35] [yN l, vC t, .slst .ro ity t, .si .i64 t.length, .si .i64 i, .b false] r (openT t r (i + 1))) := by
  rw [openT_next]
  cases ho : openB t r i with
  | false => exact kFO0 (stepO0 hp ha hb (by rw [hw]; simpa [openB] using ho))
  | true => exact kFO1 (stepO1 hp ha hb (by have := openT_len t r i; omega) (by rw [hw]; simpa [openB] using ho))
 rw [kr_eq]
 exact (SemY.of hA).seq ((SemY.of hB).seq ((SemY.block (by simp) (by
  have := preO (l := l) (r0 := r0) (r := r) hl hi (hF.seqC hH)
  rw [show kIn = .seq kC (.seq kD (.seq kE (.seq (.region 10 (opsOf kF) false) kH))) by kernel_rfl] at this
  exact this)).seqC hK))
theorem roundOx : SemY Try.prog Γ l r0 (tmO t) none kr (embO l t r t.length) (.exit 0) (St.of 37 [] [] (obO (openD t r) r) (nmO (openD t r)) 2 0) := by
 have hA := pc_ok cfgP_ok Try.func67 bd67 (lies0 (by kernel_rfl)) (wA_eq l t t.length t.length r (openT t r t.length))
 have hB := pc_ok cfgP_ok Try.func67 bd67 (lies0 (by kernel_rfl)) ((wB_eq l t t.length t.length r (decide ((t.length : Int) < t.length)) (openT t r t.length)).trans (by rw [decide_eq_false (by omega)]; rfl))
 rw [kr_eq]
 exact (SemY.of hA).seq (SemY.seq_out (by simp) (SemY.of hB))
theorem headO : SemY Try.prog Γ l r0 (tmO t) none k0 (St.start 37 [yN l, vC t] (ob0 r) []) .normal (embO l t r 0) :=
 (SemY.of (pc_ok cfgP_ok Try.func67 bd67 (lies0 (by kernel_rfl)) (w0_eq l t r []))).post (imp_trans (St.of_imps (vs' := [yN l, vC t, .slst .ro ity t, .si .i64 (t.length : Int), .si .i64 0]) rfl fun G j v v' h1 h2 cv hr => by
  match j with
  | 0 => cases h1; cases h2; exact hr
  | 1 => cases h1; cases h2; exact hr
  | 2 => cases h1; cases h2; exact hr
  | 3 => cases h1; cases h2; exact hr
  | 4 => cases h1; cases h2; exact si0 hr
  | j + 5 => cases h1) (St.birthOb 0 0 (cs := [.lst .full []]) rfl rfl (c := .arr ity []) rfl))
theorem candO (hs : r0.state = .ready) (hq : r0.pending = none) (hp : r0.params = #[19, 20]) (ha : r0.assign = oAs) (hb : r0.body = oBd) (hl : t.length ≤ 1000) (h : ∀ i, i < t.length → IntKind.i64.wrap (t.getD i 0 + r) = t.getD i 0 + r) :
 SemFY Try.prog Γ l r0 (tmO t) none 67 [yN l, vC t] (ob0 r) [] (.tup []) (obO (openD t r) r) (nmO (openD t r)) := by
 refine SemFY.of_body hs hq (by kernel_rfl) (by kernel_rfl) Try.func67 bd67 (.inr rfl) (σ' := St.of 37 [] [] (obO (openD t r) r) (nmO (openD t r)) 2 0) ?_ (by kernel_rfl)
 rw [root67]
 refine headO.seq (SemY.block_exit (SemY.loop ?_))
 exact SemLY.count (embO l t r) (k := t.length) (by simp) (fun i hi => roundO hp ha hb hl hi (h i hi)) roundOx
end
theorem rangeO (t : List Int) (r : Int) (hl : t.length ≤ 1000) (hw : ∀ i, i < t.length → IntKind.i64.wrap (t.getD i 0 + r) = t.getD i 0 + r) :
 SemC Try.prog Γ (.rangeFunc (.tmp 18) #[19, 20] oAs oBd) (St.of 33 [2, 5, 18] [.ptr 0 0, .ptr 1 0, .fn (.func 67) [] [vC t]] (ob0 r) []) .normal (St.of 33 [2, 5, 18] [.ptr 0 0, .ptr 1 0, .fn (.func 67) [] [vC t]] (obO (openD t r) r) (nmO (openD t r))) :=
 SemC.rangeFuncY (br := false) (f := 67) (fn := Try.f67) (first := []) (cap := [vC t]) (v := .tup []) (by kernel_rfl) Try.func67 (by kernel_rfl) (by kernel_rfl) (fun l r0 h1 h2 h3 h4 h5 => candO h1 h2 h3 h4 h5 hl hw) (by kernel_rfl)
theorem c20_ok (c : Int) (ds : List Int) (rs : List (Ty.den retT)) (h : szR rs) : SemF Try.prog Γ 20 [vT c ds rs] [] [] (.tup [.slst .ro ity (bif validT c ds rs then openD (totD c rs) (restD ds rs) else []), .si .i64 (bif validT c ds rs then 0 else 270)]) [] [] := by
 have h0 := (pc_ok cfg8_ok Try.func20 bd20 (lies0 (by kernel_rfl)) (q0_eq c ds rs))
 have h1 := pc_ok cfg8_ok Try.func20 bd20 (lies0 (by kernel_rfl)) ((q1_eq c ds rs).trans (by rw [decide_eq_true h]; rfl))
 cases hv : validT c ds rs with
 | false =>
  rw [hv] at h1
  have h2 := pc_ok cfg8_ok Try.func20 bd20 (lies0 (by kernel_rfl)) (q2_eq [] 0 270)
  have hc : SemC Try.prog Γ (root 20) (St.start 33 [vT c ds rs] [] []) .ret (St.of 33 [2, 3] [.ptr 0 0, .si .i64 270] [some [.lst .full []]] []) := by
   rw [root20]; exact h0.seq (h1.seq (SemC.seq_out (by simp [Ex.to]) h2))
  have hf : SemF Try.prog Γ 20 [vT c ds rs] [] [] (.tup [.lst .full [], .si .i64 270]) [some [.lst .full []]] [] := SemF.of_body Try.func20 bd20 (.inl rfl) hc (by kernel_rfl)
  exact (hf.drop (v' := .tup [.lst .full [], .si .i64 270]) (by kernel_rfl)).weaken (fun G cv hr => by
   cases hr with
   | tup hs hr => exact .tup hs (fun j v w a b => by
    match j with
    | 0 => cases a; exact Ty.ofV_ok (t := .slice ity) (x := []) (by kernel_rfl) (hr 0 _ _ rfl b)
    | 1 => cases a; exact hr 1 _ _ rfl b
    | j + 2 => cases a))
 | true =>
  rw [hv] at h1
  have hl : (totD c rs).length ≤ 1000 := by
   have := (totD_ok hv).1
   have := (validC_iff.1 (validT_iff.1 hv).1).1
   omega
  have hw : ∀ i, i < (totD c rs).length → IntKind.i64.wrap ((totD c rs).getD i 0 + restD ds rs) = (totD c rs).getD i 0 + restD ds rs := fun i hi => by
   have g1 := (totD_ok hv).2 _ (getD_mem 0 hi)
   have g2 := restD_ok hv
   rw [wrap_in (by omega) (by omega)]
  have h2 := pc_ok cfg8_ok Try.func20 bd20 (lies0 (by kernel_rfl)) (q2_eq (totD c rs) (restD ds rs) 0)
  have h4 := pc_ok cfg8_ok Try.func20 bd20 (lies0 (by kernel_rfl)) (q4_eq (totD c rs) (restD ds rs))
  have hr := rangeO (totD c rs) (restD ds rs) hl hw
  have h9 := pc_ok cfg8_ok Try.func20 bd20 (lies0 (by kernel_rfl)) (q9_eq (restD ds rs) (openD (totD c rs) (restD ds rs)).length (openD (totD c rs) (restD ds rs)))
  have h9' := h9.pre (x := St.of 33 [2, 5, 18] [.ptr 0 0, .ptr 1 0, .fn (.func 67) [] [vC (totD c rs)]] (obO (openD (totD c rs) (restD ds rs)) (restD ds rs)) (nmO (openD (totD c rs) (restD ds rs)))) (St.of_imps rfl fun G j v v' h1 h2 cv hr => by
   match j with
   | 0 => cases h1; cases h2; exact hr
   | 1 => cases h1; cases h2; exact hr
   | 2 => cases h1; cases h2; exact .any _
   | j + 3 => cases h1)
  have hc : SemC Try.prog Γ (root 20) (St.start 33 [vT c ds rs] [] []) .ret (St.of 33 [2, 3] [.ptr 0 0, z0] [some [.bs true 0 0 (openD (totD c rs) (restD ds rs)).length]] (nmO (openD (totD c rs) (restD ds rs)))) := by
   rw [root20]; exact h0.seq (h1.seq (h2.seq ((h4.seq (SemC.block (id := 0) (by simp) hr)).seq h9')))
  have hf : SemF Try.prog Γ 20 [vT c ds rs] [] [] (.tup [.bs true 0 0 (openD (totD c rs) (restD ds rs)).length, z0]) [some [.bs true 0 0 (openD (totD c rs) (restD ds rs)).length]] (nmO (openD (totD c rs) (restD ds rs))) := SemF.of_body Try.func20 bd20 (.inl rfl) hc (by kernel_rfl)
  have e : ∀ z : List Int, List.take z.length (List.drop 0 z) = z := fun z => by rw [List.drop_zero, List.take_length]
  refine (hf.drop (v' := .tup [.slst .ro ity (List.take (openD (totD c rs) (restD ds rs)).length (List.drop 0 (openD (totD c rs) (restD ds rs)))), z0]) (by kernel_rfl)).weaken (fun G cv hr => ?_)
  refine (congrArg (fun z : List Int => VRel G (.tup [.slst .ro ity z, .si .i64 0]) cv) (e (openD (totD c rs) (restD ds rs)))).mp ?_
  cases hr with
  | tup hs hr => exact .tup hs (fun j v w a b => by
   match j with
   | 0 => cases a; exact hr 0 _ _ rfl b
   | 1 => cases a; exact si0 (hr 1 _ _ rfl b)
   | j + 2 => cases a)
noncomputable def gg_o18 (c : Int) (ds : List Int) (rs : List (Ty.den retT)) : Option Bool × V := (some (decide (szR rs)), .tup [.si .i64 (bif validT c ds rs then sureD (totD c rs) (restD ds rs) else 0), .si .i64 (bif validT c ds rs then 0 else 270)])
theorem gg_o18_c (c : Int) (ds : List Int) (rs : List (Ty.den retT)) (h : (gg_o18 c ds rs).1.getD true = true) : szR rs := of_decide_eq_true h
noncomputable def o18 : Orc := fun f args => if f = 18 then (Ty.ofVs [talT] args).map (fun x => gg_o18 x.1.1.1 x.1.1.2.1 x.1.2.1) else o16 f args
theorem o18_ok : OrcOk Try.prog Γ o18 := o16_ok.plain 18 [talT] (fun x => gg_o18 x.1.1.1 x.1.1.2.1 x.1.2.1) Try.f18 Try.func18 rfl (by kernel_rfl) (fun x h => c18_ok x.1.1.1 x.1.1.2.1 x.1.2.1 (gg_o18_c x.1.1.1 x.1.1.2.1 x.1.2.1 h))
noncomputable def gg_o20 (c : Int) (ds : List Int) (rs : List (Ty.den retT)) : Option Bool × V := (some (decide (szR rs)), .tup [.slst .ro ity (bif validT c ds rs then openD (totD c rs) (restD ds rs) else []), .si .i64 (bif validT c ds rs then 0 else 270)])
theorem gg_o20_c (c : Int) (ds : List Int) (rs : List (Ty.den retT)) (h : (gg_o20 c ds rs).1.getD true = true) : szR rs := of_decide_eq_true h
noncomputable def o20 : Orc := fun f args => if f = 20 then (Ty.ofVs [talT] args).map (fun x => gg_o20 x.1.1.1 x.1.1.2.1 x.1.2.1) else o18 f args
theorem o20_ok : OrcOk Try.prog Γ o20 := o18_ok.plain 20 [talT] (fun x => gg_o20 x.1.1.1 x.1.1.2.1 x.1.2.1) Try.f20 Try.func20 rfl (by kernel_rfl) (fun x h => c20_ok x.1.1.1 x.1.1.2.1 x.1.2.1 (gg_o20_c x.1.1.1 x.1.1.2.1 x.1.2.1 h))
end T
end Go.Proofs.Ytofbchcclkejgaa

/- A buffer that an object's slice lies in, frozen. -/
set_option linter.unusedVariables false
set_option linter.unusedSimpArgs false
namespace Go.Proofs.Ytofbchcclkejgaa
open Go
section
variable {P : Program} {Γ : Nat → Option V} {G : Gh} {ob : Ob} {nm : Nm} {w : World}
theorem WRel.setCell {G2 : Gh} {nm2 : Nm} {o k b : Nat} {cs : List V} {u v : V} {E : TypeId} {fr : Nat × Nat} {cvs : Array Value} (h2 : WRel Γ G2 ob nm2 w) (ho : ob[o]? = some (some cs)) (hk : cs[k]? = some u) (hH : G2.H o = some b) (hrow : w.heap[b]? = some (.cells cvs E fr))
 (hv : ∀ cv, (cvs.toList.take cs.length)[k]? = some cv → VRel G2 v cv) : WRel Γ G2 (ob.set o (some (cs.set k v))) nm2 w := by
 have hol : o < ob.length := by
  rcases Nat.lt_or_ge o ob.length with h | h
  · exact h
  · rw [List.getElem?_eq_none h] at ho; cases ho
 refine { h2 with hob := fun o' cs' b' h1 hH' => ?_, hlt := fun o' b hH => ?_, habs := fun o' h1 => ?_ }
 · rw [List.getElem?_set] at h1
   split at h1
   · rename_i e
     subst e
     cases h1
     rw [hH] at hH'
     cases hH'
     obtain ⟨a1, ⟨cvs', E', fr', q1, q2, q3, q4⟩, a3⟩ := h2.hob o cs b ho hH
     rw [hrow] at q1
     cases q1
     refine ⟨a1, ⟨cvs, E, fr, hrow, q2, by rw [List.length_set]; exact q3, ?_⟩, a3⟩
     rw [List.length_set]
     refine ⟨by rw [List.length_set]; exact q4.1, fun j v' cv g1 g2 => ?_⟩
     rw [List.getElem?_set] at g1
     split at g1
     · rename_i e
       subst e
       split at g1
       · cases g1
         exact hv cv g2
       · cases g1
     · exact q4.2 j v' cv g1 g2
   · exact h2.hob o' cs' b' h1 hH'
 · rw [List.length_set]; exact h2.hlt o' b hH
 · rw [List.getElem?_set] at h1
   split at h1
   · cases h1
   · exact h2.habs o' h1
theorem WRel.freezeO (h : WRel Γ G ob nm w) {o k s L : Nat} {cs : List V} {sy : Bool} {c : BC} (ho : ob[o]? = some (some cs)) (hk : cs[k]? = some (.bs sy s 0 L)) (hn : nm[s]? = some (some (.live c))) (hL : L = c.len) :
 ∃ G2, G.le G2 ∧ WRel Γ G2 (ob.set o (some (cs.set k (.lst .ro c.els)))) (nm.set s (some .dead)) w := by
 have hol : o < ob.length := by
  rcases Nat.lt_or_ge o ob.length with h | h
  · exact h
  · rw [List.getElem?_eq_none h] at ho; cases ho
 cases hG : G.H o with
 | none =>
  have hk2 := h.kill hn
  refine ⟨G, .refl G, { hk2 with hob := fun o' cs' b' h1 hH' => ?_, hlt := fun o' b hH => ?_, habs := fun o' h1 => ?_ }⟩
  · rw [List.getElem?_set] at h1
    split at h1
    · rename_i e
      subst e
      rw [hG] at hH'
      cases hH'
    · exact hk2.hob o' cs' b' h1 hH'
  · rw [List.length_set]; exact hk2.hlt o' b hH
  · rw [List.getElem?_set] at h1
    split at h1
    · cases h1
    · exact hk2.habs o' h1
 | some b =>
  obtain ⟨a1, ⟨cvs, E, fr, q1, q2, q3, q4⟩, a3⟩ := h.hob o cs b ho hG
  have hkl : k < cs.length := by
   rcases Nat.lt_or_ge k cs.length with h | h
   · exact h
   · rw [List.getElem?_eq_none h] at hk; cases hk
  have hkl2 : k < (cvs.toList.take cs.length).length := by rw [q4.1]; exact hkl
  have hcv := q4.2 k _ _ hk (List.getElem?_eq_getElem hkl2)
  have one : ∀ {cv}, (cvs.toList.take cs.length)[k]? = some cv → cv = (cvs.toList.take cs.length)[k] := fun hc => by rw [List.getElem?_eq_getElem hkl2] at hc; exact (Option.some.inj hc).symm
  by_cases h0 : L = 0
  · subst h0
    have hels : c.els = [] := List.eq_nil_of_length_eq_zero (by rw [BC.els_len]; exact hL.symm)
    refine ⟨G, .refl G, (h.kill hn).setCell ho hk hG q1 (fun cv hc => ?_)⟩
    rw [one hc, hels]
    generalize (cvs.toList.take cs.length)[k] = z at hcv
    cases hcv with
    | bs0 => exact .lst0 _ _
    | bs1 => exact .lst1 _ _
    | bs _ hl => exact .lst1 _ _
  · obtain ⟨G2, f1, f2, f3⟩ := h.freeze hn hcv hL h0
    exact ⟨G2, f1, f3.setCell ho hk (f1.h _ _ hG) q1 (fun cv hc => by rw [one hc]; exact f2)⟩
def St.impW (Γ : Nat → Option V) (x y : St) : Prop := ∀ G a w, Rel Γ G x a w → ∃ G', G.leW G' ∧ Rel Γ G' y a w
theorem SemC.postW {c : Code} {x y y' : St} {e : Exit} (h : SemC P Γ c x e y) (i : St.impW Γ y y') : SemC P Γ c x e y' := fun ro G a w hr ho => by
 refine wpIn_mono (h ro G a w hr ho) ?_
 rintro e a' w' ⟨rfl, G1, h1, r1⟩
 obtain ⟨G2, h2, r2⟩ := i _ _ _ r1
 exact ⟨rfl, G2, h1.trans h2, r2⟩
theorem St.freezeO {n : Nat} {lv : List Nat} {vs : List V} {kh kt o k s L : Nat} {cs : List V} {sy : Bool} {ty : Ty} {l : List ty.den} (ho : ob[o]? = some (some cs)) (hk : cs[k]? = some (.bs sy s 0 L)) (hn : nm[s]? = some (some (.live (.arr ty l)))) (hL : L = l.length) :
 St.impW Γ (St.of n lv vs ob nm kh kt) (St.of n lv vs (ob.set o (some (cs.set k (.slst .ro ty l)))) (nm.set s (some .dead)) kh kt) := fun G a w hr => by
 have hw : WRel Γ G ob nm w := hr.wr
 obtain ⟨G2, f1, f2⟩ := hw.freezeO ho hk hn hL
 have hol : o < ob.length := by
  rcases Nat.lt_or_ge o ob.length with h | h
  · exact h
  · rw [List.getElem?_eq_none h] at ho; cases ho
 have key : WRel Γ G2 (ob.set o (some (cs.set k (.slst .ro ty l)))) (nm.set s (some .dead)) w := by
  refine WRel.weakOb f2 (by rw [List.length_set, List.length_set]) (fun o' c' h' => ?_) (fun o' h' => ?_)
  · by_cases e : o = o'
    · subst e
      rw [List.getElem?_set_self hol] at h' ⊢
      cases h'
      refine ⟨_, rfl, by rw [List.length_set, List.length_set], fun j x' hx => ?_⟩
      by_cases e : k = j
      · subst e
        have hkl : k < cs.length := by
         rcases Nat.lt_or_ge k cs.length with h | h
         · exact h
         · rw [List.getElem?_eq_none h] at hk; cases hk
        rw [List.getElem?_set_self hkl] at hx ⊢
        cases hx
        exact ⟨_, rfl, fun G cv h => .slst h⟩
      · rw [List.getElem?_set_ne e] at hx ⊢
        exact ⟨x', hx, fun _ _ h => h⟩
    · rw [List.getElem?_set_ne e] at h' ⊢
      exact ⟨c', h', rfl, fun j x' hx => ⟨x', hx, fun _ _ h => h⟩⟩
  · by_cases e : o = o'
    · subst e
      rw [List.getElem?_set_self hol] at h'
      cases h'
    · rw [List.getElem?_set_ne e] at h' ⊢
      exact h'
 exact ⟨G2, f1.weak, hr.tm.mono f1, key, hr.df.mono f1.d f1.kd f1.w0, f1.kh.trans hr.kh, f1.kt.trans hr.kt⟩
end
end Go.Proofs.Ytofbchcclkejgaa

