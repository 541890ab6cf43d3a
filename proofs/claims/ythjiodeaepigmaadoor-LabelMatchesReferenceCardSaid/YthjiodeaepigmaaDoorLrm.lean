/- Parts of the library of texts, one after the other: L50, L51, L52, L53, L54, L55, L56, L57, L58. -/
import Derived.Test.YthjiodeaepigmaaDoorLrl
/- Package label: the reference's Rising, counts, has, count, bits: loops. -/
set_option linter.unusedVariables false
set_option linter.unusedSimpArgs false
set_option maxRecDepth 100000
set_option maxHeartbeats 4000000
namespace Go.Proofs.YthjiodeaepigmaaDoor
open Go
namespace L
def hp_rr : HP := { n := 35, lv := [0, 1, 5], sp := [.ty (.slice ity), .ty ity, .ty ity], op := [], bp := [] }
def lve_rr : Ex → List Nat
 | .normal => [0, 1, 5]
 | .ret => [4]
 | .exit 0 => []
 | _ => []
theorem bd_rr : Tryd.f45.body = some (root 45) := by kernel_rfl
theorem le_rr : (loops (root 45))[0]? = some (lp 45 0) := by kernel_rfl
theorem li_rr : Lies (root 45) 1 (lp 45 0) := Lies.of_take (n := 0) (by kernel_rfl)
def st_rr (l : List Int) (m i : Int) : St := hp_rr.st ⟨(l, m, i, ()), (), ()⟩
noncomputable def rn_rr (l : List Int) (m i : Int) := outa lve_rr (evCK Tryd.prog Γ (cfM Tryd.prog Γ cfg38 30) (cfg38.lo 45) [] 60 1 (lp 45 0) (st_rr l m i))
theorem rn_rr_eq (l : List Int) (m i : Int) : (rn_rr l m i).run = (bif decide (i < (l.length : Int)) then (bif decide ((0 : Int) ≤ i ∧ i < (l.length : Int)) then (bif !bif decide (l.getD i.toNat (0 : Int) ≥ (0 : Int)) then decide (l.getD i.toNat (0 : Int) ≤ m) else false then (some ((Ex.ret, [V.b false], [], [], 35, 0, 0))) else (bif decide (i > (0 : Int)) then (bif decide ((0 : Int) ≤ i ∧ i < (l.length : Int)) then (bif decide ((0 : Int) ≤ IntKind.i64.wrap (i - (1 : Int)) ∧ IntKind.i64.wrap (i - (1 : Int)) < (l.length : Int)) then (bif decide (l.getD i.toNat (0 : Int) ≤ l.getD (IntKind.i64.wrap (i - (1 : Int))).toNat (0 : Int)) then (some ((Ex.ret, [V.b false], [], [], 35, 0, 0))) else (some ((Ex.normal, [V.slst .ro ity l, V.si .i64 m, V.si .i64 (IntKind.i64.wrap (i + (1 : Int)))], [], [], 35, 0, 0)))) else none) else none) else (some ((Ex.normal, [V.slst .ro ity l, V.si .i64 m, V.si .i64 (IntKind.i64.wrap (i + (1 : Int)))], [], [], 35, 0, 0))))) else none) else (some ((Ex.exit 0, [], [], [], 35, 0, 0)))) := by kernel_rfl
theorem rn_rr_c (l : List Int) (m i : Int) {e : Ex} {vs : List V} {ob : Ob} {nm : Nm} {n' kh kt : Nat} (h : (rn_rr l m i).run = some (e, vs, ob, nm, n', kh, kt)) : SemC Tryd.prog Γ (lp 45 0) (st_rr l m i) e.to (St.of n' (lve_rr e) vs ob nm kh kt) := SemC.of_evM cfg38_ok Tryd.func45 bd_rr li_rr h
def hp_rc : HP := { n := 47, lv := [0, 1, 5], sp := [.ty (.slice conf), .ty ity, .ty ity], op := [], bp := [] }
def lve_rc : Ex → List Nat
 | .normal => [0, 1, 5]
 | .ret => [4]
 | .exit 0 => []
 | _ => []
theorem bd_rc : Tryd.f46.body = some (root 46) := by kernel_rfl
theorem le_rc : (loops (root 46))[0]? = some (lp 46 0) := by kernel_rfl
theorem li_rc : Lies (root 46) 1 (lp 46 0) := Lies.of_take (n := 0) (by kernel_rfl)
def st_rc (l : List (Ty.den conf)) (m i : Int) : St := hp_rc.st ⟨(l, m, i, ()), (), ()⟩
noncomputable def rn_rc (l : List (Ty.den conf)) (m i : Int) := outa lve_rc (evCK Tryd.prog Γ (cfM Tryd.prog Γ cfg38 30) (cfg38.lo 46) [] 60 1 (lp 46 0) (st_rc l m i))
theorem rn_rc_eq (l : List (Ty.den conf)) (m i : Int) : (rn_rc l m i).run = (bif decide (i < (l.length : Int)) then (bif decide ((0 : Int) ≤ i ∧ i < (l.length : Int)) then (bif !bif decide ((cF (l.getD i.toNat conf.dflt)) ≥ (0 : Int)) then decide ((cF (l.getD i.toNat conf.dflt)) ≤ (15 : Int)) else false then (some ((Ex.ret, [V.b false], [], [], 47, 0, 0))) else (bif decide ((0 : Int) ≤ i ∧ i < (l.length : Int)) then (bif !bif decide ((cC (l.getD i.toNat conf.dflt)) ≥ m) then decide ((cC (l.getD i.toNat conf.dflt)) ≤ (12 : Int)) else false then (some ((Ex.ret, [V.b false], [], [], 47, 0, 0))) else (bif decide (i > (0 : Int)) then (bif decide ((0 : Int) ≤ i ∧ i < (l.length : Int)) then (bif decide ((0 : Int) ≤ IntKind.i64.wrap (i - (1 : Int)) ∧ IntKind.i64.wrap (i - (1 : Int)) < (l.length : Int)) then (bif decide ((cF (l.getD i.toNat conf.dflt)) ≤ (cF (l.getD (IntKind.i64.wrap (i - (1 : Int))).toNat conf.dflt))) then (some ((Ex.ret, [V.b false], [], [], 47, 0, 0))) else (some ((Ex.normal, [V.slst .ro conf l, V.si .i64 m, V.si .i64 (IntKind.i64.wrap (i + (1 : Int)))], [], [], 47, 0, 0)))) else none) else none) else (some ((Ex.normal, [V.slst .ro conf l, V.si .i64 m, V.si .i64 (IntKind.i64.wrap (i + (1 : Int)))], [], [], 47, 0, 0))))) else none)) else none) else (some ((Ex.exit 0, [], [], [], 47, 0, 0)))) := by kernel_rfl
theorem rn_rc_c (l : List (Ty.den conf)) (m i : Int) {e : Ex} {vs : List V} {ob : Ob} {nm : Nm} {n' kh kt : Nat} (h : (rn_rc l m i).run = some (e, vs, ob, nm, n', kh, kt)) : SemC Tryd.prog Γ (lp 46 0) (st_rc l m i) e.to (St.of n' (lve_rc e) vs ob nm kh kt) := SemC.of_evM cfg38_ok Tryd.func46 bd_rc li_rc h
def hp_rh : HP := { n := 18, lv := [0, 1, 5], sp := [.ty (.slice ity), .ty ity, .ty ity], op := [], bp := [] }
def lve_rh : Ex → List Nat
 | .normal => [0, 1, 5]
 | .ret => [4]
 | .exit 0 => []
 | _ => []
theorem bd_rh : Tryd.f57.body = some (root 57) := by kernel_rfl
theorem le_rh : (loops (root 57))[0]? = some (lp 57 0) := by kernel_rfl
theorem li_rh : Lies (root 57) 1 (lp 57 0) := Lies.of_take (n := 0) (by kernel_rfl)
def st_rh (l : List Int) (m i : Int) : St := hp_rh.st ⟨(l, m, i, ()), (), ()⟩
noncomputable def rn_rh (l : List Int) (m i : Int) := outa lve_rh (evCK Tryd.prog Γ (cfM Tryd.prog Γ cfg38 30) (cfg38.lo 57) [] 60 1 (lp 57 0) (st_rh l m i))
theorem rn_rh_eq (l : List Int) (m i : Int) : (rn_rh l m i).run = (bif decide (i < (l.length : Int)) then (bif decide ((0 : Int) ≤ i ∧ i < (l.length : Int)) then (bif l.getD i.toNat (0 : Int) == m then (some ((Ex.ret, [V.b true], [], [], 18, 0, 0))) else (some ((Ex.normal, [V.slst .ro ity l, V.si .i64 m, V.si .i64 (IntKind.i64.wrap (i + (1 : Int)))], [], [], 18, 0, 0)))) else none) else (some ((Ex.exit 0, [], [], [], 18, 0, 0)))) := by kernel_rfl
theorem rn_rh_c (l : List Int) (m i : Int) {e : Ex} {vs : List V} {ob : Ob} {nm : Nm} {n' kh kt : Nat} (h : (rn_rh l m i).run = some (e, vs, ob, nm, n', kh, kt)) : SemC Tryd.prog Γ (lp 57 0) (st_rh l m i) e.to (St.of n' (lve_rh e) vs ob nm kh kt) := SemC.of_evM cfg38_ok Tryd.func57 bd_rh li_rh h
def hp_rn : HP := { n := 24, lv := [0, 1, 5], sp := [.ty (.slice conf), .ty ity, .ty ity], op := [], bp := [] }
def lve_rn : Ex → List Nat
 | .normal => [0, 1, 5]
 | .ret => [4]
 | .exit 0 => []
 | _ => []
theorem bd_rn : Tryd.f58.body = some (root 58) := by kernel_rfl
theorem le_rn : (loops (root 58))[0]? = some (lp 58 0) := by kernel_rfl
theorem li_rn : Lies (root 58) 1 (lp 58 0) := Lies.of_take (n := 0) (by kernel_rfl)
def st_rn (l : List (Ty.den conf)) (m i : Int) : St := hp_rn.st ⟨(l, m, i, ()), (), ()⟩
noncomputable def rn_rn (l : List (Ty.den conf)) (m i : Int) := outa lve_rn (evCK Tryd.prog Γ (cfM Tryd.prog Γ cfg38 30) (cfg38.lo 58) [] 60 1 (lp 58 0) (st_rn l m i))
theorem rn_rn_eq (l : List (Ty.den conf)) (m i : Int) : (rn_rn l m i).run = (bif decide (i < (l.length : Int)) then (bif decide ((0 : Int) ≤ i ∧ i < (l.length : Int)) then (bif (cF (l.getD i.toNat conf.dflt)) == m then (bif decide ((0 : Int) ≤ i ∧ i < (l.length : Int)) then (some ((Ex.ret, [V.si .i64 (cC (l.getD i.toNat conf.dflt))], [], [], 24, 0, 0))) else none) else (some ((Ex.normal, [V.slst .ro conf l, V.si .i64 m, V.si .i64 (IntKind.i64.wrap (i + (1 : Int)))], [], [], 24, 0, 0)))) else none) else (some ((Ex.exit 0, [], [], [], 24, 0, 0)))) := by kernel_rfl
theorem rn_rn_c (l : List (Ty.den conf)) (m i : Int) {e : Ex} {vs : List V} {ob : Ob} {nm : Nm} {n' kh kt : Nat} (h : (rn_rn l m i).run = some (e, vs, ob, nm, n', kh, kt)) : SemC Tryd.prog Γ (lp 58 0) (st_rn l m i) e.to (St.of n' (lve_rn e) vs ob nm kh kt) := SemC.of_evM cfg38_ok Tryd.func58 bd_rn li_rn h
def hp_rb : HP := { n := 28, lv := [0, 1, 5, 6], sp := [.ty ity, .ty ity, .ty ity, .ty ity], op := [], bp := [] }
def lve_rb : Ex → List Nat
 | .normal => [0, 1, 5, 6]
 | .exit 0 => [5]
 | _ => []
theorem bd_rb : Tryd.f56.body = some (root 56) := by kernel_rfl
theorem le_rb : (loops (root 56))[0]? = some (lp 56 0) := by kernel_rfl
theorem li_rb : Lies (root 56) 1 (lp 56 0) := Lies.of_take (n := 0) (by kernel_rfl)
def st_rb (a b o i : Int) : St := hp_rb.st ⟨(a, b, o, i, ()), (), ()⟩
noncomputable def rn_rb (a b o i : Int) := outa lve_rb (evCK Tryd.prog Γ (cfM Tryd.prog Γ cfg38 30) (cfg38.lo 56) [] 60 1 (lp 56 0) (st_rb a b o i))
theorem rn_rb_eq (a b o i : Int) : (rn_rb a b o i).run = (bif decide (i < (8 : Int)) then (bif decide ((0 : Int) ≤ i) then (bif (a.fdiv ((2 : Int) ^ min i.toNat (64))).tmod (2 : Int) == (1 : Int) then (bif decide ((0 : Int) ≤ i) then (bif (b.fdiv ((2 : Int) ^ min i.toNat (64))).tmod (2 : Int) == (1 : Int) then (bif decide ((0 : Int) ≤ i) then (some ((Ex.normal, [V.si .i64 a, V.si .i64 b, V.si .i64 (IntKind.i64.wrap (o + IntKind.i64.wrap ((1 : Int) * (2 : Int) ^ min i.toNat (64 : Nat)))), V.si .i64 (IntKind.i64.wrap (i + (1 : Int)))], [], [], 28, 0, 0))) else none) else (some ((Ex.normal, [V.si .i64 a, V.si .i64 b, V.si .i64 o, V.si .i64 (IntKind.i64.wrap (i + (1 : Int)))], [], [], 28, 0, 0)))) else none) else (some ((Ex.normal, [V.si .i64 a, V.si .i64 b, V.si .i64 o, V.si .i64 (IntKind.i64.wrap (i + (1 : Int)))], [], [], 28, 0, 0)))) else none) else (some ((Ex.exit 0, [V.si .i64 o], [], [], 28, 0, 0)))) := by kernel_rfl
theorem rn_rb_c (a b o i : Int) {e : Ex} {vs : List V} {ob : Ob} {nm : Nm} {n' kh kt : Nat} (h : (rn_rb a b o i).run = some (e, vs, ob, nm, n', kh, kt)) : SemC Tryd.prog Γ (lp 56 0) (st_rb a b o i) e.to (St.of n' (lve_rb e) vs ob nm kh kt) := SemC.of_evM cfg38_ok Tryd.func56 bd_rb li_rb h
end L
end Go.Proofs.YthjiodeaepigmaaDoor

/- Package label: the reference's Rising, counts, has, count, bits as contracts. -/
set_option linter.unusedVariables false
set_option linter.unusedSimpArgs false
set_option maxRecDepth 100000
set_option maxHeartbeats 4000000
namespace Go.Proofs.YthjiodeaepigmaaDoor
open Go
namespace L
abbrev pre_rr (l : List Int) (m i : Int) : Prop := i = 0 ∧ l.length ≤ 1000000
def rs_rr (l : List Int) (m i : Int) : Ex × St := if allI l.length (riB l m) = true then (.exit 0, St.of 35 (lve_rr (.exit 0)) [] [] [] hp_rr.kh hp_rr.kt) else (.ret, St.of 35 (lve_rr (.ret)) [.b false] [] [] hp_rr.kh hp_rr.kt)
def res_rr (l : List Int) (m i : Int) : Tr (Ex × St) := .br (decide (pre_rr l m i)) (.br (decide (allI l.length (riB l m) = true)) (.leaf (some (.exit 0, St.of 35 (lve_rr (.exit 0)) [] [] [] hp_rr.kh hp_rr.kt))) (.leaf (some (.ret, St.of 35 (lve_rr (.ret)) [.b false] [] [] hp_rr.kh hp_rr.kt)))) (.leaf none)
def ent_rr : LEnt := LEnt.by hp_rr fun ⟨(l, m, i, _), _, _⟩ => res_rr l m i
theorem ent_rr_ok (hgo : ∀ (l : List Int) (m i : Int), pre_rr l m i → SemL Tryd.prog Γ (lp 45 0) (st_rr l m i) (rs_rr l m i).1.to (rs_rr l m i).2) : EntOk Tryd.prog Γ (lp 45 0) ent_rr := LEnt.by_ok fun ⟨(l, m, i, _), _, _⟩ _ _ h_ => SemL.br (out := rs_rr l m i) (Tr.run_ite rfl rfl) (hgo l m i) h_
theorem le_dec (x y : Int) : decide (x ≤ y) = !decide (y < x) := by by_cases h : y < x <;> simp [h]; omega
theorem rr_go (l : List Int) (m i : Int) (h : pre_rr l m i) : SemL Tryd.prog Γ (lp 45 0) (st_rr l m i) (rs_rr l m i).1.to (rs_rr l m i).2 := by
 obtain ⟨rfl, hc⟩ := h
 have eq0 : ∀ i : Nat, i < l.length → (rn_rr l m i).run = (bif riB l m i then (some (Ex.normal, [V.slst Tag.ro ity l, V.si IntKind.i64 m, V.si IntKind.i64 ((i + 1 : Nat) : Int)], [], [], (35 : Nat), (0 : Nat), (0 : Nat))) else (some (Ex.ret, [V.b false], [], [], (35 : Nat), (0 : Nat), (0 : Nat)))) := by
  intro i hi
  have hw : IntKind.i64.wrap ((i : Int) + 1) = ((i + 1 : Nat) : Int) := by rw [wrap_in (by omega) (by omega)]; rfl
  rw [rn_rr_eq, hw, decide_eq_true (by omega : (i : Int) < l.length), decide_eq_true (by omega : (0 : Int) ≤ (i : Int) ∧ (i : Int) < l.length), Int.toNat_natCast]
  unfold riB
  generalize l.getD i 0 = x
  by_cases h0 : i = 0
  · subst h0
    by_cases h1 : 0 ≤ x <;> by_cases h2 : x ≤ m <;> simp [h1, h2]
  · have hw2 : IntKind.i64.wrap ((i : Int) - 1) = ((i - 1 : Nat) : Int) := by rw [wrap_in (by omega) (by omega)]; omega
    rw [hw2, Int.toNat_natCast, decide_eq_true (by omega : (i : Int) > 0), decide_eq_true (by omega : (0 : Int) ≤ ((i - 1 : Nat) : Int) ∧ ((i - 1 : Nat) : Int) < l.length)]
    generalize l.getD (i - 1) 0 = y
    have hi0 : 0 < i := by omega
    rw [le_dec x y]
    by_cases h1 : 0 ≤ x <;> by_cases h2 : x ≤ m <;> by_cases h : y < x <;> simp [h1, h2, h, hi0]
 refine scan_all l.length (riB l m) (fun i => st_rr l m (i : Nat)) _ _ 0 (fun i hi hp => ?_) (fun i hi hp => ?_) ?_
 · refine rn_rr_c l m i (e := .normal) ?_
   rw [eq0 i hi, hp]; rfl
 · refine rn_rr_c l m i (e := .ret) ?_
   rw [eq0 i hi, hp]; rfl
 · refine rn_rr_c l m l.length (e := .exit 0) ?_
   rw [rn_rr_eq, decide_eq_false (by omega)]; rfl
abbrev pre_rc (l : List (Ty.den conf)) (m i : Int) : Prop := i = 0 ∧ l.length ≤ 1000000
def rs_rc (l : List (Ty.den conf)) (m i : Int) : Ex × St := if allI l.length (coB l m) = true then (.exit 0, St.of 47 (lve_rc (.exit 0)) [] [] [] hp_rc.kh hp_rc.kt) else (.ret, St.of 47 (lve_rc (.ret)) [.b false] [] [] hp_rc.kh hp_rc.kt)
def res_rc (l : List (Ty.den conf)) (m i : Int) : Tr (Ex × St) := .br (decide (pre_rc l m i)) (.br (decide (allI l.length (coB l m) = true)) (.leaf (some (.exit 0, St.of 47 (lve_rc (.exit 0)) [] [] [] hp_rc.kh hp_rc.kt))) (.leaf (some (.ret, St.of 47 (lve_rc (.ret)) [.b false] [] [] hp_rc.kh hp_rc.kt)))) (.leaf none)
def ent_rc : LEnt := LEnt.by hp_rc fun ⟨(l, m, i, _), _, _⟩ => res_rc l m i
theorem ent_rc_ok (hgo : ∀ (l : List (Ty.den conf)) (m i : Int), pre_rc l m i → SemL Tryd.prog Γ (lp 46 0) (st_rc l m i) (rs_rc l m i).1.to (rs_rc l m i).2) : EntOk Tryd.prog Γ (lp 46 0) ent_rc := LEnt.by_ok fun ⟨(l, m, i, _), _, _⟩ _ _ h_ => SemL.br (out := rs_rc l m i) (Tr.run_ite rfl rfl) (hgo l m i) h_
theorem rc_go (l : List (Ty.den conf)) (m i : Int) (h : pre_rc l m i) : SemL Tryd.prog Γ (lp 46 0) (st_rc l m i) (rs_rc l m i).1.to (rs_rc l m i).2 := by
 obtain ⟨rfl, hc⟩ := h
 have eq0 : ∀ i : Nat, i < l.length → (rn_rc l m i).run = (bif coB l m i then (some (Ex.normal, [V.slst Tag.ro conf l, V.si IntKind.i64 m, V.si IntKind.i64 ((i + 1 : Nat) : Int)], [], [], (47 : Nat), (0 : Nat), (0 : Nat))) else (some (Ex.ret, [V.b false], [], [], (47 : Nat), (0 : Nat), (0 : Nat)))) := by
  intro i hi
  have hw : IntKind.i64.wrap ((i : Int) + 1) = ((i + 1 : Nat) : Int) := by rw [wrap_in (by omega) (by omega)]; rfl
  rw [rn_rc_eq, hw, decide_eq_true (by omega : (i : Int) < l.length), decide_eq_true (by omega : (0 : Int) ≤ (i : Int) ∧ (i : Int) < l.length), Int.toNat_natCast]
  unfold coB
  generalize cF (l.getD i conf.dflt) = x
  generalize cC (l.getD i conf.dflt) = z
  by_cases h0 : i = 0
  · subst h0
    by_cases h1 : 0 ≤ x <;> by_cases h2 : x ≤ 15 <;> by_cases h3 : m ≤ z <;> by_cases h4 : z ≤ 12 <;> simp [h1, h2, h3, h4]
  · have hw2 : IntKind.i64.wrap ((i : Int) - 1) = ((i - 1 : Nat) : Int) := by rw [wrap_in (by omega) (by omega)]; omega
    rw [hw2, Int.toNat_natCast, decide_eq_true (by omega : (i : Int) > 0), decide_eq_true (by omega : (0 : Int) ≤ ((i - 1 : Nat) : Int) ∧ ((i - 1 : Nat) : Int) < l.length)]
    generalize cF (l.getD (i - 1) conf.dflt) = y
    have hi0 : 0 < i := by omega
    rw [le_dec x y]
    by_cases h1 : 0 ≤ x <;> by_cases h2 : x ≤ 15 <;> by_cases h3 : m ≤ z <;> by_cases h4 : z ≤ 12 <;> by_cases h : y < x <;> simp [h1, h2, h3, h4, h, hi0]
 refine scan_all l.length (coB l m) (fun i => st_rc l m (i : Nat)) _ _ 0 (fun i hi hp => ?_) (fun i hi hp => ?_) ?_
 · refine rn_rc_c l m i (e := .normal) ?_
   rw [eq0 i hi, hp]; rfl
 · refine rn_rc_c l m i (e := .ret) ?_
   rw [eq0 i hi, hp]; rfl
 · refine rn_rc_c l m l.length (e := .exit 0) ?_
   rw [rn_rc_eq, decide_eq_false (by omega)]; rfl
abbrev pre_rh (l : List Int) (m i : Int) : Prop := i = 0 ∧ l.length ≤ 1000000
def rs_rh (l : List Int) (m i : Int) : Ex × St := if l.findIdx (fun y => m == y) < l.length then (.ret, St.of 18 (lve_rh (.ret)) [.b true] [] [] hp_rh.kh hp_rh.kt) else (.exit 0, St.of 18 (lve_rh (.exit 0)) [] [] [] hp_rh.kh hp_rh.kt)
def res_rh (l : List Int) (m i : Int) : Tr (Ex × St) := .br (decide (pre_rh l m i)) (.br (decide (l.findIdx (fun y => m == y) < l.length)) (.leaf (some (.ret, St.of 18 (lve_rh (.ret)) [.b true] [] [] hp_rh.kh hp_rh.kt))) (.leaf (some (.exit 0, St.of 18 (lve_rh (.exit 0)) [] [] [] hp_rh.kh hp_rh.kt)))) (.leaf none)
def ent_rh : LEnt := LEnt.by hp_rh fun ⟨(l, m, i, _), _, _⟩ => res_rh l m i
theorem ent_rh_ok (hgo : ∀ (l : List Int) (m i : Int), pre_rh l m i → SemL Tryd.prog Γ (lp 57 0) (st_rh l m i) (rs_rh l m i).1.to (rs_rh l m i).2) : EntOk Tryd.prog Γ (lp 57 0) ent_rh := LEnt.by_ok fun ⟨(l, m, i, _), _, _⟩ _ _ h_ => SemL.br (out := rs_rh l m i) (Tr.run_ite rfl rfl) (hgo l m i) h_
theorem rh_go (l : List Int) (m i : Int) (h : pre_rh l m i) : SemL Tryd.prog Γ (lp 57 0) (st_rh l m i) (rs_rh l m i).1.to (rs_rh l m i).2 := by
 obtain ⟨rfl, hc⟩ := h
 have eq0 : ∀ i : Nat, i < l.length → (rn_rh l m i).run = (bif m == l.getD i 0 then (some (Ex.ret, [V.b true], [], [], (18 : Nat), (0 : Nat), (0 : Nat))) else (some (Ex.normal, [V.slst Tag.ro ity l, V.si IntKind.i64 m, V.si IntKind.i64 ((i + 1 : Nat) : Int)], [], [], (18 : Nat), (0 : Nat), (0 : Nat)))) := by
  intro i hi
  have hw : IntKind.i64.wrap ((i : Int) + 1) = ((i + 1 : Nat) : Int) := by rw [wrap_in (by omega) (by omega)]; rfl
  have hb : (l.getD i 0 == m) = (m == l.getD i 0) := BEq.comm
  rw [rn_rh_eq, hw, decide_eq_true (by omega : (i : Int) < l.length), decide_eq_true (by omega : (0 : Int) ≤ (i : Int) ∧ (i : Int) < l.length), Int.toNat_natCast, hb]
  rfl
 refine scan_find l 0 (fun y => m == y) (fun i => st_rh l m (i : Nat)) (fun i => St.of 18 (lve_rh .ret) [.b true] [] [] 0 0) _ 0 (fun i hi hp => ?_) (fun i hi hp => ?_) ?_
 · refine rn_rh_c l m i (e := .normal) ?_
   rw [eq0 i hi]; simp only [hp]; rfl
 · refine rn_rh_c l m i (e := .ret) ?_
   rw [eq0 i hi]; simp only [hp]; rfl
 · refine rn_rh_c l m l.length (e := .exit 0) ?_
   rw [rn_rh_eq, decide_eq_false (by omega)]; rfl
abbrev pre_rn (l : List (Ty.den conf)) (m i : Int) : Prop := i = 0 ∧ l.length ≤ 1000000
def rs_rn (l : List (Ty.den conf)) (m i : Int) : Ex × St := if l.findIdx (fun y => cF y == m) < l.length then (.ret, St.of 24 (lve_rn (.ret)) [.si .i64 (cC (l.getD (l.findIdx (fun y => cF y == m)) conf.dflt))] [] [] hp_rn.kh hp_rn.kt) else (.exit 0, St.of 24 (lve_rn (.exit 0)) [] [] [] hp_rn.kh hp_rn.kt)
def res_rn (l : List (Ty.den conf)) (m i : Int) : Tr (Ex × St) := .br (decide (pre_rn l m i)) (.br (decide (l.findIdx (fun y => cF y == m) < l.length)) (.leaf (some (.ret, St.of 24 (lve_rn (.ret)) [.si .i64 (cC (l.getD (l.findIdx (fun y => cF y == m)) conf.dflt))] [] [] hp_rn.kh hp_rn.kt))) (.leaf (some (.exit 0, St.of 24 (lve_rn (.exit 0)) [] [] [] hp_rn.kh hp_rn.kt)))) (.leaf none)
def ent_rn : LEnt := LEnt.by hp_rn fun ⟨(l, m, i, _), _, _⟩ => res_rn l m i
theorem ent_rn_ok (hgo : ∀ (l : List (Ty.den conf)) (m i : Int), pre_rn l m i → SemL Tryd.prog Γ (lp 58 0) (st_rn l m i) (rs_rn l m i).1.to (rs_rn l m i).2) : EntOk Tryd.prog Γ (lp 58 0) ent_rn := LEnt.by_ok fun ⟨(l, m, i, _), _, _⟩ _ _ h_ => SemL.br (out := rs_rn l m i) (Tr.run_ite rfl rfl) (hgo l m i) h_
theorem rn_go (l : List (Ty.den conf)) (m i : Int) (h : pre_rn l m i) : SemL Tryd.prog Γ (lp 58 0) (st_rn l m i) (rs_rn l m i).1.to (rs_rn l m i).2 := by
 obtain ⟨rfl, hc⟩ := h
 refine scan_find l conf.dflt (fun y => cF y == m) (fun i => st_rn l m (i : Nat)) (fun i => St.of 24 (lve_rn .ret) [.si .i64 (cC (l.getD i conf.dflt))] [] [] 0 0) _ 0 (fun i hi hp => ?_) (fun i hi hp => ?_) ?_
 · have hw : IntKind.i64.wrap ((i : Int) + 1) = ((i + 1 : Nat) : Int) := by rw [wrap_in (by omega) (by omega)]; rfl
   have eq := rn_rn_eq l m i
   rw [hw, decide_eq_true (by omega : (i : Int) < l.length), decide_eq_true (by omega : (0 : Int) ≤ (i : Int) ∧ (i : Int) < l.length), Int.toNat_natCast, hp] at eq
   exact rn_rn_c l m i (eq.trans rfl)
 · have eq := rn_rn_eq l m i
   rw [decide_eq_true (by omega : (i : Int) < l.length), decide_eq_true (by omega : (0 : Int) ≤ (i : Int) ∧ (i : Int) < l.length), Int.toNat_natCast, hp] at eq
   exact rn_rn_c l m i (eq.trans rfl)
 · refine rn_rn_c l m l.length (e := .exit 0) ?_
   rw [rn_rn_eq, decide_eq_false (by omega)]; rfl
def bitN (a b : Int) (i : Nat) : Int := (((a.toNat &&& b.toNat) % 2 ^ i : Nat) : Int)
theorem bitB_nat {a i : Nat} (hi : i ≤ 64) : (((a : Int).fdiv ((2 : Int) ^ min i 64)).tmod (2 : Int) == (1 : Int)) = a.testBit i := by
 have e1 : (a : Int).fdiv (2 ^ min i 64) = ((a / 2 ^ i : Nat) : Int) := by
  rw [Nat.min_eq_left hi, Int.fdiv_eq_ediv_of_nonneg _ (by exact Int.le_of_lt (Int.pow_pos (by decide))), Int.natCast_ediv, Int.natCast_pow]; rfl
 have e2 : ((a / 2 ^ i : Nat) : Int).tmod 2 = ((a / 2 ^ i % 2 : Nat) : Int) := by rw [Int.tmod_eq_emod_of_nonneg (Int.natCast_nonneg _)]; rfl
 rw [e1, e2, Nat.testBit_eq_decide_div_mod_eq]
 have : a / 2 ^ i % 2 < 2 := Nat.mod_lt _ (by decide)
 rcases (show a / 2 ^ i % 2 = 0 ∨ a / 2 ^ i % 2 = 1 by omega) with h | h <;> rw [h] <;> rfl
theorem bitN_succ {a b : Int} {i : Nat} : bitN a b (i + 1) = bif (a.toNat.testBit i && b.toNat.testBit i) then bitN a b i + 2 ^ i else bitN a b i := by
 unfold bitN
 rw [Nat.mod_pow_succ, ← Nat.testBit_and]
 rw [Nat.testBit_eq_decide_div_mod_eq]
 generalize (a.toNat &&& b.toNat) = n
 have : n / 2 ^ i % 2 < 2 := Nat.mod_lt _ (by decide)
 rcases (show n / 2 ^ i % 2 = 0 ∨ n / 2 ^ i % 2 = 1 by omega) with h | h <;> rw [h]
 · simp
 · simp
theorem bitN_le {a b : Int} {i : Nat} (ha : 0 ≤ a ∧ a ≤ 255) : 0 ≤ bitN a b i ∧ bitN a b i ≤ 255 := by
 unfold bitN
 have h1 : (a.toNat &&& b.toNat) % 2 ^ i ≤ a.toNat &&& b.toNat := Nat.mod_le _ _
 have h2 : a.toNat &&& b.toNat ≤ a.toNat := Nat.and_le_left
 omega
theorem bitN_all {a b : Int} (ha : 0 ≤ a ∧ a ≤ 255) (hb : 0 ≤ b ∧ b ≤ 255) : bitN a b 8 = andI a b := by
 obtain ⟨a, rfl⟩ := Int.eq_ofNat_of_zero_le ha.1
 obtain ⟨b, rfl⟩ := Int.eq_ofNat_of_zero_le hb.1
 obtain ⟨e1, e2⟩ := andI_nat (a := a) (b := b) (by omega)
 rw [e1]
 unfold bitN
 rw [Int.toNat_natCast, Int.toNat_natCast, Nat.mod_eq_of_lt (by omega)]
theorem two_pow_wrap {i : Nat} (h : i < 8) : IntKind.i64.wrap ((1 : Int) * (2 : Int) ^ min i 64) = 2 ^ i ∧ (2 : Int) ^ i ≤ 128 ∧ (1 : Int) ≤ 2 ^ i := by
 match i, h with
 | 0, _ => exact ⟨by decide +kernel, by decide, by decide⟩
 | 1, _ => exact ⟨by decide +kernel, by decide, by decide⟩
 | 2, _ => exact ⟨by decide +kernel, by decide, by decide⟩
 | 3, _ => exact ⟨by decide +kernel, by decide, by decide⟩
 | 4, _ => exact ⟨by decide +kernel, by decide, by decide⟩
 | 5, _ => exact ⟨by decide +kernel, by decide, by decide⟩
 | 6, _ => exact ⟨by decide +kernel, by decide, by decide⟩
 | 7, _ => exact ⟨by decide +kernel, by decide, by decide⟩
 | i + 8, h => omega
abbrev pre_rb (a b o i : Int) : Prop := i = 0 ∧ o = 0 ∧ (0 ≤ a ∧ a ≤ 255) ∧ 0 ≤ b ∧ b ≤ 255
def rs_rb (a b o i : Int) : Ex × St := (.exit 0, St.of 28 (lve_rb (.exit 0)) [.si .i64 (bitN a b 8)] [] [] hp_rb.kh hp_rb.kt)
def res_rb (a b o i : Int) : Tr (Ex × St) := .br (decide (pre_rb a b o i)) (.leaf (some (.exit 0, St.of 28 (lve_rb (.exit 0)) [.si .i64 (bitN a b 8)] [] [] hp_rb.kh hp_rb.kt))) (.leaf none)
def ent_rb : LEnt := LEnt.by hp_rb fun ⟨(a, b, o, i, _), _, _⟩ => res_rb a b o i
theorem ent_rb_ok (hgo : ∀ (a b o i : Int), pre_rb a b o i → SemL Tryd.prog Γ (lp 56 0) (st_rb a b o i) (rs_rb a b o i).1.to (rs_rb a b o i).2) : EntOk Tryd.prog Γ (lp 56 0) ent_rb := LEnt.by_ok fun ⟨(a, b, o, i, _), _, _⟩ _ _ h_ => SemL.br (out := rs_rb a b o i) rfl (hgo a b o i) h_
theorem rb_go (a b o i : Int) (h : pre_rb a b o i) : SemL Tryd.prog Γ (lp 56 0) (st_rb a b o i) (rs_rb a b o i).1.to (rs_rb a b o i).2 := by
 obtain ⟨rfl, rfl, ha, hb⟩ := h
 have h0 : st_rb a b 0 0 = st_rb a b (bitN a b 0) (0 : Nat) := by
  have : bitN a b 0 = 0 := by unfold bitN; simp [Nat.mod_one]
  rw [this]; rfl
 rw [h0]
 refine SemL.scan 8 0 (Nat.zero_le _) (fun i => st_rb a b (bitN a b i) (i : Nat)) (fun _ => true) _ ?_ ?_ ?_
 · intro i _ hi _ _
   have hw : IntKind.i64.wrap ((i : Int) + 1) = ((i + 1 : Nat) : Int) := by rw [wrap_in (by omega) (by omega)]; rfl
   have eq := rn_rb_eq a b (bitN a b i) i
   have hle := bitN_le (a := a) (b := b) (i := i) ha
   obtain ⟨p1, p2, p3⟩ := two_pow_wrap hi
   have ea : ((a.fdiv ((2 : Int) ^ min i 64)).tmod (2 : Int) == (1 : Int)) = a.toNat.testBit i := by
    have : a = (a.toNat : Int) := by omega
    rw [this]; exact bitB_nat (by omega)
   have eb : ((b.fdiv ((2 : Int) ^ min i 64)).tmod (2 : Int) == (1 : Int)) = b.toNat.testBit i := by
    have : b = (b.toNat : Int) := by omega
    rw [this]; exact bitB_nat (by omega)
   rw [hw, decide_eq_true (by omega : (i : Int) < (8 : Int)), decide_eq_true (by omega : (0 : Int) ≤ (i : Int)), Int.toNat_natCast, ea, eb, p1, wrap_in (by omega) (by omega)] at eq
   have hs := bitN_succ (a := a) (b := b) (i := i)
   show SemC Tryd.prog Γ (lp 56 0) _ .normal (st_rb a b (bitN a b (i + 1)) ((i + 1 : Nat) : Int))
   cases e1 : a.toNat.testBit i <;> cases e2 : b.toNat.testBit i <;> rw [e1, e2] at hs eq <;> rw [hs] <;> exact rn_rb_c a b (bitN a b i) i (eq.trans rfl)
 · intro i _ _ _ h; cases h
 · intro _
   refine ⟨by simp [rs_rb, Ex.to], ?_⟩
   have eq := rn_rb_eq a b (bitN a b 8) (8 : Nat)
   rw [decide_eq_false (by decide)] at eq
   exact rn_rb_c a b (bitN a b 8) (8 : Nat) (eq.trans rfl)
def lo51 : LOrc := (LOrc.add (LOrc.add (LOrc.add (LOrc.add (LOrc.add lo35 45 0 ent_rr) 46 0 ent_rc) 57 0 ent_rh) 58 0 ent_rn) 56 0 ent_rb)
theorem lo51_ok : LOrcOk Tryd.prog Γ lo51 := (LOrcOk.add (LOrcOk.add (LOrcOk.add (LOrcOk.add (LOrcOk.add lo35_ok 45 0 Tryd.func45 bd_rr le_rr (ent_rr_ok rr_go)) 46 0 Tryd.func46 bd_rc le_rc (ent_rc_ok rc_go)) 57 0 Tryd.func57 bd_rh le_rh (ent_rh_ok rh_go)) 58 0 Tryd.func58 bd_rn le_rn (ent_rn_ok rn_go)) 56 0 Tryd.func56 bd_rb le_rb (ent_rb_ok rb_go))
noncomputable def cfg51 : Cfg := cfgT T36 isT36 orc38 lo51
theorem cfg51_ok : CfgOk Tryd.prog Γ cfg51 := cfgT_ok T36_ok orc38_ok lo51_ok
theorem c45_run (l : List Int) (m : Int) : runL cfg51 45 [.slst .ro ity l, .si .i64 m] = .ok (some (decide (pre_rr l m (0 : Int)))) (V.sb (bif decide (allI l.length (riB l m) = true) then true else false)) := by kernel_rfl
theorem c46_run (l : List (Ty.den conf)) (m : Int) : runL cfg51 46 [.slst .ro conf l, .si .i64 m] = .ok (some (decide (pre_rc l m (0 : Int)))) (V.sb (bif decide (allI l.length (coB l m) = true) then true else false)) := by kernel_rfl
theorem c57_run (l : List Int) (m : Int) : runL cfg51 57 [.slst .ro ity l, .si .i64 m] = .ok (some (decide (pre_rh l m (0 : Int)))) (V.sb (bif decide (List.findIdx (fun y => m == y) l < l.length) then true else false)) := by kernel_rfl
theorem c58_run (l : List (Ty.den conf)) (m : Int) : runL cfg51 58 [.slst .ro conf l, .si .i64 m] = .ok (some (decide (pre_rn l m (0 : Int)))) (V.si .i64 (bif decide (List.findIdx (fun y => cF y == m) l < l.length) then cC (l.getD (List.findIdx (fun y => cF y == m) l) conf.dflt) else (0 : Int))) := by kernel_rfl
theorem c56_run (a b : Int) : runL cfg51 56 [.si .i64 a, .si .i64 b] = .ok (some (decide (pre_rb a b (0 : Int) (0 : Int)))) (V.si .i64 (bitN a b (8))) := by kernel_rfl
end L
end Go.Proofs.YthjiodeaepigmaaDoor

/- Package label: the reference's Valid, Below, Reason: loops, printed. -/
set_option linter.unusedVariables false
set_option linter.unusedSimpArgs false
set_option maxRecDepth 100000
set_option maxHeartbeats 4000000
namespace Go.Proofs.YthjiodeaepigmaaDoor
open Go
namespace L
def cntR (l : List (Ty.den conf)) (f : Int) : Int := bif decide (l.findIdx (fun y => cF y == f) < l.length) then cC (l.getD (l.findIdx (fun y => cF y == f)) conf.dflt) else 0
def e45 (l : List Int) (m : Int) : Option Bool × V := (some (decide (l.length ≤ 1000000)), .sb (risingD l m))
def e46 (l : List (Ty.den conf)) (m : Int) : Option Bool × V := (some (decide (l.length ≤ 1000000)), .sb (countsD l m))
def e57 (l : List Int) (m : Int) : Option Bool × V := (some (decide (l.length ≤ 1000000)), .sb (hasD l m))
def e58 (l : List (Ty.den conf)) (m : Int) : Option Bool × V := (some (decide (l.length ≤ 1000000)), .si .i64 (cntR l m))
def e56 (a b : Int) : Option Bool × V := (some (decide ((0 ≤ a ∧ a ≤ 255) ∧ 0 ≤ b ∧ b ≤ 255)), .si .i64 (andI a b))
theorem e45_of (l : List Int) (m : Int) (h : (e45 l m).1.getD true = true) : SemF Tryd.prog Γ 45 [.slst .ro ity l, .si .i64 m] [] [] (e45 l m).2 [] [] :=
 of_runL cfg51_ok (c45_run l m) (decide_eq_true ⟨rfl, of_decide_eq_true h⟩) (by show V.sb _ = V.sb (allI l.length (riB l m)); cases allI l.length (riB l m) <;> rfl)
theorem e46_of (l : List (Ty.den conf)) (m : Int) (h : (e46 l m).1.getD true = true) : SemF Tryd.prog Γ 46 [.slst .ro conf l, .si .i64 m] [] [] (e46 l m).2 [] [] :=
 of_runL cfg51_ok (c46_run l m) (decide_eq_true ⟨rfl, of_decide_eq_true h⟩) (by show V.sb _ = V.sb (allI l.length (coB l m)); cases allI l.length (coB l m) <;> rfl)
theorem e57_of (l : List Int) (m : Int) (h : (e57 l m).1.getD true = true) : SemF Tryd.prog Γ 57 [.slst .ro ity l, .si .i64 m] [] [] (e57 l m).2 [] [] :=
 of_runL cfg51_ok (c57_run l m) (decide_eq_true ⟨rfl, of_decide_eq_true h⟩) (by show V.sb _ = V.sb (decide (l.findIdx (fun y => m == y) < l.length)); cases decide (l.findIdx (fun y => m == y) < l.length) <;> rfl)
theorem e58_of (l : List (Ty.den conf)) (m : Int) (h : (e58 l m).1.getD true = true) : SemF Tryd.prog Γ 58 [.slst .ro conf l, .si .i64 m] [] [] (e58 l m).2 [] [] :=
 of_runL cfg51_ok (c58_run l m) (decide_eq_true ⟨rfl, of_decide_eq_true h⟩) rfl
theorem e56_of (a b : Int) (h : (e56 a b).1.getD true = true) : SemF Tryd.prog Γ 56 [.si .i64 a, .si .i64 b] [] [] (e56 a b).2 [] [] := by
 have h := of_decide_eq_true h
 exact of_runL cfg51_ok (c56_run a b) (decide_eq_true ⟨rfl, rfl, h.1, h.2⟩) (congrArg (V.si .i64) (bitN_all h.1 h.2))
noncomputable def o52a : Orc := fun f args => if f = 45 then (Ty.ofVs [.slice ity, ity] args).map (fun x => e45 x.1 x.2.1) else orc38 f args
theorem o52a_ok : OrcOk Tryd.prog Γ o52a := orc38_ok.plain 45 [.slice ity, ity] (fun x => e45 x.1 x.2.1) Tryd.f45 Tryd.func45 rfl (by kernel_rfl) (fun x h => e45_of _ _ h)
noncomputable def o52b : Orc := fun f args => if f = 46 then (Ty.ofVs [.slice conf, ity] args).map (fun x => e46 x.1 x.2.1) else o52a f args
theorem o52b_ok : OrcOk Tryd.prog Γ o52b := o52a_ok.plain 46 [.slice conf, ity] (fun x => e46 x.1 x.2.1) Tryd.f46 Tryd.func46 rfl (by kernel_rfl) (fun x h => e46_of _ _ h)
noncomputable def o52c : Orc := fun f args => if f = 57 then (Ty.ofVs [.slice ity, ity] args).map (fun x => e57 x.1 x.2.1) else o52b f args
theorem o52c_ok : OrcOk Tryd.prog Γ o52c := o52b_ok.plain 57 [.slice ity, ity] (fun x => e57 x.1 x.2.1) Tryd.f57 Tryd.func57 rfl (by kernel_rfl) (fun x h => e57_of _ _ h)
noncomputable def o52d : Orc := fun f args => if f = 58 then (Ty.ofVs [.slice conf, ity] args).map (fun x => e58 x.1 x.2.1) else o52c f args
theorem o52d_ok : OrcOk Tryd.prog Γ o52d := o52c_ok.plain 58 [.slice conf, ity] (fun x => e58 x.1 x.2.1) Tryd.f58 Tryd.func58 rfl (by kernel_rfl) (fun x h => e58_of _ _ h)
noncomputable def orc52 : Orc := fun f args => if f = 56 then (Ty.ofVs [ity, ity] args).map (fun x => e56 x.1 x.2.1) else o52d f args
theorem orc52_ok : OrcOk Tryd.prog Γ orc52 := o52d_ok.plain 56 [ity, ity] (fun x => e56 x.1 x.2.1) Tryd.f56 Tryd.func56 rfl (by kernel_rfl) (fun x h => e56_of _ _ h)
noncomputable def cfg52 : Cfg := cfgT T36 isT36 orc52 lo35
theorem cfg52_ok : CfgOk Tryd.prog Γ cfg52 := cfgT_ok T36_ok orc52_ok lo35_ok
def hp_rv : HP := { n := 79, lv := [1, 3], sp := [.ptr 0 0, .ty ity], op := [.cells [.ty ity, .ty (.slice ity), .ty (.slice conf), .ty ity, .ty ity, .ty (.slice lockT)]], bp := [] }
def lve_rv : Ex → List Nat
 | .normal => [1, 3]
 | .ret => [2]
 | .exit 0 => []
 | _ => []
theorem bd_rv : Tryd.f15.body = some (root 15) := by kernel_rfl
theorem le_rv : (loops (root 15))[0]? = some (lp 15 0) := by kernel_rfl
theorem li_rv : Lies (root 15) 1 (lp 15 0) := Lies.of_take (n := 0) (by kernel_rfl)
def st_rv (i : Int) (xu : Int) (xe : List Int) (xc : List (Ty.den conf)) (xt xk : Int) (xl : List (Ty.den lockT)) : St := hp_rv.st ⟨((), i, ()), ((xu, xe, xc, xt, xk, xl, ()), ()), ()⟩
noncomputable def rn_rv (i : Int) (xu : Int) (xe : List Int) (xc : List (Ty.den conf)) (xt xk : Int) (xl : List (Ty.den lockT)) := outa lve_rv (evCK Tryd.prog Γ (cfM Tryd.prog Γ cfg52 30) (cfg52.lo 15) [] 60 1 (lp 15 0) (st_rv i xu xe xc xt xk xl))
theorem rn_rv_eq (i : Int) (xu : Int) (xe : List Int) (xc : List (Ty.den conf)) (xt xk : Int) (xl : List (Ty.den lockT)) : (rn_rv i xu xe xc xt xk xl).run = (bif decide (i < (xl.length : Int)) then (bif decide ((0 : Int) ≤ i ∧ i < (xl.length : Int)) then (bif decide (List.length (kK (xl.getD i.toNat lockT.dflt)) ≤ 1000000) then (bif !risingD (kK (xl.getD i.toNat lockT.dflt)) (19 : Int) then (some ((Ex.ret, [V.b false], [], [], 79, 0, 0))) else (bif !bif decide ((kN (xl.getD i.toNat lockT.dflt)) ≥ (1 : Int)) then decide ((kN (xl.getD i.toNat lockT.dflt)) ≤ (Nat.cast ((List.length (kK (xl.getD i.toNat lockT.dflt)))) : Int)) else false then (some ((Ex.ret, [V.b false], [], [], 79, 0, 0))) else (bif decide (i > (0 : Int)) then (bif decide ((0 : Int) ≤ IntKind.i64.wrap (i - (1 : Int)) ∧ IntKind.i64.wrap (i - (1 : Int)) < (xl.length : Int)) then (bif decide ((kK (xl.getD (IntKind.i64.wrap (i - (1 : Int))).toNat lockT.dflt)).length ≤ 1000000 ∧ (kK (xl.getD i.toNat lockT.dflt)).length ≤ 1000000) then (bif !beforeD (xl.getD (IntKind.i64.wrap (i - (1 : Int))).toNat lockT.dflt) (xl.getD i.toNat lockT.dflt) then (some ((Ex.ret, [V.b false], [], [], 79, 0, 0))) else (some ((Ex.normal, [V.ptr 0 0, V.si .i64 (IntKind.i64.wrap (i + (1 : Int)))], [some [V.si .i64 xu, V.slst .ro ity xe, V.slst .ro conf xc, V.si .i64 xt, V.si .i64 xk, V.slst .ro lockT xl]], [], 79, 0, 0)))) else none) else none) else (some ((Ex.normal, [V.ptr 0 0, V.si .i64 (IntKind.i64.wrap (i + (1 : Int)))], [some [V.si .i64 xu, V.slst .ro ity xe, V.slst .ro conf xc, V.si .i64 xt, V.si .i64 xk, V.slst .ro lockT xl]], [], 79, 0, 0)))))) else none) else none) else (some ((Ex.exit 0, [], [], [], 79, 0, 0)))) := by kernel_rfl
theorem rn_rv_c (i : Int) (xu : Int) (xe : List Int) (xc : List (Ty.den conf)) (xt xk : Int) (xl : List (Ty.den lockT)) {e : Ex} {vs : List V} {ob : Ob} {nm : Nm} {n' kh kt : Nat} (h : (rn_rv i xu xe xc xt xk xl).run = some (e, vs, ob, nm, n', kh, kt)) : SemC Tryd.prog Γ (lp 15 0) (st_rv i xu xe xc xt xk xl) e.to (St.of n' (lve_rv e) vs ob nm kh kt) := SemC.of_evM cfg52_ok Tryd.func15 bd_rv li_rv h
def hp_rB0 : HP := { n := 114, lv := [2, 3, 5], sp := [.ptr 0 0, .ptr 1 0, .ty ity], op := [.cells [.ty ity, .ty (.slice ity), .ty (.slice conf), .ty ity, .ty ity, .ty (.slice lockT)], .cells [.ty ity, .ty (.slice ity), .ty (.slice conf), .ty ity, .ty ity, .ty (.slice lockT)]], bp := [] }
def lve_rB0 : Ex → List Nat
 | .normal => [2, 3, 5]
 | .ret => [4]
 | .exit 0 => [2, 3]
 | _ => []
theorem bd_rB0 : Tryd.f20.body = some (root 20) := by kernel_rfl
theorem le_rB0 : (loops (root 20))[0]? = some (lp 20 0) := by kernel_rfl
theorem li_rB0 : Lies (root 20) 1 (lp 20 0) := Lies.of_take (n := 0) (by kernel_rfl)
def st_rB0 (i : Int) (xu : Int) (xe : List Int) (xc : List (Ty.den conf)) (xt xk : Int) (xl : List (Ty.den lockT)) (yu : Int) (ye : List Int) (yc : List (Ty.den conf)) (yt yk : Int) (yl : List (Ty.den lockT)) : St := hp_rB0.st ⟨((), (), i, ()), ((xu, xe, xc, xt, xk, xl, ()), (yu, ye, yc, yt, yk, yl, ()), ()), ()⟩
noncomputable def rn_rB0 (i : Int) (xu : Int) (xe : List Int) (xc : List (Ty.den conf)) (xt xk : Int) (xl : List (Ty.den lockT)) (yu : Int) (ye : List Int) (yc : List (Ty.den conf)) (yt yk : Int) (yl : List (Ty.den lockT)) := outa lve_rB0 (evCK Tryd.prog Γ (cfM Tryd.prog Γ cfg52 30) (cfg52.lo 20) [] 60 1 (lp 20 0) (st_rB0 i xu xe xc xt xk xl yu ye yc yt yk yl))
theorem rn_rB0_eq (i : Int) (xu : Int) (xe : List Int) (xc : List (Ty.den conf)) (xt xk : Int) (xl : List (Ty.den lockT)) (yu : Int) (ye : List Int) (yc : List (Ty.den conf)) (yt yk : Int) (yl : List (Ty.den lockT)) : (rn_rB0 i xu xe xc xt xk xl yu ye yc yt yk yl).run = (bif decide (i < (xe.length : Int)) then (bif decide ((0 : Int) ≤ i ∧ i < (xe.length : Int)) then (bif decide (ye.length ≤ 1000000) then (bif !hasD ye (xe.getD i.toNat (0 : Int)) then (some ((Ex.ret, [V.b false], [], [], 114, 0, 0))) else (some ((Ex.normal, [V.ptr 0 0, V.ptr 1 0, V.si .i64 (IntKind.i64.wrap (i + (1 : Int)))], [some [V.si .i64 xu, V.slst .ro ity xe, V.slst .ro conf xc, V.si .i64 xt, V.si .i64 xk, V.slst .ro lockT xl], some [V.si .i64 yu, V.slst .ro ity ye, V.slst .ro conf yc, V.si .i64 yt, V.si .i64 yk, V.slst .ro lockT yl]], [], 114, 0, 0)))) else none) else none) else (some ((Ex.exit 0, [V.ptr 0 0, V.ptr 1 0], [some [V.si .i64 xu, V.slst .ro ity xe, V.slst .ro conf xc, V.si .i64 xt, V.si .i64 xk, V.slst .ro lockT xl], some [V.si .i64 yu, V.slst .ro ity ye, V.slst .ro conf yc, V.si .i64 yt, V.si .i64 yk, V.slst .ro lockT yl]], [], 114, 0, 0)))) := by kernel_rfl
theorem rn_rB0_c (i : Int) (xu : Int) (xe : List Int) (xc : List (Ty.den conf)) (xt xk : Int) (xl : List (Ty.den lockT)) (yu : Int) (ye : List Int) (yc : List (Ty.den conf)) (yt yk : Int) (yl : List (Ty.den lockT)) {e : Ex} {vs : List V} {ob : Ob} {nm : Nm} {n' kh kt : Nat} (h : (rn_rB0 i xu xe xc xt xk xl yu ye yc yt yk yl).run = some (e, vs, ob, nm, n', kh, kt)) : SemC Tryd.prog Γ (lp 20 0) (st_rB0 i xu xe xc xt xk xl yu ye yc yt yk yl) e.to (St.of n' (lve_rB0 e) vs ob nm kh kt) := SemC.of_evM cfg52_ok Tryd.func20 bd_rB0 li_rB0 h
def hp_rB1 : HP := { n := 114, lv := [2, 3, 6], sp := [.ptr 0 0, .ptr 1 0, .ty ity], op := [.cells [.ty ity, .ty (.slice ity), .ty (.slice conf), .ty ity, .ty ity, .ty (.slice lockT)], .cells [.ty ity, .ty (.slice ity), .ty (.slice conf), .ty ity, .ty ity, .ty (.slice lockT)]], bp := [] }
def lve_rB1 : Ex → List Nat
 | .normal => [2, 3, 6]
 | .ret => [4]
 | .exit 2 => [2, 3]
 | _ => []
theorem bd_rB1 : Tryd.f20.body = some (root 20) := by kernel_rfl
theorem le_rB1 : (loops (root 20))[1]? = some (lp 20 1) := by kernel_rfl
theorem li_rB1 : Lies (root 20) 2 (lp 20 1) := Lies.of_take (n := 0) (by kernel_rfl)
def st_rB1 (i : Int) (xu : Int) (xe : List Int) (xc : List (Ty.den conf)) (xt xk : Int) (xl : List (Ty.den lockT)) (yu : Int) (ye : List Int) (yc : List (Ty.den conf)) (yt yk : Int) (yl : List (Ty.den lockT)) : St := hp_rB1.st ⟨((), (), i, ()), ((xu, xe, xc, xt, xk, xl, ()), (yu, ye, yc, yt, yk, yl, ()), ()), ()⟩
noncomputable def rn_rB1 (i : Int) (xu : Int) (xe : List Int) (xc : List (Ty.den conf)) (xt xk : Int) (xl : List (Ty.den lockT)) (yu : Int) (ye : List Int) (yc : List (Ty.den conf)) (yt yk : Int) (yl : List (Ty.den lockT)) := outa lve_rB1 (evCK Tryd.prog Γ (cfM Tryd.prog Γ cfg52 30) (cfg52.lo 20) [] 60 2 (lp 20 1) (st_rB1 i xu xe xc xt xk xl yu ye yc yt yk yl))
theorem rn_rB1_eq (i : Int) (xu : Int) (xe : List Int) (xc : List (Ty.den conf)) (xt xk : Int) (xl : List (Ty.den lockT)) (yu : Int) (ye : List Int) (yc : List (Ty.den conf)) (yt yk : Int) (yl : List (Ty.den lockT)) : (rn_rB1 i xu xe xc xt xk xl yu ye yc yt yk yl).run = (bif decide (i < (xc.length : Int)) then (bif decide ((0 : Int) ≤ i ∧ i < (xc.length : Int)) then (bif decide (yc.length ≤ 1000000) then (bif decide ((0 : Int) ≤ i ∧ i < (xc.length : Int)) then (bif decide (cntR yc (cF (xc.getD i.toNat conf.dflt)) < (cC (xc.getD i.toNat conf.dflt))) then (some ((Ex.ret, [V.b false], [], [], 114, 0, 0))) else (some ((Ex.normal, [V.ptr 0 0, V.ptr 1 0, V.si .i64 (IntKind.i64.wrap (i + (1 : Int)))], [some [V.si .i64 xu, V.slst .ro ity xe, V.slst .ro conf xc, V.si .i64 xt, V.si .i64 xk, V.slst .ro lockT xl], some [V.si .i64 yu, V.slst .ro ity ye, V.slst .ro conf yc, V.si .i64 yt, V.si .i64 yk, V.slst .ro lockT yl]], [], 114, 0, 0)))) else none) else none) else none) else (some ((Ex.exit 2, [V.ptr 0 0, V.ptr 1 0], [some [V.si .i64 xu, V.slst .ro ity xe, V.slst .ro conf xc, V.si .i64 xt, V.si .i64 xk, V.slst .ro lockT xl], some [V.si .i64 yu, V.slst .ro ity ye, V.slst .ro conf yc, V.si .i64 yt, V.si .i64 yk, V.slst .ro lockT yl]], [], 114, 0, 0)))) := by kernel_rfl
theorem rn_rB1_c (i : Int) (xu : Int) (xe : List Int) (xc : List (Ty.den conf)) (xt xk : Int) (xl : List (Ty.den lockT)) (yu : Int) (ye : List Int) (yc : List (Ty.den conf)) (yt yk : Int) (yl : List (Ty.den lockT)) {e : Ex} {vs : List V} {ob : Ob} {nm : Nm} {n' kh kt : Nat} (h : (rn_rB1 i xu xe xc xt xk xl yu ye yc yt yk yl).run = some (e, vs, ob, nm, n', kh, kt)) : SemC Tryd.prog Γ (lp 20 1) (st_rB1 i xu xe xc xt xk xl yu ye yc yt yk yl) e.to (St.of n' (lve_rB1 e) vs ob nm kh kt) := SemC.of_evM cfg52_ok Tryd.func20 bd_rB1 li_rB1 h
def hp_rB3 : HP := { n := 114, lv := [2, 3, 7, 8, 9], sp := [.ptr 0 0, .ptr 1 0, .ty ity, .ty .bool, .ty ity], op := [.cells [.ty ity, .ty (.slice ity), .ty (.slice conf), .ty ity, .ty ity, .ty (.slice lockT)], .cells [.ty ity, .ty (.slice ity), .ty (.slice conf), .ty ity, .ty ity, .ty (.slice lockT)]], bp := [] }
def lve_rB3 : Ex → List Nat
 | .normal => [2, 3, 7, 8, 9]
 | .exit 6 => [2, 3, 7, 8]
 | _ => []
theorem bd_rB3 : Tryd.f20.body = some (root 20) := by kernel_rfl
theorem le_rB3 : (loops (root 20))[3]? = some (lp 20 3) := by kernel_rfl
theorem li_rB3 : Lies (root 20) 4 (lp 20 3) := Lies.of_take (n := 0) (by kernel_rfl)
def st_rB3 (i : Int) (p : Bool) (k : Int) (xu : Int) (xe : List Int) (xc : List (Ty.den conf)) (xt xk : Int) (xl : List (Ty.den lockT)) (yu : Int) (ye : List Int) (yc : List (Ty.den conf)) (yt yk : Int) (yl : List (Ty.den lockT)) : St := hp_rB3.st ⟨((), (), i, p, k, ()), ((xu, xe, xc, xt, xk, xl, ()), (yu, ye, yc, yt, yk, yl, ()), ()), ()⟩
noncomputable def rn_rB3 (i : Int) (p : Bool) (k : Int) (xu : Int) (xe : List Int) (xc : List (Ty.den conf)) (xt xk : Int) (xl : List (Ty.den lockT)) (yu : Int) (ye : List Int) (yc : List (Ty.den conf)) (yt yk : Int) (yl : List (Ty.den lockT)) := outa lve_rB3 (evCK Tryd.prog Γ (cfM Tryd.prog Γ cfg52 30) (cfg52.lo 20) [] 60 4 (lp 20 3) (st_rB3 i p k xu xe xc xt xk xl yu ye yc yt yk yl))
theorem rn_rB3_eq (i : Int) (p : Bool) (k : Int) (xu : Int) (xe : List Int) (xc : List (Ty.den conf)) (xt xk : Int) (xl : List (Ty.den lockT)) (yu : Int) (ye : List Int) (yc : List (Ty.den conf)) (yt yk : Int) (yl : List (Ty.den lockT)) : (rn_rB3 i p k xu xe xc xt xk xl yu ye yc yt yk yl).run = (bif decide (k < (yl.length : Int)) then (bif p then (some ((Ex.normal, [V.ptr 0 0, V.ptr 1 0, V.si .i64 i, V.b true, V.si .i64 (IntKind.i64.wrap (k + (1 : Int)))], [some [V.si .i64 xu, V.slst .ro ity xe, V.slst .ro conf xc, V.si .i64 xt, V.si .i64 xk, V.slst .ro lockT xl], some [V.si .i64 yu, V.slst .ro ity ye, V.slst .ro conf yc, V.si .i64 yt, V.si .i64 yk, V.slst .ro lockT yl]], [], 114, 0, 0))) else (bif decide ((0 : Int) ≤ i ∧ i < (xl.length : Int)) then (bif decide ((0 : Int) ≤ k ∧ k < (yl.length : Int)) then (bif (some (!(kN (xl.getD i.toNat lockT.dflt)) == (kN (yl.getD k.toNat lockT.dflt)) || decide (List.length (kK (xl.getD i.toNat lockT.dflt)) ≤ 1000000 ∧ List.length (kK (yl.getD k.toNat lockT.dflt)) ≤ 1000000))).getD true then (some ((Ex.normal, [V.ptr 0 0, V.ptr 1 0, V.si .i64 i, V.sb (bif (kN (xl.getD i.toNat lockT.dflt)) == (kN (yl.getD k.toNat lockT.dflt)) then rcmp (kK (xl.getD i.toNat lockT.dflt)) (kK (yl.getD k.toNat lockT.dflt)) == (0 : Int) else false), V.si .i64 (IntKind.i64.wrap (k + (1 : Int)))], [some [V.si .i64 xu, V.slst .ro ity xe, V.slst .ro conf xc, V.si .i64 xt, V.si .i64 xk, V.slst .ro lockT xl], some [V.si .i64 yu, V.slst .ro ity ye, V.slst .ro conf yc, V.si .i64 yt, V.si .i64 yk, V.slst .ro lockT yl]], [], 114, 0, 0))) else none) else none) else none)) else (some ((Ex.exit 6, [V.ptr 0 0, V.ptr 1 0, V.si .i64 i, V.sb p], [some [V.si .i64 xu, V.slst .ro ity xe, V.slst .ro conf xc, V.si .i64 xt, V.si .i64 xk, V.slst .ro lockT xl], some [V.si .i64 yu, V.slst .ro ity ye, V.slst .ro conf yc, V.si .i64 yt, V.si .i64 yk, V.slst .ro lockT yl]], [], 114, 0, 0)))) := by kernel_rfl
theorem rn_rB3_c (i : Int) (p : Bool) (k : Int) (xu : Int) (xe : List Int) (xc : List (Ty.den conf)) (xt xk : Int) (xl : List (Ty.den lockT)) (yu : Int) (ye : List Int) (yc : List (Ty.den conf)) (yt yk : Int) (yl : List (Ty.den lockT)) {e : Ex} {vs : List V} {ob : Ob} {nm : Nm} {n' kh kt : Nat} (h : (rn_rB3 i p k xu xe xc xt xk xl yu ye yc yt yk yl).run = some (e, vs, ob, nm, n', kh, kt)) : SemC Tryd.prog Γ (lp 20 3) (st_rB3 i p k xu xe xc xt xk xl yu ye yc yt yk yl) e.to (St.of n' (lve_rB3 e) vs ob nm kh kt) := SemC.of_evM cfg52_ok Tryd.func20 bd_rB3 li_rB3 h
def hp_rR0 : HP := { n := 133, lv := [3, 5, 7], sp := [.ptr 0 0, .ptr 1 0, .ty ity], op := [.cells [.ty ity, .ty (.slice ity), .ty (.slice conf), .ty ity, .ty ity, .ty (.slice lockT)], .cells [.ty ity, .ty ity, .ty (.slice ity), .ty (.slice conf), .ty (.slice ity)]], bp := [] }
def lve_rR0 : Ex → List Nat
 | .normal => [3, 5, 7]
 | .ret => [6]
 | .exit 0 => [3, 5]
 | _ => []
theorem bd_rR0 : Tryd.f25.body = some (root 25) := by kernel_rfl
theorem le_rR0 : (loops (root 25))[0]? = some (lp 25 0) := by kernel_rfl
theorem li_rR0 : Lies (root 25) 1 (lp 25 0) := Lies.of_take (n := 0) (by kernel_rfl)
def st_rR0 (i : Int) (xu : Int) (xe : List Int) (xc : List (Ty.den conf)) (xt xk : Int) (xl : List (Ty.den lockT)) (now dr : Int) (me : List Int) (mc : List (Ty.den conf)) (mk : List Int) : St := hp_rR0.st ⟨((), (), i, ()), ((xu, xe, xc, xt, xk, xl, ()), (now, dr, me, mc, mk, ()), ()), ()⟩
noncomputable def rn_rR0 (i : Int) (xu : Int) (xe : List Int) (xc : List (Ty.den conf)) (xt xk : Int) (xl : List (Ty.den lockT)) (now dr : Int) (me : List Int) (mc : List (Ty.den conf)) (mk : List Int) := outa lve_rR0 (evCK Tryd.prog Γ (cfM Tryd.prog Γ cfg52 30) (cfg52.lo 25) [] 60 1 (lp 25 0) (st_rR0 i xu xe xc xt xk xl now dr me mc mk))
theorem rn_rR0_eq (i : Int) (xu : Int) (xe : List Int) (xc : List (Ty.den conf)) (xt xk : Int) (xl : List (Ty.den lockT)) (now dr : Int) (me : List Int) (mc : List (Ty.den conf)) (mk : List Int) : (rn_rR0 i xu xe xc xt xk xl now dr me mc mk).run = (bif decide (i < (xe.length : Int)) then (bif decide ((0 : Int) ≤ i ∧ i < (xe.length : Int)) then (bif decide (me.length ≤ 1000000) then (bif !hasD me (xe.getD i.toNat (0 : Int)) then (some ((Ex.ret, [V.i .i64 (5 : Int)], [], [], 133, 0, 0))) else (some ((Ex.normal, [V.ptr 0 0, V.ptr 1 0, V.si .i64 (IntKind.i64.wrap (i + (1 : Int)))], [some [V.si .i64 xu, V.slst .ro ity xe, V.slst .ro conf xc, V.si .i64 xt, V.si .i64 xk, V.slst .ro lockT xl], some [V.si .i64 now, V.si .i64 dr, V.slst .ro ity me, V.slst .ro conf mc, V.slst .ro ity mk]], [], 133, 0, 0)))) else none) else none) else (some ((Ex.exit 0, [V.ptr 0 0, V.ptr 1 0], [some [V.si .i64 xu, V.slst .ro ity xe, V.slst .ro conf xc, V.si .i64 xt, V.si .i64 xk, V.slst .ro lockT xl], some [V.si .i64 now, V.si .i64 dr, V.slst .ro ity me, V.slst .ro conf mc, V.slst .ro ity mk]], [], 133, 0, 0)))) := by kernel_rfl
theorem rn_rR0_c (i : Int) (xu : Int) (xe : List Int) (xc : List (Ty.den conf)) (xt xk : Int) (xl : List (Ty.den lockT)) (now dr : Int) (me : List Int) (mc : List (Ty.den conf)) (mk : List Int) {e : Ex} {vs : List V} {ob : Ob} {nm : Nm} {n' kh kt : Nat} (h : (rn_rR0 i xu xe xc xt xk xl now dr me mc mk).run = some (e, vs, ob, nm, n', kh, kt)) : SemC Tryd.prog Γ (lp 25 0) (st_rR0 i xu xe xc xt xk xl now dr me mc mk) e.to (St.of n' (lve_rR0 e) vs ob nm kh kt) := SemC.of_evM cfg52_ok Tryd.func25 bd_rR0 li_rR0 h
def hp_rR1 : HP := { n := 133, lv := [3, 5, 8], sp := [.ptr 0 0, .ptr 1 0, .ty ity], op := [.cells [.ty ity, .ty (.slice ity), .ty (.slice conf), .ty ity, .ty ity, .ty (.slice lockT)], .cells [.ty ity, .ty ity, .ty (.slice ity), .ty (.slice conf), .ty (.slice ity)]], bp := [] }
def lve_rR1 : Ex → List Nat
 | .normal => [3, 5, 8]
 | .ret => [6]
 | .exit 2 => [3, 5]
 | _ => []
theorem bd_rR1 : Tryd.f25.body = some (root 25) := by kernel_rfl
theorem le_rR1 : (loops (root 25))[1]? = some (lp 25 1) := by kernel_rfl
theorem li_rR1 : Lies (root 25) 2 (lp 25 1) := Lies.of_take (n := 0) (by kernel_rfl)
def st_rR1 (i : Int) (xu : Int) (xe : List Int) (xc : List (Ty.den conf)) (xt xk : Int) (xl : List (Ty.den lockT)) (now dr : Int) (me : List Int) (mc : List (Ty.den conf)) (mk : List Int) : St := hp_rR1.st ⟨((), (), i, ()), ((xu, xe, xc, xt, xk, xl, ()), (now, dr, me, mc, mk, ()), ()), ()⟩
noncomputable def rn_rR1 (i : Int) (xu : Int) (xe : List Int) (xc : List (Ty.den conf)) (xt xk : Int) (xl : List (Ty.den lockT)) (now dr : Int) (me : List Int) (mc : List (Ty.den conf)) (mk : List Int) := outa lve_rR1 (evCK Tryd.prog Γ (cfM Tryd.prog Γ cfg52 30) (cfg52.lo 25) [] 60 2 (lp 25 1) (st_rR1 i xu xe xc xt xk xl now dr me mc mk))
theorem rn_rR1_eq (i : Int) (xu : Int) (xe : List Int) (xc : List (Ty.den conf)) (xt xk : Int) (xl : List (Ty.den lockT)) (now dr : Int) (me : List Int) (mc : List (Ty.den conf)) (mk : List Int) : (rn_rR1 i xu xe xc xt xk xl now dr me mc mk).run = (bif decide (i < (xc.length : Int)) then (bif decide ((0 : Int) ≤ i ∧ i < (xc.length : Int)) then (bif decide (mc.length ≤ 1000000) then (bif decide ((0 : Int) ≤ i ∧ i < (xc.length : Int)) then (bif decide (cntR mc (cF (xc.getD i.toNat conf.dflt)) < (cC (xc.getD i.toNat conf.dflt))) then (some ((Ex.ret, [V.i .i64 (6 : Int)], [], [], 133, 0, 0))) else (some ((Ex.normal, [V.ptr 0 0, V.ptr 1 0, V.si .i64 (IntKind.i64.wrap (i + (1 : Int)))], [some [V.si .i64 xu, V.slst .ro ity xe, V.slst .ro conf xc, V.si .i64 xt, V.si .i64 xk, V.slst .ro lockT xl], some [V.si .i64 now, V.si .i64 dr, V.slst .ro ity me, V.slst .ro conf mc, V.slst .ro ity mk]], [], 133, 0, 0)))) else none) else none) else none) else (some ((Ex.exit 2, [V.ptr 0 0, V.ptr 1 0], [some [V.si .i64 xu, V.slst .ro ity xe, V.slst .ro conf xc, V.si .i64 xt, V.si .i64 xk, V.slst .ro lockT xl], some [V.si .i64 now, V.si .i64 dr, V.slst .ro ity me, V.slst .ro conf mc, V.slst .ro ity mk]], [], 133, 0, 0)))) := by kernel_rfl
theorem rn_rR1_c (i : Int) (xu : Int) (xe : List Int) (xc : List (Ty.den conf)) (xt xk : Int) (xl : List (Ty.den lockT)) (now dr : Int) (me : List Int) (mc : List (Ty.den conf)) (mk : List Int) {e : Ex} {vs : List V} {ob : Ob} {nm : Nm} {n' kh kt : Nat} (h : (rn_rR1 i xu xe xc xt xk xl now dr me mc mk).run = some (e, vs, ob, nm, n', kh, kt)) : SemC Tryd.prog Γ (lp 25 1) (st_rR1 i xu xe xc xt xk xl now dr me mc mk) e.to (St.of n' (lve_rR1 e) vs ob nm kh kt) := SemC.of_evM cfg52_ok Tryd.func25 bd_rR1 li_rR1 h
def hp_rR3 : HP := { n := 133, lv := [3, 5, 9, 10, 11], sp := [.ptr 0 0, .ptr 1 0, .ty ity, .ty ity, .ty ity], op := [.cells [.ty ity, .ty (.slice ity), .ty (.slice conf), .ty ity, .ty ity, .ty (.slice lockT)], .cells [.ty ity, .ty ity, .ty (.slice ity), .ty (.slice conf), .ty (.slice ity)]], bp := [] }
def lve_rR3 : Ex → List Nat
 | .normal => [3, 5, 9, 10, 11]
 | .exit 6 => [3, 5, 9, 10]
 | _ => []
theorem bd_rR3 : Tryd.f25.body = some (root 25) := by kernel_rfl
theorem le_rR3 : (loops (root 25))[3]? = some (lp 25 3) := by kernel_rfl
theorem li_rR3 : Lies (root 25) 4 (lp 25 3) := Lies.of_take (n := 0) (by kernel_rfl)
def st_rR3 (i n k : Int) (xu : Int) (xe : List Int) (xc : List (Ty.den conf)) (xt xk : Int) (xl : List (Ty.den lockT)) (now dr : Int) (me : List Int) (mc : List (Ty.den conf)) (mk : List Int) : St := hp_rR3.st ⟨((), (), i, n, k, ()), ((xu, xe, xc, xt, xk, xl, ()), (now, dr, me, mc, mk, ()), ()), ()⟩
noncomputable def rn_rR3 (i n k : Int) (xu : Int) (xe : List Int) (xc : List (Ty.den conf)) (xt xk : Int) (xl : List (Ty.den lockT)) (now dr : Int) (me : List Int) (mc : List (Ty.den conf)) (mk : List Int) := outa lve_rR3 (evCK Tryd.prog Γ (cfM Tryd.prog Γ cfg52 30) (cfg52.lo 25) [] 60 4 (lp 25 3) (st_rR3 i n k xu xe xc xt xk xl now dr me mc mk))
theorem rn_rR3_eq (i n k : Int) (xu : Int) (xe : List Int) (xc : List (Ty.den conf)) (xt xk : Int) (xl : List (Ty.den lockT)) (now dr : Int) (me : List Int) (mc : List (Ty.den conf)) (mk : List Int) : (rn_rR3 i n k xu xe xc xt xk xl now dr me mc mk).run = (bif decide ((0 : Int) ≤ i ∧ i < (xl.length : Int)) then (bif decide (k < (Nat.cast ((List.length (kK (xl.getD i.toNat lockT.dflt)))) : Int)) then (bif decide ((0 : Int) ≤ i ∧ i < (xl.length : Int)) then (bif decide ((0 : Int) ≤ k ∧ k < (Nat.cast ((List.length (kK (xl.getD i.toNat lockT.dflt)))) : Int)) then (bif decide (mk.length ≤ 1000000) then (bif hasD mk (List.getD (kK (xl.getD i.toNat lockT.dflt)) k.toNat (0 : Int)) then (some ((Ex.normal, [V.ptr 0 0, V.ptr 1 0, V.si .i64 i, V.si .i64 (IntKind.i64.wrap (n + (1 : Int))), V.si .i64 (IntKind.i64.wrap (k + (1 : Int)))], [some [V.si .i64 xu, V.slst .ro ity xe, V.slst .ro conf xc, V.si .i64 xt, V.si .i64 xk, V.slst .ro lockT xl], some [V.si .i64 now, V.si .i64 dr, V.slst .ro ity me, V.slst .ro conf mc, V.slst .ro ity mk]], [], 133, 0, 0))) else (some ((Ex.normal, [V.ptr 0 0, V.ptr 1 0, V.si .i64 i, V.si .i64 n, V.si .i64 (IntKind.i64.wrap (k + (1 : Int)))], [some [V.si .i64 xu, V.slst .ro ity xe, V.slst .ro conf xc, V.si .i64 xt, V.si .i64 xk, V.slst .ro lockT xl], some [V.si .i64 now, V.si .i64 dr, V.slst .ro ity me, V.slst .ro conf mc, V.slst .ro ity mk]], [], 133, 0, 0)))) else none) else none) else none) else (some ((Ex.exit 6, [V.ptr 0 0, V.ptr 1 0, V.si .i64 i, V.si .i64 n], [some [V.si .i64 xu, V.slst .ro ity xe, V.slst .ro conf xc, V.si .i64 xt, V.si .i64 xk, V.slst .ro lockT xl], some [V.si .i64 now, V.si .i64 dr, V.slst .ro ity me, V.slst .ro conf mc, V.slst .ro ity mk]], [], 133, 0, 0)))) else none) := by kernel_rfl
theorem rn_rR3_c (i n k : Int) (xu : Int) (xe : List Int) (xc : List (Ty.den conf)) (xt xk : Int) (xl : List (Ty.den lockT)) (now dr : Int) (me : List Int) (mc : List (Ty.den conf)) (mk : List Int) {e : Ex} {vs : List V} {ob : Ob} {nm : Nm} {n' kh kt : Nat} (h : (rn_rR3 i n k xu xe xc xt xk xl now dr me mc mk).run = some (e, vs, ob, nm, n', kh, kt)) : SemC Tryd.prog Γ (lp 25 3) (st_rR3 i n k xu xe xc xt xk xl now dr me mc mk) e.to (St.of n' (lve_rR3 e) vs ob nm kh kt) := SemC.of_evM cfg52_ok Tryd.func25 bd_rR3 li_rR3 h
end L
end Go.Proofs.YthjiodeaepigmaaDoor

/- Package label: what the loops of the reference's Valid, Below, Reason leave. -/
set_option linter.unusedVariables false
set_option linter.unusedSimpArgs false
set_option maxRecDepth 100000
set_option maxHeartbeats 4000000
namespace Go.Proofs.YthjiodeaepigmaaDoor
open Go
namespace L
theorem keys_in {q : Ty.den lockT} (h : risingD (kK q) 19 = true) : ∀ z ∈ kK q, 0 ≤ z ∧ z ≤ 19 := (rising_iff.1 h).1
abbrev pre_rv (i : Int) (xu : Int) (xe : List Int) (xc : List (Ty.den conf)) (xt xk : Int) (xl : List (Ty.den lockT)) : Prop := i = 0 ∧ szL xl
def rs_rv (i : Int) (xu : Int) (xe : List Int) (xc : List (Ty.den conf)) (xt xk : Int) (xl : List (Ty.den lockT)) : Ex × St := if locksD xl = true then (.exit 0, St.of 79 (lve_rv (.exit 0)) [] [] [] hp_rv.kh hp_rv.kt) else (.ret, St.of 79 (lve_rv (.ret)) [.b false] [] [] hp_rv.kh hp_rv.kt)
def res_rv (i : Int) (xu : Int) (xe : List Int) (xc : List (Ty.den conf)) (xt xk : Int) (xl : List (Ty.den lockT)) : Tr (Ex × St) := .br (decide (pre_rv i xu xe xc xt xk xl)) (.br (decide (locksD xl = true)) (.leaf (some (.exit 0, St.of 79 (lve_rv (.exit 0)) [] [] [] hp_rv.kh hp_rv.kt))) (.leaf (some (.ret, St.of 79 (lve_rv (.ret)) [.b false] [] [] hp_rv.kh hp_rv.kt)))) (.leaf none)
def ent_rv : LEnt := LEnt.by hp_rv fun ⟨(_, i, _), ((xu, xe, xc, xt, xk, xl, _), _), _⟩ => res_rv i xu xe xc xt xk xl
theorem ent_rv_ok (hgo : ∀ (i : Int) (xu : Int) (xe : List Int) (xc : List (Ty.den conf)) (xt xk : Int) (xl : List (Ty.den lockT)), pre_rv i xu xe xc xt xk xl → SemL Tryd.prog Γ (lp 15 0) (st_rv i xu xe xc xt xk xl) (rs_rv i xu xe xc xt xk xl).1.to (rs_rv i xu xe xc xt xk xl).2) : EntOk Tryd.prog Γ (lp 15 0) ent_rv := LEnt.by_ok fun ⟨(_, i, _), ((xu, xe, xc, xt, xk, xl, _), _), _⟩ _ _ h_ => SemL.br (out := rs_rv i xu xe xc xt xk xl) (Tr.run_ite rfl rfl) (hgo i xu xe xc xt xk xl) h_
theorem rv_go (i : Int) (xu : Int) (xe : List Int) (xc : List (Ty.den conf)) (xt xk : Int) (xl : List (Ty.den lockT)) (h : pre_rv i xu xe xc xt xk xl) : SemL Tryd.prog Γ (lp 15 0) (st_rv i xu xe xc xt xk xl) (rs_rv i xu xe xc xt xk xl).1.to (rs_rv i xu xe xc xt xk xl).2 := by
 obtain ⟨rfl, hs⟩ := h
 have hl := hs.1
 have hk : ∀ i, i < xl.length → (kK (xl.getD i lockT.dflt)).length ≤ 1000000 := fun i hi => hs.2 _ (getD_mem hi lockT.dflt)
 have eq0 : ∀ i : Nat, i < xl.length → (∀ j, j < i → lkB xl j = true) → (rn_rv i xu xe xc xt xk xl).run = (bif lkB xl i then some (Ex.normal, [V.ptr 0 0, V.si IntKind.i64 ((i + 1 : Nat) : Int)], [some [.si .i64 xu, .slst .ro ity xe, .slst .ro conf xc, .si .i64 xt, .si .i64 xk, .slst .ro lockT xl]], [], 79, 0, 0) else some (Ex.ret, [V.b false], [], [], 79, 0, 0)) := by
  intro i hi hj
  have hw : IntKind.i64.wrap ((i : Int) + 1) = ((i + 1 : Nat) : Int) := by rw [wrap_in (by omega) (by omega)]; rfl
  have h1 := hk i hi
  rw [rn_rv_eq, hw, decide_eq_true (by omega : (i : Int) < xl.length), decide_eq_true (by omega : (0 : Int) ≤ (i : Int) ∧ (i : Int) < xl.length), Int.toNat_natCast, decide_eq_true h1]
  unfold lkB
  by_cases h0 : i = 0
  · subst h0
    generalize xl.getD 0 lockT.dflt = x
    cases risingD (kK x) 19 <;> by_cases h2 : kN x ≥ 1 <;> by_cases h3 : kN x ≤ (((kK x).length : Nat) : Int) <;> simp [h2, h3]
  · have hw2 : IntKind.i64.wrap ((i : Int) - 1) = ((i - 1 : Nat) : Int) := by rw [wrap_in (by omega) (by omega)]; omega
    have hp := hj (i - 1) (by omega)
    have h4 := hk (i - 1) (by omega)
    unfold lkB at hp
    simp only [Bool.and_eq_true] at hp
    rw [hw2, Int.toNat_natCast, decide_eq_true (by omega : (i : Int) > 0), decide_eq_true (by omega : (0 : Int) ≤ ((i - 1 : Nat) : Int) ∧ ((i - 1 : Nat) : Int) < xl.length), decide_eq_true (And.intro h4 h1)]
    generalize xl.getD i lockT.dflt = x at *
    generalize xl.getD (i - 1) lockT.dflt = y at *
    cases hr : risingD (kK x) 19 with
    | false => simp
    | true =>
     rw [before_cmp y x (keys_in hp.1.1) (keys_in hr) h4 h1]
     by_cases h2 : kN x ≥ 1 <;> by_cases h3 : kN x ≤ (((kK x).length : Nat) : Int) <;> by_cases h5 : cmpL y x < 0 <;> simp [h2, h3, h5]
 refine SemL.scan xl.length 0 (Nat.zero_le _) (fun i => st_rv (i : Nat) xu xe xc xt xk xl) (lkB xl) _ ?_ ?_ ?_
 · intro i _ hi hj hp
   refine rn_rv_c i xu xe xc xt xk xl (e := .normal) ?_
   rw [eq0 i hi (fun j h => hj j (Nat.zero_le _) h), hp]; rfl
 · intro i _ hi hj hp
   have hr : ¬ locksD xl = true := by unfold locksD; rw [allI_false hi hp]; simp
   unfold rs_rv
   rw [if_neg hr]
   refine ⟨by simp [Ex.to], rn_rv_c i xu xe xc xt xk xl (e := .ret) ?_⟩
   rw [eq0 i hi (fun j h => hj j (Nat.zero_le _) h), hp]; rfl
 · intro hj
   have hr : locksD xl = true := allI_true.2 fun i hi => hj i (Nat.zero_le _) hi
   unfold rs_rv
   rw [if_pos hr]
   refine ⟨by simp [Ex.to], rn_rv_c xl.length xu xe xc xt xk xl (e := .exit 0) ?_⟩
   rw [rn_rv_eq, decide_eq_false (by omega)]; rfl
abbrev pre_rB0 (i : Int) (xu : Int) (xe : List Int) (xc : List (Ty.den conf)) (xt xk : Int) (xl : List (Ty.den lockT)) (yu : Int) (ye : List Int) (yc : List (Ty.den conf)) (yt yk : Int) (yl : List (Ty.den lockT)) : Prop := i = 0 ∧ xe.length ≤ 1000000 ∧ ye.length ≤ 1000000
def rs_rB0 (i : Int) (xu : Int) (xe : List Int) (xc : List (Ty.den conf)) (xt xk : Int) (xl : List (Ty.den lockT)) (yu : Int) (ye : List Int) (yc : List (Ty.den conf)) (yt yk : Int) (yl : List (Ty.den lockT)) : Ex × St := if allI xe.length (fun i => hasD ye (xe.getD i 0)) = true then (.exit 0, St.of 114 (lve_rB0 (.exit 0)) [.ptr 0 0, .ptr 1 0] [some [.si .i64 xu, .slst .ro ity xe, .slst .ro conf xc, .si .i64 xt, .si .i64 xk, .slst .ro lockT xl], some [.si .i64 yu, .slst .ro ity ye, .slst .ro conf yc, .si .i64 yt, .si .i64 yk, .slst .ro lockT yl]] [] hp_rB0.kh hp_rB0.kt) else (.ret, St.of 114 (lve_rB0 (.ret)) [.b false] [] [] hp_rB0.kh hp_rB0.kt)
def res_rB0 (i : Int) (xu : Int) (xe : List Int) (xc : List (Ty.den conf)) (xt xk : Int) (xl : List (Ty.den lockT)) (yu : Int) (ye : List Int) (yc : List (Ty.den conf)) (yt yk : Int) (yl : List (Ty.den lockT)) : Tr (Ex × St) := .br (decide (pre_rB0 i xu xe xc xt xk xl yu ye yc yt yk yl)) (.br (decide (allI xe.length (fun i => hasD ye (xe.getD i 0)) = true)) (.leaf (some (.exit 0, St.of 114 (lve_rB0 (.exit 0)) [.ptr 0 0, .ptr 1 0] [some [.si .i64 xu, .slst .ro ity xe, .slst .ro conf xc, .si .i64 xt, .si .i64 xk, .slst .ro lockT xl], some [.si .i64 yu, .slst .ro ity ye, .slst .ro conf yc, .si .i64 yt, .si .i64 yk, .slst .ro lockT yl]] [] hp_rB0.kh hp_rB0.kt))) (.leaf (some (.ret, St.of 114 (lve_rB0 (.ret)) [.b false] [] [] hp_rB0.kh hp_rB0.kt)))) (.leaf none)
def ent_rB0 : LEnt := LEnt.by hp_rB0 fun ⟨(_, _, i, _), ((xu, xe, xc, xt, xk, xl, _), (yu, ye, yc, yt, yk, yl, _), _), _⟩ => res_rB0 i xu xe xc xt xk xl yu ye yc yt yk yl
theorem ent_rB0_ok (hgo : ∀ (i : Int) (xu : Int) (xe : List Int) (xc : List (Ty.den conf)) (xt xk : Int) (xl : List (Ty.den lockT)) (yu : Int) (ye : List Int) (yc : List (Ty.den conf)) (yt yk : Int) (yl : List (Ty.den lockT)), pre_rB0 i xu xe xc xt xk xl yu ye yc yt yk yl → SemL Tryd.prog Γ (lp 20 0) (st_rB0 i xu xe xc xt xk xl yu ye yc yt yk yl) (rs_rB0 i xu xe xc xt xk xl yu ye yc yt yk yl).1.to (rs_rB0 i xu xe xc xt xk xl yu ye yc yt yk yl).2) : EntOk Tryd.prog Γ (lp 20 0) ent_rB0 := LEnt.by_ok fun ⟨(_, _, i, _), ((xu, xe, xc, xt, xk, xl, _), (yu, ye, yc, yt, yk, yl, _), _), _⟩ _ _ h_ => SemL.br (out := rs_rB0 i xu xe xc xt xk xl yu ye yc yt yk yl) (Tr.run_ite rfl rfl) (hgo i xu xe xc xt xk xl yu ye yc yt yk yl) h_
theorem rB0_go (i : Int) (xu : Int) (xe : List Int) (xc : List (Ty.den conf)) (xt xk : Int) (xl : List (Ty.den lockT)) (yu : Int) (ye : List Int) (yc : List (Ty.den conf)) (yt yk : Int) (yl : List (Ty.den lockT)) (h : pre_rB0 i xu xe xc xt xk xl yu ye yc yt yk yl) : SemL Tryd.prog Γ (lp 20 0) (st_rB0 i xu xe xc xt xk xl yu ye yc yt yk yl) (rs_rB0 i xu xe xc xt xk xl yu ye yc yt yk yl).1.to (rs_rB0 i xu xe xc xt xk xl yu ye yc yt yk yl).2 := by
 obtain ⟨rfl, hl, hs⟩ := h
 refine scan_all xe.length (fun i => hasD ye (xe.getD i 0)) (fun i => st_rB0 (i : Nat) xu xe xc xt xk xl yu ye yc yt yk yl) _ _ 0 (fun i hi hp => ?_) (fun i hi hp => ?_) ?_
 · have hw : IntKind.i64.wrap ((i : Int) + 1) = ((i + 1 : Nat) : Int) := by rw [wrap_in (by omega) (by omega)]; rfl
   have eq := rn_rB0_eq i xu xe xc xt xk xl yu ye yc yt yk yl
   rw [hw, decide_eq_true (by omega : (i : Int) < xe.length), decide_eq_true (by omega : (0 : Int) ≤ (i : Int) ∧ (i : Int) < xe.length), decide_eq_true hs, Int.toNat_natCast] at eq
   simp only [hp, Bool.not_true, Bool.not_false] at eq
   exact rn_rB0_c i xu xe xc xt xk xl yu ye yc yt yk yl (eq.trans rfl)
 · have eq := rn_rB0_eq i xu xe xc xt xk xl yu ye yc yt yk yl
   rw [decide_eq_true (by omega : (i : Int) < xe.length), decide_eq_true (by omega : (0 : Int) ≤ (i : Int) ∧ (i : Int) < xe.length), decide_eq_true hs, Int.toNat_natCast] at eq
   simp only [hp, Bool.not_true, Bool.not_false] at eq
   exact rn_rB0_c i xu xe xc xt xk xl yu ye yc yt yk yl (eq.trans rfl)
 · refine rn_rB0_c xe.length xu xe xc xt xk xl yu ye yc yt yk yl (e := .exit 0) ?_
   rw [rn_rB0_eq, decide_eq_false (by omega)]; rfl
abbrev pre_rB1 (i : Int) (xu : Int) (xe : List Int) (xc : List (Ty.den conf)) (xt xk : Int) (xl : List (Ty.den lockT)) (yu : Int) (ye : List Int) (yc : List (Ty.den conf)) (yt yk : Int) (yl : List (Ty.den lockT)) : Prop := i = 0 ∧ xc.length ≤ 1000000 ∧ yc.length ≤ 1000000
def rs_rB1 (i : Int) (xu : Int) (xe : List Int) (xc : List (Ty.den conf)) (xt xk : Int) (xl : List (Ty.den lockT)) (yu : Int) (ye : List Int) (yc : List (Ty.den conf)) (yt yk : Int) (yl : List (Ty.den lockT)) : Ex × St := if allI xc.length (fun i => !decide (cntR yc (cF (xc.getD i conf.dflt)) < cC (xc.getD i conf.dflt))) = true then (.exit 2, St.of 114 (lve_rB1 (.exit 2)) [.ptr 0 0, .ptr 1 0] [some [.si .i64 xu, .slst .ro ity xe, .slst .ro conf xc, .si .i64 xt, .si .i64 xk, .slst .ro lockT xl], some [.si .i64 yu, .slst .ro ity ye, .slst .ro conf yc, .si .i64 yt, .si .i64 yk, .slst .ro lockT yl]] [] hp_rB1.kh hp_rB1.kt) else (.ret, St.of 114 (lve_rB1 (.ret)) [.b false] [] [] hp_rB1.kh hp_rB1.kt)
def res_rB1 (i : Int) (xu : Int) (xe : List Int) (xc : List (Ty.den conf)) (xt xk : Int) (xl : List (Ty.den lockT)) (yu : Int) (ye : List Int) (yc : List (Ty.den conf)) (yt yk : Int) (yl : List (Ty.den lockT)) : Tr (Ex × St) := .br (decide (pre_rB1 i xu xe xc xt xk xl yu ye yc yt yk yl)) (.br (decide (allI xc.length (fun i => !decide (cntR yc (cF (xc.getD i conf.dflt)) < cC (xc.getD i conf.dflt))) = true)) (.leaf (some (.exit 2, St.of 114 (lve_rB1 (.exit 2)) [.ptr 0 0, .ptr 1 0] [some [.si .i64 xu, .slst .ro ity xe, .slst .ro conf xc, .si .i64 xt, .si .i64 xk, .slst .ro lockT xl], some [.si .i64 yu, .slst .ro ity ye, .slst .ro conf yc, .si .i64 yt, .si .i64 yk, .slst .ro lockT yl]] [] hp_rB1.kh hp_rB1.kt))) (.leaf (some (.ret, St.of 114 (lve_rB1 (.ret)) [.b false] [] [] hp_rB1.kh hp_rB1.kt)))) (.leaf none)
def ent_rB1 : LEnt := LEnt.by hp_rB1 fun ⟨(_, _, i, _), ((xu, xe, xc, xt, xk, xl, _), (yu, ye, yc, yt, yk, yl, _), _), _⟩ => res_rB1 i xu xe xc xt xk xl yu ye yc yt yk yl
theorem ent_rB1_ok (hgo : ∀ (i : Int) (xu : Int) (xe : List Int) (xc : List (Ty.den conf)) (xt xk : Int) (xl : List (Ty.den lockT)) (yu : Int) (ye : List Int) (yc : List (Ty.den conf)) (yt yk : Int) (yl : List (Ty.den lockT)), pre_rB1 i xu xe xc xt xk xl yu ye yc yt yk yl → SemL Tryd.prog Γ (lp 20 1) (st_rB1 i xu xe xc xt xk xl yu ye yc yt yk yl) (rs_rB1 i xu xe xc xt xk xl yu ye yc yt yk yl).1.to (rs_rB1 i xu xe xc xt xk xl yu ye yc yt yk yl).2) : EntOk Tryd.prog Γ (lp 20 1) ent_rB1 := LEnt.by_ok fun ⟨(_, _, i, _), ((xu, xe, xc, xt, xk, xl, _), (yu, ye, yc, yt, yk, yl, _), _), _⟩ _ _ h_ => SemL.br (out := rs_rB1 i xu xe xc xt xk xl yu ye yc yt yk yl) (Tr.run_ite rfl rfl) (hgo i xu xe xc xt xk xl yu ye yc yt yk yl) h_
theorem rB1_go (i : Int) (xu : Int) (xe : List Int) (xc : List (Ty.den conf)) (xt xk : Int) (xl : List (Ty.den lockT)) (yu : Int) (ye : List Int) (yc : List (Ty.den conf)) (yt yk : Int) (yl : List (Ty.den lockT)) (h : pre_rB1 i xu xe xc xt xk xl yu ye yc yt yk yl) : SemL Tryd.prog Γ (lp 20 1) (st_rB1 i xu xe xc xt xk xl yu ye yc yt yk yl) (rs_rB1 i xu xe xc xt xk xl yu ye yc yt yk yl).1.to (rs_rB1 i xu xe xc xt xk xl yu ye yc yt yk yl).2 := by
 obtain ⟨rfl, hl, hs⟩ := h
 refine scan_all xc.length (fun i => !decide (cntR yc (cF (xc.getD i conf.dflt)) < cC (xc.getD i conf.dflt))) (fun i => st_rB1 (i : Nat) xu xe xc xt xk xl yu ye yc yt yk yl) _ _ 2 (fun i hi hp => ?_) (fun i hi hp => ?_) ?_
 · have hw : IntKind.i64.wrap ((i : Int) + 1) = ((i + 1 : Nat) : Int) := by rw [wrap_in (by omega) (by omega)]; rfl
   have eq := rn_rB1_eq i xu xe xc xt xk xl yu ye yc yt yk yl
   rw [hw, decide_eq_true (by omega : (i : Int) < xc.length), decide_eq_true (by omega : (0 : Int) ≤ (i : Int) ∧ (i : Int) < xc.length), decide_eq_true hs, Int.toNat_natCast] at eq
   simp only [Bool.not_eq_true', Bool.not_eq_false'] at hp
   simp only [hp, Bool.not_true, Bool.not_false] at eq
   exact rn_rB1_c i xu xe xc xt xk xl yu ye yc yt yk yl (eq.trans rfl)
 · have eq := rn_rB1_eq i xu xe xc xt xk xl yu ye yc yt yk yl
   rw [decide_eq_true (by omega : (i : Int) < xc.length), decide_eq_true (by omega : (0 : Int) ≤ (i : Int) ∧ (i : Int) < xc.length), decide_eq_true hs, Int.toNat_natCast] at eq
   simp only [Bool.not_eq_true', Bool.not_eq_false'] at hp
   simp only [hp, Bool.not_true, Bool.not_false] at eq
   exact rn_rB1_c i xu xe xc xt xk xl yu ye yc yt yk yl (eq.trans rfl)
 · refine rn_rB1_c xc.length xu xe xc xt xk xl yu ye yc yt yk yl (e := .exit 2) ?_
   rw [rn_rB1_eq, decide_eq_false (by omega)]; rfl
abbrev pre_rR0 (i : Int) (xu : Int) (xe : List Int) (xc : List (Ty.den conf)) (xt xk : Int) (xl : List (Ty.den lockT)) (now dr : Int) (me : List Int) (mc : List (Ty.den conf)) (mk : List Int) : Prop := i = 0 ∧ xe.length ≤ 1000000 ∧ me.length ≤ 1000000
def rs_rR0 (i : Int) (xu : Int) (xe : List Int) (xc : List (Ty.den conf)) (xt xk : Int) (xl : List (Ty.den lockT)) (now dr : Int) (me : List Int) (mc : List (Ty.den conf)) (mk : List Int) : Ex × St := if allI xe.length (fun i => hasD me (xe.getD i 0)) = true then (.exit 0, St.of 133 (lve_rR0 (.exit 0)) [.ptr 0 0, .ptr 1 0] [some [.si .i64 xu, .slst .ro ity xe, .slst .ro conf xc, .si .i64 xt, .si .i64 xk, .slst .ro lockT xl], some [.si .i64 now, .si .i64 dr, .slst .ro ity me, .slst .ro conf mc, .slst .ro ity mk]] [] hp_rR0.kh hp_rR0.kt) else (.ret, St.of 133 (lve_rR0 (.ret)) [.i .i64 5] [] [] hp_rR0.kh hp_rR0.kt)
def res_rR0 (i : Int) (xu : Int) (xe : List Int) (xc : List (Ty.den conf)) (xt xk : Int) (xl : List (Ty.den lockT)) (now dr : Int) (me : List Int) (mc : List (Ty.den conf)) (mk : List Int) : Tr (Ex × St) := .br (decide (pre_rR0 i xu xe xc xt xk xl now dr me mc mk)) (.br (decide (allI xe.length (fun i => hasD me (xe.getD i 0)) = true)) (.leaf (some (.exit 0, St.of 133 (lve_rR0 (.exit 0)) [.ptr 0 0, .ptr 1 0] [some [.si .i64 xu, .slst .ro ity xe, .slst .ro conf xc, .si .i64 xt, .si .i64 xk, .slst .ro lockT xl], some [.si .i64 now, .si .i64 dr, .slst .ro ity me, .slst .ro conf mc, .slst .ro ity mk]] [] hp_rR0.kh hp_rR0.kt))) (.leaf (some (.ret, St.of 133 (lve_rR0 (.ret)) [.i .i64 5] [] [] hp_rR0.kh hp_rR0.kt)))) (.leaf none)
def ent_rR0 : LEnt := LEnt.by hp_rR0 fun ⟨(_, _, i, _), ((xu, xe, xc, xt, xk, xl, _), (now, dr, me, mc, mk, _), _), _⟩ => res_rR0 i xu xe xc xt xk xl now dr me mc mk
theorem ent_rR0_ok (hgo : ∀ (i : Int) (xu : Int) (xe : List Int) (xc : List (Ty.den conf)) (xt xk : Int) (xl : List (Ty.den lockT)) (now dr : Int) (me : List Int) (mc : List (Ty.den conf)) (mk : List Int), pre_rR0 i xu xe xc xt xk xl now dr me mc mk → SemL Tryd.prog Γ (lp 25 0) (st_rR0 i xu xe xc xt xk xl now dr me mc mk) (rs_rR0 i xu xe xc xt xk xl now dr me mc mk).1.to (rs_rR0 i xu xe xc xt xk xl now dr me mc mk).2) : EntOk Tryd.prog Γ (lp 25 0) ent_rR0 := LEnt.by_ok fun ⟨(_, _, i, _), ((xu, xe, xc, xt, xk, xl, _), (now, dr, me, mc, mk, _), _), _⟩ _ _ h_ => SemL.br (out := rs_rR0 i xu xe xc xt xk xl now dr me mc mk) (Tr.run_ite rfl rfl) (hgo i xu xe xc xt xk xl now dr me mc mk) h_
theorem rR0_go (i : Int) (xu : Int) (xe : List Int) (xc : List (Ty.den conf)) (xt xk : Int) (xl : List (Ty.den lockT)) (now dr : Int) (me : List Int) (mc : List (Ty.den conf)) (mk : List Int) (h : pre_rR0 i xu xe xc xt xk xl now dr me mc mk) : SemL Tryd.prog Γ (lp 25 0) (st_rR0 i xu xe xc xt xk xl now dr me mc mk) (rs_rR0 i xu xe xc xt xk xl now dr me mc mk).1.to (rs_rR0 i xu xe xc xt xk xl now dr me mc mk).2 := by
 obtain ⟨rfl, hl, hs⟩ := h
 refine scan_all xe.length (fun i => hasD me (xe.getD i 0)) (fun i => st_rR0 (i : Nat) xu xe xc xt xk xl now dr me mc mk) _ _ 0 (fun i hi hp => ?_) (fun i hi hp => ?_) ?_
 · have hw : IntKind.i64.wrap ((i : Int) + 1) = ((i + 1 : Nat) : Int) := by rw [wrap_in (by omega) (by omega)]; rfl
   have eq := rn_rR0_eq i xu xe xc xt xk xl now dr me mc mk
   rw [hw, decide_eq_true (by omega : (i : Int) < xe.length), decide_eq_true (by omega : (0 : Int) ≤ (i : Int) ∧ (i : Int) < xe.length), decide_eq_true hs, Int.toNat_natCast] at eq
   simp only [hp, Bool.not_true, Bool.not_false] at eq
   exact rn_rR0_c i xu xe xc xt xk xl now dr me mc mk (eq.trans rfl)
 · have eq := rn_rR0_eq i xu xe xc xt xk xl now dr me mc mk
   rw [decide_eq_true (by omega : (i : Int) < xe.length), decide_eq_true (by omega : (0 : Int) ≤ (i : Int) ∧ (i : Int) < xe.length), decide_eq_true hs, Int.toNat_natCast] at eq
   simp only [hp, Bool.not_true, Bool.not_false] at eq
   exact rn_rR0_c i xu xe xc xt xk xl now dr me mc mk (eq.trans rfl)
 · refine rn_rR0_c xe.length xu xe xc xt xk xl now dr me mc mk (e := .exit 0) ?_
   rw [rn_rR0_eq, decide_eq_false (by omega)]; rfl
abbrev pre_rR1 (i : Int) (xu : Int) (xe : List Int) (xc : List (Ty.den conf)) (xt xk : Int) (xl : List (Ty.den lockT)) (now dr : Int) (me : List Int) (mc : List (Ty.den conf)) (mk : List Int) : Prop := i = 0 ∧ xc.length ≤ 1000000 ∧ mc.length ≤ 1000000
def rs_rR1 (i : Int) (xu : Int) (xe : List Int) (xc : List (Ty.den conf)) (xt xk : Int) (xl : List (Ty.den lockT)) (now dr : Int) (me : List Int) (mc : List (Ty.den conf)) (mk : List Int) : Ex × St := if allI xc.length (fun i => !decide (cntR mc (cF (xc.getD i conf.dflt)) < cC (xc.getD i conf.dflt))) = true then (.exit 2, St.of 133 (lve_rR1 (.exit 2)) [.ptr 0 0, .ptr 1 0] [some [.si .i64 xu, .slst .ro ity xe, .slst .ro conf xc, .si .i64 xt, .si .i64 xk, .slst .ro lockT xl], some [.si .i64 now, .si .i64 dr, .slst .ro ity me, .slst .ro conf mc, .slst .ro ity mk]] [] hp_rR1.kh hp_rR1.kt) else (.ret, St.of 133 (lve_rR1 (.ret)) [.i .i64 6] [] [] hp_rR1.kh hp_rR1.kt)
def res_rR1 (i : Int) (xu : Int) (xe : List Int) (xc : List (Ty.den conf)) (xt xk : Int) (xl : List (Ty.den lockT)) (now dr : Int) (me : List Int) (mc : List (Ty.den conf)) (mk : List Int) : Tr (Ex × St) := .br (decide (pre_rR1 i xu xe xc xt xk xl now dr me mc mk)) (.br (decide (allI xc.length (fun i => !decide (cntR mc (cF (xc.getD i conf.dflt)) < cC (xc.getD i conf.dflt))) = true)) (.leaf (some (.exit 2, St.of 133 (lve_rR1 (.exit 2)) [.ptr 0 0, .ptr 1 0] [some [.si .i64 xu, .slst .ro ity xe, .slst .ro conf xc, .si .i64 xt, .si .i64 xk, .slst .ro lockT xl], some [.si .i64 now, .si .i64 dr, .slst .ro ity me, .slst .ro conf mc, .slst .ro ity mk]] [] hp_rR1.kh hp_rR1.kt))) (.leaf (some (.ret, St.of 133 (lve_rR1 (.ret)) [.i .i64 6] [] [] hp_rR1.kh hp_rR1.kt)))) (.leaf none)
def ent_rR1 : LEnt := LEnt.by hp_rR1 fun ⟨(_, _, i, _), ((xu, xe, xc, xt, xk, xl, _), (now, dr, me, mc, mk, _), _), _⟩ => res_rR1 i xu xe xc xt xk xl now dr me mc mk
theorem ent_rR1_ok (hgo : ∀ (i : Int) (xu : Int) (xe : List Int) (xc : List (Ty.den conf)) (xt xk : Int) (xl : List (Ty.den lockT)) (now dr : Int) (me : List Int) (mc : List (Ty.den conf)) (mk : List Int), pre_rR1 i xu xe xc xt xk xl now dr me mc mk → SemL Tryd.prog Γ (lp 25 1) (st_rR1 i xu xe xc xt xk xl now dr me mc mk) (rs_rR1 i xu xe xc xt xk xl now dr me mc mk).1.to (rs_rR1 i xu xe xc xt xk xl now dr me mc mk).2) : EntOk Tryd.prog Γ (lp 25 1) ent_rR1 := LEnt.by_ok fun ⟨(_, _, i, _), ((xu, xe, xc, xt, xk, xl, _), (now, dr, me, mc, mk, _), _), _⟩ _ _ h_ => SemL.br (out := rs_rR1 i xu xe xc xt xk xl now dr me mc mk) (Tr.run_ite rfl rfl) (hgo i xu xe xc xt xk xl now dr me mc mk) h_
theorem rR1_go (i : Int) (xu : Int) (xe : List Int) (xc : List (Ty.den conf)) (xt xk : Int) (xl : List (Ty.den lockT)) (now dr : Int) (me : List Int) (mc : List (Ty.den conf)) (mk : List Int) (h : pre_rR1 i xu xe xc xt xk xl now dr me mc mk) : SemL Tryd.prog Γ (lp 25 1) (st_rR1 i xu xe xc xt xk xl now dr me mc mk) (rs_rR1 i xu xe xc xt xk xl now dr me mc mk).1.to (rs_rR1 i xu xe xc xt xk xl now dr me mc mk).2 := by
 obtain ⟨rfl, hl, hs⟩ := h
 refine scan_all xc.length (fun i => !decide (cntR mc (cF (xc.getD i conf.dflt)) < cC (xc.getD i conf.dflt))) (fun i => st_rR1 (i : Nat) xu xe xc xt xk xl now dr me mc mk) _ _ 2 (fun i hi hp => ?_) (fun i hi hp => ?_) ?_
 · have hw : IntKind.i64.wrap ((i : Int) + 1) = ((i + 1 : Nat) : Int) := by rw [wrap_in (by omega) (by omega)]; rfl
   have eq := rn_rR1_eq i xu xe xc xt xk xl now dr me mc mk
   rw [hw, decide_eq_true (by omega : (i : Int) < xc.length), decide_eq_true (by omega : (0 : Int) ≤ (i : Int) ∧ (i : Int) < xc.length), decide_eq_true hs, Int.toNat_natCast] at eq
   simp only [Bool.not_eq_true', Bool.not_eq_false'] at hp
   simp only [hp, Bool.not_true, Bool.not_false] at eq
   exact rn_rR1_c i xu xe xc xt xk xl now dr me mc mk (eq.trans rfl)
 · have eq := rn_rR1_eq i xu xe xc xt xk xl now dr me mc mk
   rw [decide_eq_true (by omega : (i : Int) < xc.length), decide_eq_true (by omega : (0 : Int) ≤ (i : Int) ∧ (i : Int) < xc.length), decide_eq_true hs, Int.toNat_natCast] at eq
   simp only [Bool.not_eq_true', Bool.not_eq_false'] at hp
   simp only [hp, Bool.not_true, Bool.not_false] at eq
   exact rn_rR1_c i xu xe xc xt xk xl now dr me mc mk (eq.trans rfl)
 · refine rn_rR1_c xc.length xu xe xc xt xk xl now dr me mc mk (e := .exit 2) ?_
   rw [rn_rR1_eq, decide_eq_false (by omega)]; rfl
abbrev fT (x : Ty.den lockT) (l : List (Ty.den lockT)) (k : Nat) : Bool := beqR x (l.getD k lockT.dflt)
abbrev pre_rB3 (i : Int) (p : Bool) (k : Int) (xu : Int) (xe : List Int) (xc : List (Ty.den conf)) (xt xk : Int) (xl : List (Ty.den lockT)) (yu : Int) (ye : List Int) (yc : List (Ty.den conf)) (yt yk : Int) (yl : List (Ty.den lockT)) : Prop := k = 0 ∧ (0 ≤ i ∧ i < (xl.length : Int)) ∧ szL xl ∧ szL yl
def rs_rB3 (i : Int) (p : Bool) (k : Int) (xu : Int) (xe : List Int) (xc : List (Ty.den conf)) (xt xk : Int) (xl : List (Ty.den lockT)) (yu : Int) (ye : List Int) (yc : List (Ty.den conf)) (yt yk : Int) (yl : List (Ty.den lockT)) : Ex × St := (.exit 6, St.of 114 (lve_rB3 (.exit 6)) [.ptr 0 0, .ptr 1 0, .si .i64 i, .sb (Bool.or p (anyI yl.length (fT (xl.getD i.toNat lockT.dflt) yl)))] [some [.si .i64 xu, .slst .ro ity xe, .slst .ro conf xc, .si .i64 xt, .si .i64 xk, .slst .ro lockT xl], some [.si .i64 yu, .slst .ro ity ye, .slst .ro conf yc, .si .i64 yt, .si .i64 yk, .slst .ro lockT yl]] [] hp_rB3.kh hp_rB3.kt)
def res_rB3 (i : Int) (p : Bool) (k : Int) (xu : Int) (xe : List Int) (xc : List (Ty.den conf)) (xt xk : Int) (xl : List (Ty.den lockT)) (yu : Int) (ye : List Int) (yc : List (Ty.den conf)) (yt yk : Int) (yl : List (Ty.den lockT)) : Tr (Ex × St) := .br (decide (pre_rB3 i p k xu xe xc xt xk xl yu ye yc yt yk yl)) (.leaf (some (.exit 6, St.of 114 (lve_rB3 (.exit 6)) [.ptr 0 0, .ptr 1 0, .si .i64 i, .sb (Bool.or p (anyI yl.length (fT (xl.getD i.toNat lockT.dflt) yl)))] [some [.si .i64 xu, .slst .ro ity xe, .slst .ro conf xc, .si .i64 xt, .si .i64 xk, .slst .ro lockT xl], some [.si .i64 yu, .slst .ro ity ye, .slst .ro conf yc, .si .i64 yt, .si .i64 yk, .slst .ro lockT yl]] [] hp_rB3.kh hp_rB3.kt))) (.leaf none)
def ent_rB3 : LEnt := LEnt.by hp_rB3 fun ⟨(_, _, i, p, k, _), ((xu, xe, xc, xt, xk, xl, _), (yu, ye, yc, yt, yk, yl, _), _), _⟩ => res_rB3 i p k xu xe xc xt xk xl yu ye yc yt yk yl
theorem ent_rB3_ok (hgo : ∀ (i : Int) (p : Bool) (k : Int) (xu : Int) (xe : List Int) (xc : List (Ty.den conf)) (xt xk : Int) (xl : List (Ty.den lockT)) (yu : Int) (ye : List Int) (yc : List (Ty.den conf)) (yt yk : Int) (yl : List (Ty.den lockT)), pre_rB3 i p k xu xe xc xt xk xl yu ye yc yt yk yl → SemL Tryd.prog Γ (lp 20 3) (st_rB3 i p k xu xe xc xt xk xl yu ye yc yt yk yl) (rs_rB3 i p k xu xe xc xt xk xl yu ye yc yt yk yl).1.to (rs_rB3 i p k xu xe xc xt xk xl yu ye yc yt yk yl).2) : EntOk Tryd.prog Γ (lp 20 3) ent_rB3 := LEnt.by_ok fun ⟨(_, _, i, p, k, _), ((xu, xe, xc, xt, xk, xl, _), (yu, ye, yc, yt, yk, yl, _), _), _⟩ _ _ h_ => SemL.br (out := rs_rB3 i p k xu xe xc xt xk xl yu ye yc yt yk yl) rfl (hgo i p k xu xe xc xt xk xl yu ye yc yt yk yl) h_
theorem rB3_go (i : Int) (p : Bool) (k : Int) (xu : Int) (xe : List Int) (xc : List (Ty.den conf)) (xt xk : Int) (xl : List (Ty.den lockT)) (yu : Int) (ye : List Int) (yc : List (Ty.den conf)) (yt yk : Int) (yl : List (Ty.den lockT)) (h : pre_rB3 i p k xu xe xc xt xk xl yu ye yc yt yk yl) : SemL Tryd.prog Γ (lp 20 3) (st_rB3 i p k xu xe xc xt xk xl yu ye yc yt yk yl) (rs_rB3 i p k xu xe xc xt xk xl yu ye yc yt yk yl).1.to (rs_rB3 i p k xu xe xc xt xk xl yu ye yc yt yk yl).2 := by
 obtain ⟨rfl, hi, hx, hy⟩ := h
 have hyl := hy.1
 have kx := hx.2 _ (getD_mem (show i.toNat < xl.length by omega) lockT.dflt)
 have hst : ∀ P, P = p → st_rB3 i p 0 xu xe xc xt xk xl yu ye yc yt yk yl = st_rB3 i P ((0 : Nat) : Int) xu xe xc xt xk xl yu ye yc yt yk yl := fun P e1 => by rw [e1]; rfl
 rw [hst (p || anyI 0 (fT (xl.getD i.toNat lockT.dflt) yl)) (by simp [anyI])]
 refine SemL.scan yl.length 0 (Nat.zero_le _) (fun k => st_rB3 i (p || anyI k (fT (xl.getD i.toNat lockT.dflt) yl)) (k : Nat) xu xe xc xt xk xl yu ye yc yt yk yl) (fun _ => true) _ ?_ ?_ ?_
 · intro k _ hk _ _
   have hw : IntKind.i64.wrap ((k : Int) + 1) = ((k + 1 : Nat) : Int) := by rw [wrap_in (by omega) (by omega)]; rfl
   have ky := hy.2 _ (getD_mem hk lockT.dflt)
   show SemC Tryd.prog Γ (lp 20 3) (st_rB3 i (p || anyI k (fT (xl.getD i.toNat lockT.dflt) yl)) (k : Nat) xu xe xc xt xk xl yu ye yc yt yk yl) .normal (st_rB3 i (p || anyI (k + 1) (fT (xl.getD i.toNat lockT.dflt) yl)) ((k + 1 : Nat) : Int) xu xe xc xt xk xl yu ye yc yt yk yl)
   rw [anyI_succ, ← Bool.or_assoc]
   generalize (p || anyI k (fT (xl.getD i.toNat lockT.dflt) yl)) = P
   have eq := rn_rB3_eq i P k xu xe xc xt xk xl yu ye yc yt yk yl
   rw [hw, decide_eq_true (by omega : (k : Int) < yl.length), decide_eq_true hi, decide_eq_true (by omega : (0 : Int) ≤ (k : Int) ∧ (k : Int) < yl.length), Int.toNat_natCast, decide_eq_true (And.intro kx ky)] at eq
   simp only [Bool.or_true, Option.getD_some] at eq
   have eb : (bif kN (xl.getD i.toNat lockT.dflt) == kN (yl.getD k lockT.dflt) then rcmp (kK (xl.getD i.toNat lockT.dflt)) (kK (yl.getD k lockT.dflt)) == (0 : Int) else false) = fT (xl.getD i.toNat lockT.dflt) yl k := rfl
   rw [eb] at eq
   generalize fT (xl.getD i.toNat lockT.dflt) yl k = b at eq ⊢
   cases P <;> cases b <;> exact (rn_rB3_c i _ k xu xe xc xt xk xl yu ye yc yt yk yl (eq.trans rfl)).les (by repeat (first | exact .nil | refine .cons (.rfl _) ?_ | refine .cons (.b _) ?_))
 · intro i _ _ _ h; cases h
 · intro _
   refine ⟨by simp [rs_rB3, Ex.to], ?_⟩
   have eq := rn_rB3_eq i (p || anyI yl.length (fT (xl.getD i.toNat lockT.dflt) yl)) (yl.length : Nat) xu xe xc xt xk xl yu ye yc yt yk yl
   rw [decide_eq_false (by omega)] at eq
   exact rn_rB3_c i _ (yl.length : Nat) xu xe xc xt xk xl yu ye yc yt yk yl (eq.trans rfl)
def cntK (mk : List Int) (q : List Int) (k : Nat) : Int := (((q.take k).filter (hasD mk)).length : Int)
theorem cntK_succ {mk q : List Int} {k : Nat} (h : k < q.length) : cntK mk q (k + 1) = bif hasD mk (q.getD k 0) then cntK mk q k + 1 else cntK mk q k := by
 unfold cntK
 have e : q.getD k 0 = q[k] := getD_eq h _
 rw [List.take_succ_eq_append_getElem h, List.filter_append, e]
 cases hb : hasD mk q[k] <;> simp [hb]
theorem cntK_le {mk q : List Int} {k : Nat} : 0 ≤ cntK mk q k ∧ cntK mk q k ≤ q.length := by
 unfold cntK
 have h1 := List.length_filter_le (hasD mk) (q.take k)
 have h2 := List.length_take_le' k q
 omega
abbrev pre_rR3 (i n k : Int) (xu : Int) (xe : List Int) (xc : List (Ty.den conf)) (xt xk : Int) (xl : List (Ty.den lockT)) (now dr : Int) (me : List Int) (mc : List (Ty.den conf)) (mk : List Int) : Prop := n = 0 ∧ k = 0 ∧ (0 ≤ i ∧ i < (xl.length : Int)) ∧ szL xl ∧ mk.length ≤ 1000000
def rs_rR3 (i n k : Int) (xu : Int) (xe : List Int) (xc : List (Ty.den conf)) (xt xk : Int) (xl : List (Ty.den lockT)) (now dr : Int) (me : List Int) (mc : List (Ty.den conf)) (mk : List Int) : Ex × St := (.exit 6, St.of 133 (lve_rR3 (.exit 6)) [.ptr 0 0, .ptr 1 0, .si .i64 i, .si .i64 (cntK mk (kK (xl.getD i.toNat lockT.dflt)) (kK (xl.getD i.toNat lockT.dflt)).length)] [some [.si .i64 xu, .slst .ro ity xe, .slst .ro conf xc, .si .i64 xt, .si .i64 xk, .slst .ro lockT xl], some [.si .i64 now, .si .i64 dr, .slst .ro ity me, .slst .ro conf mc, .slst .ro ity mk]] [] hp_rR3.kh hp_rR3.kt)
def res_rR3 (i n k : Int) (xu : Int) (xe : List Int) (xc : List (Ty.den conf)) (xt xk : Int) (xl : List (Ty.den lockT)) (now dr : Int) (me : List Int) (mc : List (Ty.den conf)) (mk : List Int) : Tr (Ex × St) := .br (decide (pre_rR3 i n k xu xe xc xt xk xl now dr me mc mk)) (.leaf (some (.exit 6, St.of 133 (lve_rR3 (.exit 6)) [.ptr 0 0, .ptr 1 0, .si .i64 i, .si .i64 (cntK mk (kK (xl.getD i.toNat lockT.dflt)) (kK (xl.getD i.toNat lockT.dflt)).length)] [some [.si .i64 xu, .slst .ro ity xe, .slst .ro conf xc, .si .i64 xt, .si .i64 xk, .slst .ro lockT xl], some [.si .i64 now, .si .i64 dr, .slst .ro ity me, .slst .ro conf mc, .slst .ro ity mk]] [] hp_rR3.kh hp_rR3.kt))) (.leaf none)
def ent_rR3 : LEnt := LEnt.by hp_rR3 fun ⟨(_, _, i, n, k, _), ((xu, xe, xc, xt, xk, xl, _), (now, dr, me, mc, mk, _), _), _⟩ => res_rR3 i n k xu xe xc xt xk xl now dr me mc mk
theorem ent_rR3_ok (hgo : ∀ (i n k : Int) (xu : Int) (xe : List Int) (xc : List (Ty.den conf)) (xt xk : Int) (xl : List (Ty.den lockT)) (now dr : Int) (me : List Int) (mc : List (Ty.den conf)) (mk : List Int), pre_rR3 i n k xu xe xc xt xk xl now dr me mc mk → SemL Tryd.prog Γ (lp 25 3) (st_rR3 i n k xu xe xc xt xk xl now dr me mc mk) (rs_rR3 i n k xu xe xc xt xk xl now dr me mc mk).1.to (rs_rR3 i n k xu xe xc xt xk xl now dr me mc mk).2) : EntOk Tryd.prog Γ (lp 25 3) ent_rR3 := LEnt.by_ok fun ⟨(_, _, i, n, k, _), ((xu, xe, xc, xt, xk, xl, _), (now, dr, me, mc, mk, _), _), _⟩ _ _ h_ => SemL.br (out := rs_rR3 i n k xu xe xc xt xk xl now dr me mc mk) rfl (hgo i n k xu xe xc xt xk xl now dr me mc mk) h_
theorem rR3_go (i n k : Int) (xu : Int) (xe : List Int) (xc : List (Ty.den conf)) (xt xk : Int) (xl : List (Ty.den lockT)) (now dr : Int) (me : List Int) (mc : List (Ty.den conf)) (mk : List Int) (h : pre_rR3 i n k xu xe xc xt xk xl now dr me mc mk) : SemL Tryd.prog Γ (lp 25 3) (st_rR3 i n k xu xe xc xt xk xl now dr me mc mk) (rs_rR3 i n k xu xe xc xt xk xl now dr me mc mk).1.to (rs_rR3 i n k xu xe xc xt xk xl now dr me mc mk).2 := by
 obtain ⟨rfl, rfl, hi, hx, hm⟩ := h
 have kx : (kK (xl.getD i.toNat lockT.dflt)).length ≤ 1000000 := hx.2 _ (getD_mem (show i.toNat < xl.length by omega) lockT.dflt)
 have hst : st_rR3 i 0 0 xu xe xc xt xk xl now dr me mc mk = st_rR3 i (cntK mk (kK (xl.getD i.toNat lockT.dflt)) 0) ((0 : Nat) : Int) xu xe xc xt xk xl now dr me mc mk := rfl
 rw [hst]
 refine SemL.scan (kK (xl.getD i.toNat lockT.dflt)).length 0 (Nat.zero_le _) (fun k => st_rR3 i (cntK mk (kK (xl.getD i.toNat lockT.dflt)) k) (k : Nat) xu xe xc xt xk xl now dr me mc mk) (fun _ => true) _ ?_ ?_ ?_
 · intro k _ hk _ _
   have hw : IntKind.i64.wrap ((k : Int) + 1) = ((k + 1 : Nat) : Int) := by rw [wrap_in (by omega) (by omega)]; rfl
   have hc := cntK_le (mk := mk) (q := kK (xl.getD i.toNat lockT.dflt)) (k := k)
   have hw2 : IntKind.i64.wrap (cntK mk (kK (xl.getD i.toNat lockT.dflt)) k + 1) = cntK mk (kK (xl.getD i.toNat lockT.dflt)) k + 1 := wrap_in (by omega) (by omega)
   have hs := cntK_succ (mk := mk) hk
   show SemC Tryd.prog Γ (lp 25 3) (st_rR3 i (cntK mk (kK (xl.getD i.toNat lockT.dflt)) k) (k : Nat) xu xe xc xt xk xl now dr me mc mk) .normal (st_rR3 i (cntK mk (kK (xl.getD i.toNat lockT.dflt)) (k + 1)) ((k + 1 : Nat) : Int) xu xe xc xt xk xl now dr me mc mk)
   have eq := rn_rR3_eq i (cntK mk (kK (xl.getD i.toNat lockT.dflt)) k) k xu xe xc xt xk xl now dr me mc mk
   rw [hw, hw2, decide_eq_true hi, decide_eq_true (by omega : (k : Int) < (kK (xl.getD i.toNat lockT.dflt)).length), decide_eq_true (by omega : (0 : Int) ≤ (k : Int) ∧ (k : Int) < (kK (xl.getD i.toNat lockT.dflt)).length), decide_eq_true hm, Int.toNat_natCast] at eq
   cases hb : hasD mk ((kK (xl.getD i.toNat lockT.dflt)).getD k 0) <;> rw [hb] at eq hs <;> rw [hs] <;> exact rn_rR3_c i _ k xu xe xc xt xk xl now dr me mc mk (eq.trans rfl)
 · intro i _ _ _ h; cases h
 · intro _
   refine ⟨by simp [rs_rR3, Ex.to], ?_⟩
   have eq := rn_rR3_eq i (cntK mk (kK (xl.getD i.toNat lockT.dflt)) (kK (xl.getD i.toNat lockT.dflt)).length) ((kK (xl.getD i.toNat lockT.dflt)).length : Nat) xu xe xc xt xk xl now dr me mc mk
   rw [decide_eq_true hi, decide_eq_false (by omega : ¬ (((kK (xl.getD i.toNat lockT.dflt)).length : Nat) : Int) < (kK (xl.getD i.toNat lockT.dflt)).length)] at eq
   exact rn_rR3_c i _ _ xu xe xc xt xk xl now dr me mc mk (eq.trans rfl)
def lo53 : LOrc := (LOrc.add (LOrc.add (LOrc.add (LOrc.add (LOrc.add (LOrc.add (LOrc.add lo35 15 0 ent_rv) 20 0 ent_rB0) 20 1 ent_rB1) 20 3 ent_rB3) 25 0 ent_rR0) 25 1 ent_rR1) 25 3 ent_rR3)
theorem lo53_ok : LOrcOk Tryd.prog Γ lo53 := (LOrcOk.add (LOrcOk.add (LOrcOk.add (LOrcOk.add (LOrcOk.add (LOrcOk.add (LOrcOk.add lo35_ok 15 0 Tryd.func15 bd_rv le_rv (ent_rv_ok rv_go)) 20 0 Tryd.func20 bd_rB0 le_rB0 (ent_rB0_ok rB0_go)) 20 1 Tryd.func20 bd_rB1 le_rB1 (ent_rB1_ok rB1_go)) 20 3 Tryd.func20 bd_rB3 le_rB3 (ent_rB3_ok rB3_go)) 25 0 Tryd.func25 bd_rR0 le_rR0 (ent_rR0_ok rR0_go)) 25 1 Tryd.func25 bd_rR1 le_rR1 (ent_rR1_ok rR1_go)) 25 3 Tryd.func25 bd_rR3 le_rR3 (ent_rR3_ok rR3_go))
noncomputable def cfg53 : Cfg := cfgT T36 isT36 orc52 lo53
theorem cfg53_ok : CfgOk Tryd.prog Γ cfg53 := cfgT_ok T36_ok orc52_ok lo53_ok
def hp_rB2 : HP := { n := 114, lv := [2, 3, 7], sp := [.ptr 0 0, .ptr 1 0, .ty ity], op := [.cells [.ty ity, .ty (.slice ity), .ty (.slice conf), .ty ity, .ty ity, .ty (.slice lockT)], .cells [.ty ity, .ty (.slice ity), .ty (.slice conf), .ty ity, .ty ity, .ty (.slice lockT)]], bp := [] }
def lve_rB2 : Ex → List Nat
 | .normal => [2, 3, 7]
 | .ret => [4]
 | .exit 4 => []
 | _ => []
theorem bd_rB2 : Tryd.f20.body = some (root 20) := by kernel_rfl
theorem le_rB2 : (loops (root 20))[2]? = some (lp 20 2) := by kernel_rfl
theorem li_rB2 : Lies (root 20) 3 (lp 20 2) := Lies.of_take (n := 1) (by kernel_rfl)
def st_rB2 (i : Int) (xu : Int) (xe : List Int) (xc : List (Ty.den conf)) (xt xk : Int) (xl : List (Ty.den lockT)) (yu : Int) (ye : List Int) (yc : List (Ty.den conf)) (yt yk : Int) (yl : List (Ty.den lockT)) : St := hp_rB2.st ⟨((), (), i, ()), ((xu, xe, xc, xt, xk, xl, ()), (yu, ye, yc, yt, yk, yl, ()), ()), ()⟩
noncomputable def rn_rB2 (i : Int) (xu : Int) (xe : List Int) (xc : List (Ty.den conf)) (xt xk : Int) (xl : List (Ty.den lockT)) (yu : Int) (ye : List Int) (yc : List (Ty.den conf)) (yt yk : Int) (yl : List (Ty.den lockT)) := outa lve_rB2 (evCK Tryd.prog Γ (cfM Tryd.prog Γ cfg53 30) (cfg53.lo 20) [] 60 3 (lp 20 2) (st_rB2 i xu xe xc xt xk xl yu ye yc yt yk yl))
theorem rn_rB2_eq (i : Int) (xu : Int) (xe : List Int) (xc : List (Ty.den conf)) (xt xk : Int) (xl : List (Ty.den lockT)) (yu : Int) (ye : List Int) (yc : List (Ty.den conf)) (yt yk : Int) (yl : List (Ty.den lockT)) : (rn_rB2 i xu xe xc xt xk xl yu ye yc yt yk yl).run = (bif decide (i < (xl.length : Int)) then (bif decide (pre_rB3 i false (0 : Int) xu xe xc xt xk xl yu ye yc yt yk yl) then (bif !(false || anyI yl.length (fT (xl.getD i.toNat lockT.dflt) yl)) then (some ((Ex.ret, [V.b false], [], [], 114, 0, 0))) else (some ((Ex.normal, [V.ptr 0 0, V.ptr 1 0, V.si .i64 (IntKind.i64.wrap (i + (1 : Int)))], [some [V.si .i64 xu, V.slst .ro ity xe, V.slst .ro conf xc, V.si .i64 xt, V.si .i64 xk, V.slst .ro lockT xl], some [V.si .i64 yu, V.slst .ro ity ye, V.slst .ro conf yc, V.si .i64 yt, V.si .i64 yk, V.slst .ro lockT yl]], [], 114, 0, 0)))) else none) else (some ((Ex.exit 4, [], [], [], 114, 0, 0)))) := by kernel_rfl
theorem rn_rB2_c (i : Int) (xu : Int) (xe : List Int) (xc : List (Ty.den conf)) (xt xk : Int) (xl : List (Ty.den lockT)) (yu : Int) (ye : List Int) (yc : List (Ty.den conf)) (yt yk : Int) (yl : List (Ty.den lockT)) {e : Ex} {vs : List V} {ob : Ob} {nm : Nm} {n' kh kt : Nat} (h : (rn_rB2 i xu xe xc xt xk xl yu ye yc yt yk yl).run = some (e, vs, ob, nm, n', kh, kt)) : SemC Tryd.prog Γ (lp 20 2) (st_rB2 i xu xe xc xt xk xl yu ye yc yt yk yl) e.to (St.of n' (lve_rB2 e) vs ob nm kh kt) := SemC.of_evM cfg53_ok Tryd.func20 bd_rB2 li_rB2 h
def hp_rR2 : HP := { n := 133, lv := [3, 5, 9], sp := [.ptr 0 0, .ptr 1 0, .ty ity], op := [.cells [.ty ity, .ty (.slice ity), .ty (.slice conf), .ty ity, .ty ity, .ty (.slice lockT)], .cells [.ty ity, .ty ity, .ty (.slice ity), .ty (.slice conf), .ty (.slice ity)]], bp := [] }
def lve_rR2 : Ex → List Nat
 | .normal => [3, 5, 9]
 | .ret => [6]
 | .exit 4 => []
 | _ => []
theorem bd_rR2 : Tryd.f25.body = some (root 25) := by kernel_rfl
theorem le_rR2 : (loops (root 25))[2]? = some (lp 25 2) := by kernel_rfl
theorem li_rR2 : Lies (root 25) 3 (lp 25 2) := Lies.of_take (n := 1) (by kernel_rfl)
def st_rR2 (i : Int) (xu : Int) (xe : List Int) (xc : List (Ty.den conf)) (xt xk : Int) (xl : List (Ty.den lockT)) (now dr : Int) (me : List Int) (mc : List (Ty.den conf)) (mk : List Int) : St := hp_rR2.st ⟨((), (), i, ()), ((xu, xe, xc, xt, xk, xl, ()), (now, dr, me, mc, mk, ()), ()), ()⟩
noncomputable def rn_rR2 (i : Int) (xu : Int) (xe : List Int) (xc : List (Ty.den conf)) (xt xk : Int) (xl : List (Ty.den lockT)) (now dr : Int) (me : List Int) (mc : List (Ty.den conf)) (mk : List Int) := outa lve_rR2 (evCK Tryd.prog Γ (cfM Tryd.prog Γ cfg53 30) (cfg53.lo 25) [] 60 3 (lp 25 2) (st_rR2 i xu xe xc xt xk xl now dr me mc mk))
theorem rn_rR2_eq (i : Int) (xu : Int) (xe : List Int) (xc : List (Ty.den conf)) (xt xk : Int) (xl : List (Ty.den lockT)) (now dr : Int) (me : List Int) (mc : List (Ty.den conf)) (mk : List Int) : (rn_rR2 i xu xe xc xt xk xl now dr me mc mk).run = (bif decide (i < (xl.length : Int)) then (bif decide (pre_rR3 i (0 : Int) (0 : Int) xu xe xc xt xk xl now dr me mc mk) then (bif decide ((0 : Int) ≤ i ∧ i < (xl.length : Int)) then (bif decide (cntK mk (kK (xl.getD i.toNat lockT.dflt)) (kK (xl.getD i.toNat lockT.dflt)).length < (kN (xl.getD i.toNat lockT.dflt))) then (some ((Ex.ret, [V.i .i64 (7 : Int)], [], [], 133, 0, 0))) else (some ((Ex.normal, [V.ptr 0 0, V.ptr 1 0, V.si .i64 (IntKind.i64.wrap (i + (1 : Int)))], [some [V.si .i64 xu, V.slst .ro ity xe, V.slst .ro conf xc, V.si .i64 xt, V.si .i64 xk, V.slst .ro lockT xl], some [V.si .i64 now, V.si .i64 dr, V.slst .ro ity me, V.slst .ro conf mc, V.slst .ro ity mk]], [], 133, 0, 0)))) else none) else none) else (some ((Ex.exit 4, [], [], [], 133, 0, 0)))) := by kernel_rfl
theorem rn_rR2_c (i : Int) (xu : Int) (xe : List Int) (xc : List (Ty.den conf)) (xt xk : Int) (xl : List (Ty.den lockT)) (now dr : Int) (me : List Int) (mc : List (Ty.den conf)) (mk : List Int) {e : Ex} {vs : List V} {ob : Ob} {nm : Nm} {n' kh kt : Nat} (h : (rn_rR2 i xu xe xc xt xk xl now dr me mc mk).run = some (e, vs, ob, nm, n', kh, kt)) : SemC Tryd.prog Γ (lp 25 2) (st_rR2 i xu xe xc xt xk xl now dr me mc mk) e.to (St.of n' (lve_rR2 e) vs ob nm kh kt) := SemC.of_evM cfg53_ok Tryd.func25 bd_rR2 li_rR2 h
end L
end Go.Proofs.YthjiodeaepigmaaDoor

/- Package label: the reference's Valid, Below, Reason, printed. -/
set_option linter.unusedVariables false
set_option linter.unusedSimpArgs false
set_option maxRecDepth 100000
set_option maxHeartbeats 4000000
namespace Go.Proofs.YthjiodeaepigmaaDoor
open Go
namespace L
abbrev pre_rB2 (i : Int) (xu : Int) (xe : List Int) (xc : List (Ty.den conf)) (xt xk : Int) (xl : List (Ty.den lockT)) (yu : Int) (ye : List Int) (yc : List (Ty.den conf)) (yt yk : Int) (yl : List (Ty.den lockT)) : Prop := i = 0 ∧ szL xl ∧ szL yl
def rs_rB2 (i : Int) (xu : Int) (xe : List Int) (xc : List (Ty.den conf)) (xt xk : Int) (xl : List (Ty.den lockT)) (yu : Int) (ye : List Int) (yc : List (Ty.den conf)) (yt yk : Int) (yl : List (Ty.den lockT)) : Ex × St := if allI xl.length (fun i => anyI yl.length (fT (xl.getD i lockT.dflt) yl)) = true then (.exit 4, St.of 114 (lve_rB2 (.exit 4)) [] [] [] hp_rB2.kh hp_rB2.kt) else (.ret, St.of 114 (lve_rB2 (.ret)) [.b false] [] [] hp_rB2.kh hp_rB2.kt)
def res_rB2 (i : Int) (xu : Int) (xe : List Int) (xc : List (Ty.den conf)) (xt xk : Int) (xl : List (Ty.den lockT)) (yu : Int) (ye : List Int) (yc : List (Ty.den conf)) (yt yk : Int) (yl : List (Ty.den lockT)) : Tr (Ex × St) := .br (decide (pre_rB2 i xu xe xc xt xk xl yu ye yc yt yk yl)) (.br (decide (allI xl.length (fun i => anyI yl.length (fT (xl.getD i lockT.dflt) yl)) = true)) (.leaf (some (.exit 4, St.of 114 (lve_rB2 (.exit 4)) [] [] [] hp_rB2.kh hp_rB2.kt))) (.leaf (some (.ret, St.of 114 (lve_rB2 (.ret)) [.b false] [] [] hp_rB2.kh hp_rB2.kt)))) (.leaf none)
def ent_rB2 : LEnt := LEnt.by hp_rB2 fun ⟨(_, _, i, _), ((xu, xe, xc, xt, xk, xl, _), (yu, ye, yc, yt, yk, yl, _), _), _⟩ => res_rB2 i xu xe xc xt xk xl yu ye yc yt yk yl
theorem ent_rB2_ok (hgo : ∀ (i : Int) (xu : Int) (xe : List Int) (xc : List (Ty.den conf)) (xt xk : Int) (xl : List (Ty.den lockT)) (yu : Int) (ye : List Int) (yc : List (Ty.den conf)) (yt yk : Int) (yl : List (Ty.den lockT)), pre_rB2 i xu xe xc xt xk xl yu ye yc yt yk yl → SemL Tryd.prog Γ (lp 20 2) (st_rB2 i xu xe xc xt xk xl yu ye yc yt yk yl) (rs_rB2 i xu xe xc xt xk xl yu ye yc yt yk yl).1.to (rs_rB2 i xu xe xc xt xk xl yu ye yc yt yk yl).2) : EntOk Tryd.prog Γ (lp 20 2) ent_rB2 := LEnt.by_ok fun ⟨(_, _, i, _), ((xu, xe, xc, xt, xk, xl, _), (yu, ye, yc, yt, yk, yl, _), _), _⟩ _ _ h_ => SemL.br (out := rs_rB2 i xu xe xc xt xk xl yu ye yc yt yk yl) (Tr.run_ite rfl rfl) (hgo i xu xe xc xt xk xl yu ye yc yt yk yl) h_
theorem rB2_go (i : Int) (xu : Int) (xe : List Int) (xc : List (Ty.den conf)) (xt xk : Int) (xl : List (Ty.den lockT)) (yu : Int) (ye : List Int) (yc : List (Ty.den conf)) (yt yk : Int) (yl : List (Ty.den lockT)) (h : pre_rB2 i xu xe xc xt xk xl yu ye yc yt yk yl) : SemL Tryd.prog Γ (lp 20 2) (st_rB2 i xu xe xc xt xk xl yu ye yc yt yk yl) (rs_rB2 i xu xe xc xt xk xl yu ye yc yt yk yl).1.to (rs_rB2 i xu xe xc xt xk xl yu ye yc yt yk yl).2 := by
 obtain ⟨rfl, hx, hs⟩ := h
 have hl := hx.1
 refine scan_all xl.length (fun i => anyI yl.length (fT (xl.getD i lockT.dflt) yl)) (fun i => st_rB2 (i : Nat) xu xe xc xt xk xl yu ye yc yt yk yl) _ _ 4 (fun i hi hp => ?_) (fun i hi hp => ?_) ?_
 · have hw : IntKind.i64.wrap ((i : Int) + 1) = ((i + 1 : Nat) : Int) := by rw [wrap_in (by omega) (by omega)]; rfl
   have eq := rn_rB2_eq i xu xe xc xt xk xl yu ye yc yt yk yl
   rw [hw, decide_eq_true (by omega : (i : Int) < xl.length), decide_eq_true (show pre_rB3 i false 0 xu xe xc xt xk xl yu ye yc yt yk yl from ⟨rfl, ⟨by omega, by omega⟩, hx, hs⟩), Int.toNat_natCast] at eq
   simp only [Bool.false_or, hp, Bool.not_true, Bool.not_false] at eq
   exact rn_rB2_c i xu xe xc xt xk xl yu ye yc yt yk yl (eq.trans rfl)
 · have eq := rn_rB2_eq i xu xe xc xt xk xl yu ye yc yt yk yl
   rw [decide_eq_true (by omega : (i : Int) < xl.length), decide_eq_true (show pre_rB3 i false 0 xu xe xc xt xk xl yu ye yc yt yk yl from ⟨rfl, ⟨by omega, by omega⟩, hx, hs⟩), Int.toNat_natCast] at eq
   simp only [Bool.false_or, hp, Bool.not_true, Bool.not_false] at eq
   exact rn_rB2_c i xu xe xc xt xk xl yu ye yc yt yk yl (eq.trans rfl)
 · refine rn_rB2_c xl.length xu xe xc xt xk xl yu ye yc yt yk yl (e := .exit 4) ?_
   rw [rn_rB2_eq, decide_eq_false (by omega)]; rfl
abbrev pre_rR2 (i : Int) (xu : Int) (xe : List Int) (xc : List (Ty.den conf)) (xt xk : Int) (xl : List (Ty.den lockT)) (now dr : Int) (me : List Int) (mc : List (Ty.den conf)) (mk : List Int) : Prop := i = 0 ∧ szL xl ∧ mk.length ≤ 1000000
def rs_rR2 (i : Int) (xu : Int) (xe : List Int) (xc : List (Ty.den conf)) (xt xk : Int) (xl : List (Ty.den lockT)) (now dr : Int) (me : List Int) (mc : List (Ty.den conf)) (mk : List Int) : Ex × St := if allI xl.length (fun i => !lackL mk (xl.getD i lockT.dflt)) = true then (.exit 4, St.of 133 (lve_rR2 (.exit 4)) [] [] [] hp_rR2.kh hp_rR2.kt) else (.ret, St.of 133 (lve_rR2 (.ret)) [.i .i64 7] [] [] hp_rR2.kh hp_rR2.kt)
def res_rR2 (i : Int) (xu : Int) (xe : List Int) (xc : List (Ty.den conf)) (xt xk : Int) (xl : List (Ty.den lockT)) (now dr : Int) (me : List Int) (mc : List (Ty.den conf)) (mk : List Int) : Tr (Ex × St) := .br (decide (pre_rR2 i xu xe xc xt xk xl now dr me mc mk)) (.br (decide (allI xl.length (fun i => !lackL mk (xl.getD i lockT.dflt)) = true)) (.leaf (some (.exit 4, St.of 133 (lve_rR2 (.exit 4)) [] [] [] hp_rR2.kh hp_rR2.kt))) (.leaf (some (.ret, St.of 133 (lve_rR2 (.ret)) [.i .i64 7] [] [] hp_rR2.kh hp_rR2.kt)))) (.leaf none)
def ent_rR2 : LEnt := LEnt.by hp_rR2 fun ⟨(_, _, i, _), ((xu, xe, xc, xt, xk, xl, _), (now, dr, me, mc, mk, _), _), _⟩ => res_rR2 i xu xe xc xt xk xl now dr me mc mk
theorem ent_rR2_ok (hgo : ∀ (i : Int) (xu : Int) (xe : List Int) (xc : List (Ty.den conf)) (xt xk : Int) (xl : List (Ty.den lockT)) (now dr : Int) (me : List Int) (mc : List (Ty.den conf)) (mk : List Int), pre_rR2 i xu xe xc xt xk xl now dr me mc mk → SemL Tryd.prog Γ (lp 25 2) (st_rR2 i xu xe xc xt xk xl now dr me mc mk) (rs_rR2 i xu xe xc xt xk xl now dr me mc mk).1.to (rs_rR2 i xu xe xc xt xk xl now dr me mc mk).2) : EntOk Tryd.prog Γ (lp 25 2) ent_rR2 := LEnt.by_ok fun ⟨(_, _, i, _), ((xu, xe, xc, xt, xk, xl, _), (now, dr, me, mc, mk, _), _), _⟩ _ _ h_ => SemL.br (out := rs_rR2 i xu xe xc xt xk xl now dr me mc mk) (Tr.run_ite rfl rfl) (hgo i xu xe xc xt xk xl now dr me mc mk) h_
theorem rR2_go (i : Int) (xu : Int) (xe : List Int) (xc : List (Ty.den conf)) (xt xk : Int) (xl : List (Ty.den lockT)) (now dr : Int) (me : List Int) (mc : List (Ty.den conf)) (mk : List Int) (h : pre_rR2 i xu xe xc xt xk xl now dr me mc mk) : SemL Tryd.prog Γ (lp 25 2) (st_rR2 i xu xe xc xt xk xl now dr me mc mk) (rs_rR2 i xu xe xc xt xk xl now dr me mc mk).1.to (rs_rR2 i xu xe xc xt xk xl now dr me mc mk).2 := by
 obtain ⟨rfl, hx, hs⟩ := h
 have hl := hx.1
 refine scan_all xl.length (fun i => !lackL mk (xl.getD i lockT.dflt)) (fun i => st_rR2 (i : Nat) xu xe xc xt xk xl now dr me mc mk) _ _ 4 (fun i hi hp => ?_) (fun i hi hp => ?_) ?_
 · have hw : IntKind.i64.wrap ((i : Int) + 1) = ((i + 1 : Nat) : Int) := by rw [wrap_in (by omega) (by omega)]; rfl
   have eq := rn_rR2_eq i xu xe xc xt xk xl now dr me mc mk
   rw [hw, decide_eq_true (by omega : (i : Int) < xl.length), decide_eq_true (show pre_rR3 i 0 0 xu xe xc xt xk xl now dr me mc mk from ⟨rfl, rfl, ⟨by omega, by omega⟩, hx, hs⟩), decide_eq_true (by omega : (0 : Int) ≤ (i : Int) ∧ (i : Int) < xl.length), Int.toNat_natCast] at eq
   have el : decide (cntK mk (kK (xl.getD i lockT.dflt)) (kK (xl.getD i lockT.dflt)).length < kN (xl.getD i lockT.dflt)) = lackL mk (xl.getD i lockT.dflt) := rfl
   simp only [Bool.not_eq_true', Bool.not_eq_false'] at hp
   rw [el, hp] at eq
   exact rn_rR2_c i xu xe xc xt xk xl now dr me mc mk (eq.trans rfl)
 · have eq := rn_rR2_eq i xu xe xc xt xk xl now dr me mc mk
   rw [decide_eq_true (by omega : (i : Int) < xl.length), decide_eq_true (show pre_rR3 i 0 0 xu xe xc xt xk xl now dr me mc mk from ⟨rfl, rfl, ⟨by omega, by omega⟩, hx, hs⟩), decide_eq_true (by omega : (0 : Int) ≤ (i : Int) ∧ (i : Int) < xl.length), Int.toNat_natCast] at eq
   have el : decide (cntK mk (kK (xl.getD i lockT.dflt)) (kK (xl.getD i lockT.dflt)).length < kN (xl.getD i lockT.dflt)) = lackL mk (xl.getD i lockT.dflt) := rfl
   simp only [Bool.not_eq_true', Bool.not_eq_false'] at hp
   rw [el, hp] at eq
   exact rn_rR2_c i xu xe xc xt xk xl now dr me mc mk (eq.trans rfl)
 · refine rn_rR2_c xl.length xu xe xc xt xk xl now dr me mc mk (e := .exit 4) ?_
   rw [rn_rR2_eq, decide_eq_false (by omega)]; rfl
def lo54 : LOrc := (LOrc.add (LOrc.add lo53 20 2 ent_rB2) 25 2 ent_rR2)
theorem lo54_ok : LOrcOk Tryd.prog Γ lo54 := (LOrcOk.add (LOrcOk.add lo53_ok 20 2 Tryd.func20 bd_rB2 le_rB2 (ent_rB2_ok rB2_go)) 25 2 Tryd.func25 bd_rR2 le_rR2 (ent_rR2_ok rR2_go))
noncomputable def cfg54 : Cfg := cfgT T36 isT36 orc52 lo54
theorem cfg54_ok : CfgOk Tryd.prog Γ cfg54 := cfgT_ok T36_ok orc52_ok lo54_ok
theorem c15_run (xu : Int) (xe : List Int) (xc : List (Ty.den conf)) (xt xk : Int) (xl : List (Ty.den lockT)) : runL cfg54 15 [.agg [.si .i64 xu, .slst .ro ity xe, .slst .ro conf xc, .si .i64 xt, .si .i64 xk, .slst .ro lockT xl]] = .ok (some ((some ((!bif decide (xu ≥ (0 : Int)) then decide (xu ≤ (50000000 : Int)) else false) || decide (xe.length ≤ 1000000) && (!risingD xe (19 : Int) || decide (xc.length ≤ 1000000)))).getD true && ((bif !bif decide (xu ≥ (0 : Int)) then decide (xu ≤ (50000000 : Int)) else false then true else bif !risingD xe (19 : Int) then true else bif !countsD xc (1 : Int) then true else bif !bif decide (xt ≥ (0 : Int)) then decide (xt ≤ (255 : Int)) else false then true else bif !bif decide (xk ≥ (0 : Int)) then decide (xk ≤ (255 : Int)) else false then true else decide ((xl.length : Int) > (4 : Int))) || decide (pre_rv (0 : Int) xu xe xc xt xk xl)))) (V.sb (bif bif !bif decide (xu ≥ (0 : Int)) then decide (xu ≤ (50000000 : Int)) else false then true else bif !risingD xe (19 : Int) then true else bif !countsD xc (1 : Int) then true else bif !bif decide (xt ≥ (0 : Int)) then decide (xt ≤ (255 : Int)) else false then true else bif !bif decide (xk ≥ (0 : Int)) then decide (xk ≤ (255 : Int)) else false then true else decide ((xl.length : Int) > (4 : Int)) then false else bif decide (locksD xl = true) then true else false)) := by kernel_rfl
theorem c29_run (now dr : Int) (me : List Int) (mc : List (Ty.den conf)) (mk : List Int) : runL cfg54 29 [.agg [.si .i64 now, .si .i64 dr, .slst .ro ity me, .slst .ro conf mc, .slst .ro ity mk]] = .ok (some ((some ((!bif decide (now ≥ (0 : Int)) then decide (now ≤ (50000000 : Int)) else false) || ((!bif decide (dr ≥ (0 : Int)) then decide (dr ≤ (1440 : Int)) else false) || decide (me.length ≤ 1000000) && (!risingD me (19 : Int) || decide (mc.length ≤ 1000000) && (!countsD mc (0 : Int) || decide (mk.length ≤ 1000000)))))).getD true)) (V.sb (bif bif decide (now ≥ (0 : Int)) then decide (now ≤ (50000000 : Int)) else false then bif bif decide (dr ≥ (0 : Int)) then decide (dr ≤ (1440 : Int)) else false then bif risingD me (19 : Int) then bif countsD mc (0 : Int) then risingD mk (19 : Int) else false else false else false else false)) := by kernel_rfl
end L
end Go.Proofs.YthjiodeaepigmaaDoor

/- Package label: the reference's Valid and ValidMoment as contracts; its Below, Reason, printed. -/
set_option linter.unusedVariables false
set_option linter.unusedSimpArgs false
set_option maxRecDepth 100000
set_option maxHeartbeats 4000000
namespace Go.Proofs.YthjiodeaepigmaaDoor
open Go
namespace L
def e15 (x : Ty.den labT) : Option Bool × V := (some (decide (szX x)), .sb (vX x))
theorem inR_bif (x a b : Int) : (bif decide (x ≥ a) then decide (x ≤ b) else false) = inR x a b := by unfold inR; cases decide (x ≥ a) <;> rfl
theorem e15_of (x : Ty.den labT) (h : (e15 x).1.getD true = true) : SemF Tryd.prog Γ 15 [labT.val x] [] [] (e15 x).2 [] [] := by
 obtain ⟨s1, s2, s3⟩ : szE (aE x) (aC x) (aL x) := of_decide_eq_true h
 refine of_runL cfg54_ok (c15_run (aU x) (aE x) (aC x) (aT x) (aK x) (aL x)) ?_ ?_
 · rw [decide_eq_true s1, decide_eq_true s2, decide_eq_true (show pre_rv 0 (aU x) (aE x) (aC x) (aT x) (aK x) (aL x) from ⟨rfl, s3⟩)]
   simp
 · show _ = V.sb (validE (aU x) (aE x) (aC x) (aT x) (aK x) (aL x))
   unfold validE
   rw [inR_bif, inR_bif, inR_bif]
   congr 1
   generalize decide ((Nat.cast (aL x).length : Int) > 4) = a7
   cases inR (aU x) 0 50000000 <;> cases risingD (aE x) 19 <;> cases countsD (aC x) 1 <;> cases inR (aT x) 0 255 <;> cases inR (aK x) 0 255 <;> cases a7 <;> cases locksD (aL x) <;> rfl
def e29 (m : Ty.den momT) : Option Bool × V := (some (decide (szY m)), .sb (vY m))
theorem e29_of (m : Ty.den momT) (h : (e29 m).1.getD true = true) : SemF Tryd.prog Γ 29 [momT.val m] [] [] (e29 m).2 [] [] := by
 obtain ⟨s1, s2, s3⟩ : szM (bE m) (bC m) (bK m) := of_decide_eq_true h
 refine of_runL cfg54_ok (c29_run (bN m) (bD m) (bE m) (bC m) (bK m)) ?_ ?_
 · rw [decide_eq_true s1, decide_eq_true s2, decide_eq_true s3]
   simp
 · show _ = V.sb (validM (bN m) (bD m) (bE m) (bC m) (bK m))
   unfold validM
   rw [inR_bif, inR_bif]
   congr 1
   cases inR (bN m) 0 50000000 <;> cases inR (bD m) 0 1440 <;> cases risingD (bE m) 19 <;> cases countsD (bC m) 0 <;> cases risingD (bK m) 19 <;> rfl
noncomputable def o55a : Orc := fun f args => if f = 15 then (Ty.ofVs [labT] args).map (fun x => e15 x.1) else orc52 f args
theorem o55a_ok : OrcOk Tryd.prog Γ o55a := orc52_ok.plain 15 [labT] (fun x => e15 x.1) Tryd.f15 Tryd.func15 rfl (by kernel_rfl) (fun x h => e15_of _ h)
noncomputable def orc55 : Orc := fun f args => if f = 29 then (Ty.ofVs [momT] args).map (fun x => e29 x.1) else o55a f args
theorem orc55_ok : OrcOk Tryd.prog Γ orc55 := o55a_ok.plain 29 [momT] (fun x => e29 x.1) Tryd.f29 Tryd.func29 rfl (by kernel_rfl) (fun x h => e29_of _ h)
noncomputable def cfg55 : Cfg := cfgT T36 isT36 orc55 lo54
theorem cfg55_ok : CfgOk Tryd.prog Γ cfg55 := cfgT_ok T36_ok orc55_ok lo54_ok
def mkM (now dr : Int) (me : List Int) (mc : List (Ty.den conf)) (mk : List Int) : Ty.den momT := (now, dr, me, mc, mk, ())
theorem c20_run (xu : Int) (xe : List Int) (xc : List (Ty.den conf)) (xt xk : Int) (xl : List (Ty.den lockT)) (yu : Int) (ye : List Int) (yc : List (Ty.den conf)) (yt yk : Int) (yl : List (Ty.den lockT)) : runL cfg55 20 [.agg [.si .i64 xu, .slst .ro ity xe, .slst .ro conf xc, .si .i64 xt, .si .i64 xk, .slst .ro lockT xl], .agg [.si .i64 yu, .slst .ro ity ye, .slst .ro conf yc, .si .i64 yt, .si .i64 yk, .slst .ro lockT yl]] = .ok (some ((some (decide (szX (mkL xu xe xc xt xk xl)) && (!vX (mkL xu xe xc xt xk xl) || decide (szX (mkL yu ye yc yt yk yl)) && (!vX (mkL yu ye yc yt yk yl) || (decide (xu > yu) || decide (((0 : Int) ≤ xt ∧ xt ≤ (255 : Int)) ∧ (0 : Int) ≤ yt ∧ yt ≤ (255 : Int)) && (andI xt yt != yt || decide (((0 : Int) ≤ xk ∧ xk ≤ (255 : Int)) ∧ (0 : Int) ≤ yk ∧ yk ≤ (255 : Int)))))))).getD true && ((bif !vX (mkL xu xe xc xt xk xl) then true else bif !vX (mkL yu ye yc yt yk yl) then true else bif decide (xu > yu) then true else bif andI xt yt != yt then true else andI xk yk != yk) || decide (pre_rB0 (0 : Int) xu xe xc xt xk xl yu ye yc yt yk yl) && (!decide ((allI xe.length fun i => hasD ye (xe.getD i (0 : Int))) = true) || decide (pre_rB1 (0 : Int) xu xe xc xt xk xl yu ye yc yt yk yl) && (!decide ((allI xc.length fun i => !decide (cntR yc (cF (xc.getD i conf.dflt)) < cC (xc.getD i conf.dflt))) = true) || decide (pre_rB2 (0 : Int) xu xe xc xt xk xl yu ye yc yt yk yl)))))) (V.sb (bif bif !vX (mkL xu xe xc xt xk xl) then true else bif !vX (mkL yu ye yc yt yk yl) then true else bif decide (xu > yu) then true else bif andI xt yt != yt then true else andI xk yk != yk then false else bif decide ((allI xe.length fun i => hasD ye (xe.getD i (0 : Int))) = true) then bif decide ((allI xc.length fun i => !decide (cntR yc (cF (xc.getD i conf.dflt)) < cC (xc.getD i conf.dflt))) = true) then bif decide ((allI xl.length fun i => anyI yl.length (fT (xl.getD i lockT.dflt) yl)) = true) then true else false else false else false)) := by kernel_rfl
theorem c25_run (xu : Int) (xe : List Int) (xc : List (Ty.den conf)) (xt xk : Int) (xl : List (Ty.den lockT)) (rt rc : Int) (now dr : Int) (me : List Int) (mc : List (Ty.den conf)) (mk : List Int) : runL cfg55 25 [.agg [.si .i64 xu, .slst .ro ity xe, .slst .ro conf xc, .si .i64 xt, .si .i64 xk, .slst .ro lockT xl], .agg [.si .i64 rt, .si .i64 rc], .agg [.si .i64 now, .si .i64 dr, .slst .ro ity me, .slst .ro conf mc, .slst .ro ity mk]] = .ok (some ((some (decide (szX (mkL xu xe xc xt xk xl)) && (!vX (mkL xu xe xc xt xk xl) || ((!bif decide (rt ≥ (0 : Int)) then decide (rt ≤ (7 : Int)) else false) || ((!bif decide (rc ≥ (0 : Int)) then decide (rc ≤ (7 : Int)) else false) || decide (szY (mkM now dr me mc mk))))))).getD true && ((bif !vX (mkL xu xe xc xt xk xl) then true else bif !bif decide (rt ≥ (0 : Int)) then decide (rt ≤ (7 : Int)) else false then true else bif !bif decide (rc ≥ (0 : Int)) then decide (rc ≤ (7 : Int)) else false then true else !vY (mkM now dr me mc mk)) || decide ((0 : Int) ≤ rt) && ((xt.fdiv ((2 : Int) ^ min rt.toNat (64 : Nat))).tmod (2 : Int) == (0 : Int) || decide ((0 : Int) ≤ rc) && ((xk.fdiv ((2 : Int) ^ min rc.toNat (64 : Nat))).tmod (2 : Int) == (0 : Int) || (decide (IntKind.i64.wrap (now - dr) < xu) || decide (pre_rR0 (0 : Int) xu xe xc xt xk xl now dr me mc mk) && (!decide ((allI xe.length fun i => hasD me (xe.getD i (0 : Int))) = true) || decide (pre_rR1 (0 : Int) xu xe xc xt xk xl now dr me mc mk) && (!decide ((allI xc.length fun i => !decide (cntR mc (cF (xc.getD i conf.dflt)) < cC (xc.getD i conf.dflt))) = true) || decide (pre_rR2 (0 : Int) xu xe xc xt xk xl now dr me mc mk))))))))) (V.si .i64 (bif bif !vX (mkL xu xe xc xt xk xl) then true else bif !bif decide (rt ≥ (0 : Int)) then decide (rt ≤ (7 : Int)) else false then true else bif !bif decide (rc ≥ (0 : Int)) then decide (rc ≤ (7 : Int)) else false then true else !vY (mkM now dr me mc mk) then (1 : Int) else bif (xt.fdiv ((2 : Int) ^ min rt.toNat (64 : Nat))).tmod (2 : Int) == (0 : Int) then (2 : Int) else bif (xk.fdiv ((2 : Int) ^ min rc.toNat (64 : Nat))).tmod (2 : Int) == (0 : Int) then (3 : Int) else bif decide (IntKind.i64.wrap (now - dr) < xu) then (4 : Int) else bif decide ((allI xe.length fun i => hasD me (xe.getD i (0 : Int))) = true) then bif decide ((allI xc.length fun i => !decide (cntR mc (cF (xc.getD i conf.dflt)) < cC (xc.getD i conf.dflt))) = true) then bif decide ((allI xl.length fun i => !lackL mk (xl.getD i lockT.dflt)) = true) then (0 : Int) else (7 : Int) else (6 : Int) else (5 : Int))) := by kernel_rfl
end L
end Go.Proofs.YthjiodeaepigmaaDoor

/- Package label: the reference's Below and Reason as contracts. -/
set_option linter.unusedVariables false
set_option linter.unusedSimpArgs false
set_option maxRecDepth 100000
set_option maxHeartbeats 4000000
namespace Go.Proofs.YthjiodeaepigmaaDoor
open Go
namespace L
theorem allI_all {α : Type} (l : List α) (d : α) (f : α → Bool) : allI l.length (fun i => f (l.getD i d)) = l.all f := by
 rw [Bool.eq_iff_iff, allI_true, List.all_eq_true]
 constructor
 · intro h x hx
   obtain ⟨i, hi, rfl⟩ := List.getElem_of_mem hx
   have := h i hi
   rw [getD_eq hi d] at this
   exact this
 · intro h i hi
   rw [getD_eq hi d]
   exact h _ (List.getElem_mem hi)
theorem cntR_some {l : List (Ty.den conf)} {m : Int} (h : l.Pairwise fun a b => cF a < cF b) {z : Ty.den conf} (hz : z ∈ l) (hf : cF z = m) : cntR l m = cC z := by
 obtain ⟨i, hi, rfl⟩ := List.getElem_of_mem hz
 have e : l.findIdx (fun y => cF y == m) = i := by
  refine findIdx_at conf.dflt hi (fun j hj => ?_) ?_
  · have := (List.pairwise_iff_getElem.1 h) j i (by omega) hi hj
    rw [getD_eq (show j < l.length by omega) conf.dflt, beq_eq_false_iff_ne]
    omega
  · rw [getD_eq hi conf.dflt, beq_iff_eq]; exact hf
 unfold cntR
 rw [e, decide_eq_true hi, getD_eq hi conf.dflt]
 rfl
theorem cntR_none {l : List (Ty.den conf)} {m : Int} (h : ∀ z ∈ l, cF z ≠ m) : cntR l m = 0 := by
 unfold cntR
 rw [decide_eq_false]
 · rfl
 · rw [List.findIdx_lt_length]
   rintro ⟨z, hz, e⟩
   exact h z hz (beq_iff_eq.1 e)
theorem cntR_le {l : List (Ty.den conf)} {y : Ty.den conf} (h : l.Pairwise fun a b => cF a < cF b) (hy : 1 ≤ cC y) : cC y ≤ cntR l (cF y) ↔ ∃ z ∈ l, cF z = cF y ∧ cC y ≤ cC z := by
 constructor
 · intro hle
   by_cases e : ∃ z ∈ l, cF z = cF y
   · obtain ⟨z, hz, e⟩ := e
     rw [cntR_some h hz e] at hle
     exact ⟨z, hz, e, hle⟩
   · rw [cntR_none fun z hz e' => e ⟨z, hz, e'⟩] at hle
     omega
 · rintro ⟨z, hz, e, hle⟩
   rw [cntR_some h hz e]
   exact hle
theorem below_iff2 {x y : Ty.den labT} (hx : vX x = true) (hy : vX y = true) : belowB x y = true ↔ aU x ≤ aU y ∧ andI (aT x) (aT y) = aT y ∧ andI (aK x) (aK y) = aK y ∧ (∀ e ∈ aE x, e ∈ aE y) ∧ (∀ c ∈ aC x, ∃ z ∈ aC y, cF z = cF c ∧ cC c ≤ cC z) ∧ ∀ q ∈ aL x, q ∈ aL y := by
 obtain ⟨x1, x2, x3, x4, x5, x6, x7⟩ := valid_all hx
 obtain ⟨y1, y2, y3, y4, y5, y6, y7⟩ := valid_all hy
 obtain ⟨c1, c2⟩ := counts_out y7
 obtain ⟨d1, d2⟩ := counts_out x7
 rw [below_iff hx hy, lab_ext]
 have hU : maxI (aU x) (aU y) = aU y ↔ aU x ≤ aU y := by unfold maxI; split <;> omega
 have hE : unD sgn cbI (aE x) (aE y) = aE y ↔ ∀ e ∈ aE x, e ∈ aE y := by
  constructor
  · intro e
    have := (ordI.all (p := fun q => q ∈ unD sgn cbI (aE x) (aE y)) (fun u v e => by rw [sgn_zero.1 e]; simp [cbI]) _ (aE x) (aE y) (Nat.le_refl _)).1 (fun w hw => hw)
    intro q hq
    rw [← e]
    exact this.1 q hq
  · exact ordI.absorb (fun u v e => sgn_zero.1 e) _ (aE x) (aE y) (Nat.le_refl _) (pw_sgn.2 (rising_iff.1 x6).2) (pw_sgn.2 (rising_iff.1 y6).2)
 have hC : unD cmpC cbC (aC x) (aC y) = aC y ↔ ∀ c ∈ aC x, ∃ z ∈ aC y, cF z = cF c ∧ cC c ≤ cC z := by
  constructor
  · intro e c hc
    have := (ordC.all (p := fun w => ∃ z ∈ unD cmpC cbC (aC x) (aC y), cF z = cF w ∧ cC w ≤ cC z) (fun u v e => by
     have e : cF u = cF v := sgn_zero.1 e
     have ef : cF (cbC u v) = cF u := rfl
     have ec := cbC_c (x := u) (y := v)
     constructor
     · rintro ⟨z, hz, z1, z2⟩
       exact ⟨⟨z, hz, by omega, by omega⟩, z, hz, by omega, by omega⟩
     · rintro ⟨⟨z, hz, z1, z2⟩, w, hw, w1, w2⟩
       rcases ec.2.2 with k | k
       · exact ⟨z, hz, by omega, by omega⟩
       · exact ⟨w, hw, by omega, by omega⟩) _ (aC x) (aC y) (Nat.le_refl _)).1 (fun w hw => ⟨w, hw, rfl, Int.le_refl _⟩)
    obtain ⟨z, hz, h⟩ := this.1 c hc
    rw [e] at hz
    exact ⟨z, hz, h⟩
  · intro u3
    refine ordC.absorbD _ (aC x) (aC y) (Nat.le_refl _) (pw_cmpC.2 d2) (pw_cmpC.2 c2) fun u hu => ?_
    obtain ⟨z, hz, z1, z2⟩ := u3 u hu
    refine ⟨z, hz, (sgn_cases _ _).2.2.2 z1.symm, ?_⟩
    rw [conf_ext]
    refine ⟨z1.symm, ?_⟩
    show (if cC z > cC u then cC z else cC u) = cC z
    split <;> omega
 have hL : unL x y = aL y ↔ ∀ q ∈ aL x, q ∈ aL y := by
  constructor
  · intro e q hq
    have := (ordL.all (p := fun q => q ∈ unL x y) (fun u v e => by rw [cmpL_zero.1 e]; simp [cbL]) _ (aL x) (aL y) (Nat.le_refl _)).1 (fun w hw => hw)
    rw [← e]
    exact this.1 q hq
  · exact ordL.absorb (fun u v e => cmpL_zero.1 e) _ (aL x) (aL y) (Nat.le_refl _) (locks_iff.1 x5).2 (locks_iff.1 y5).2
 show maxI (aU x) (aU y) = aU y ∧ unD sgn cbI (aE x) (aE y) = aE y ∧ unD cmpC cbC (aC x) (aC y) = aC y ∧ andI (aT x) (aT y) = aT y ∧ andI (aK x) (aK y) = aK y ∧ unL x y = aL y ↔ _
 rw [hU, hE, hC, hL]
 constructor
 · rintro ⟨a, b, c, d, e, f⟩; exact ⟨a, d, e, b, c, f⟩
 · rintro ⟨a, d, e, b, c, f⟩; exact ⟨a, b, c, d, e, f⟩
theorem beqR_iff {p q : Ty.den lockT} (hp : risingD (kK p) 19 = true) (hq : risingD (kK q) 19 = true) : beqR p q = true ↔ p = q := by
 have e := rcmp_zero (rising_inr hp) (rising_inr hq) (Nat.le_trans (rising_len hp) (by decide)) (Nat.le_trans (rising_len hq) (by decide))
 unfold beqR
 rw [lock_ext]
 cases h : (kN p == kN q) with
 | false =>
  rw [beq_eq_false_iff_ne] at h
  simp only [cond_false, Bool.false_eq_true, false_iff]
  exact fun k => h k.1
 | true =>
  rw [beq_iff_eq] at h
  simp only [cond_true, beq_iff_eq, e]
  exact ⟨fun k => ⟨h, k⟩, fun k => k.2⟩
def e20 (x y : Ty.den labT) : Option Bool × V := (some (decide (szX x ∧ szX y)), .sb (belowB x y))
theorem mkL_eta (x : Ty.den labT) : mkL (aU x) (aE x) (aC x) (aT x) (aK x) (aL x) = x := rfl
theorem mkM_eta (x : Ty.den momT) : mkM (bN x) (bD x) (bE x) (bC x) (bK x) = x := rfl
theorem e20_of (x y : Ty.den labT) (h : (e20 x y).1.getD true = true) : SemF Tryd.prog Γ 20 [labT.val x, labT.val y] [] [] (e20 x y).2 [] [] := by
 obtain ⟨sx, sy⟩ := of_decide_eq_true h
 have sx' : szE (aE x) (aC x) (aL x) := sx
 obtain ⟨s1, s2, s3⟩ := sx'
 have sy' : szE (aE y) (aC y) (aL y) := sy
 obtain ⟨r1, r2, r3⟩ := sy'
 have p0 : decide (pre_rB0 0 (aU x) (aE x) (aC x) (aT x) (aK x) (aL x) (aU y) (aE y) (aC y) (aT y) (aK y) (aL y)) = true := decide_eq_true ⟨rfl, s1, r1⟩
 have p1 : decide (pre_rB1 0 (aU x) (aE x) (aC x) (aT x) (aK x) (aL x) (aU y) (aE y) (aC y) (aT y) (aK y) (aL y)) = true := decide_eq_true ⟨rfl, s2, r2⟩
 have p2 : decide (pre_rB2 0 (aU x) (aE x) (aC x) (aT x) (aK x) (aL x) (aU y) (aE y) (aC y) (aT y) (aK y) (aL y)) = true := decide_eq_true ⟨rfl, s3, r3⟩
 have eq := c20_run (aU x) (aE x) (aC x) (aT x) (aK x) (aL x) (aU y) (aE y) (aC y) (aT y) (aK y) (aL y)
 rw [mkL_eta, mkL_eta, p0, p1, p2, decide_eq_true sx, decide_eq_true sy] at eq
 refine of_runL cfg55_ok eq ?_ ?_
 · cases hx : vX x with
   | false => simp
   | true =>
    cases hy : vX y with
    | false => simp
    | true =>
     obtain ⟨x1, x2, x3, x4, x5, x6, x7⟩ := valid_all hx
     obtain ⟨y1, y2, y3, y4, y5, y6, y7⟩ := valid_all hy
     rw [decide_eq_true (And.intro x2 y2), decide_eq_true (And.intro x3 y3)]
     simp
 · show V.sb _ = V.sb (belowB x y)
   congr 1
   cases hx : vX x with
   | false => unfold belowB; rw [hx]; rfl
   | true =>
    cases hy : vX y with
    | false => unfold belowB; rw [hx, hy]; rfl
    | true =>
     obtain ⟨x1, x2, x3, x4, x5, x6, x7⟩ := valid_all hx
     obtain ⟨y1, y2, y3, y4, y5, y6, y7⟩ := valid_all hy
     have d1 := (counts_out x7).1
     have c2 := (counts_out y7).2
     rw [Bool.eq_iff_iff, below_iff2 hx hy]
     rw [show (allI (aE x).length fun i => hasD (aE y) ((aE x).getD i 0)) = (aE x).all (hasD (aE y)) from allI_all _ _ _,
      show (allI (aC x).length fun i => !decide (cntR (aC y) (cF ((aC x).getD i conf.dflt)) < cC ((aC x).getD i conf.dflt))) = (aC x).all (fun c => !decide (cntR (aC y) (cF c) < cC c)) from allI_all (aC x) conf.dflt (fun c => !decide (cntR (aC y) (cF c) < cC c)),
      show (allI (aL x).length fun i => anyI (aL y).length (fT ((aL x).getD i lockT.dflt) (aL y))) = (aL x).all (fun q => anyI (aL y).length (fT q (aL y))) from allI_all (aL x) lockT.dflt (fun q => anyI (aL y).length (fT q (aL y)))]
     have hE : (aE x).all (hasD (aE y)) = true ↔ ∀ e ∈ aE x, e ∈ aE y := by rw [List.all_eq_true]; simp only [hasD_iff]
     have hC : (aC x).all (fun c => !decide (cntR (aC y) (cF c) < cC c)) = true ↔ ∀ c ∈ aC x, ∃ z ∈ aC y, cF z = cF c ∧ cC c ≤ cC z := by
      rw [List.all_eq_true]
      refine forall_congr' fun c => forall_congr' fun hc => ?_
      rw [Bool.not_eq_true', decide_eq_false_iff_not, Int.not_lt, cntR_le c2 (d1 c hc).2.2.1]
     have hL : (aL x).all (fun q => anyI (aL y).length (fT q (aL y))) = true ↔ ∀ q ∈ aL x, q ∈ aL y := by
      rw [List.all_eq_true]
      refine forall_congr' fun q => forall_congr' fun hq => ?_
      have hq1 := (locks_out x5 q hq).1
      rw [any_iff]
      constructor
      · rintro ⟨i, hi, e⟩
        have e : beqR q ((aL y).getD i lockT.dflt) = true := e
        rw [getD_eq hi lockT.dflt] at e
        have := (beqR_iff hq1 (locks_out y5 _ (List.getElem_mem hi)).1).1 e
        rw [this]
        exact List.getElem_mem hi
      · intro hm
        obtain ⟨i, hi, e⟩ := List.getElem_of_mem hm
        refine ⟨i, hi, ?_⟩
        show beqR q ((aL y).getD i lockT.dflt) = true
        rw [getD_eq hi lockT.dflt, e]
        exact (beqR_iff hq1 hq1).2 rfl
     rw [← hE, ← hC, ← hL]
     by_cases g1 : aU x > aU y <;> by_cases g2 : andI (aT x) (aT y) = aT y <;> by_cases g3 : andI (aK x) (aK y) = aK y <;> cases (aE x).all (hasD (aE y)) <;> cases (aC x).all (fun c => !decide (cntR (aC y) (cF c) < cC c)) <;> cases (aL x).all (fun q => anyI (aL y).length (fT q (aL y))) <;> simp [g1, g2, g3] <;> omega
def e25' (x : Ty.den labT) (rt rc : Int) (m : Ty.den momT) : Option Bool × V := (some (decide (szX x ∧ szY m)), .si .i64 (reasonE (aU x) (aE x) (aC x) (aT x) (aK x) (aL x) rt rc (bN m) (bD m) (bE m) (bC m) (bK m)))
theorem noBit_mod {t r : Int} (ht : 0 ≤ t ∧ t ≤ 255) (hr : 0 ≤ r ∧ r ≤ 7) : ((t.fdiv ((2 : Int) ^ min r.toNat 64)).tmod (2 : Int) == (0 : Int)) = noBit t r := by
 obtain ⟨t, rfl⟩ := Int.eq_ofNat_of_zero_le ht.1
 obtain ⟨r, rfl⟩ := Int.eq_ofNat_of_zero_le hr.1
 rw [noBit_nat (by omega) (by omega), Int.toNat_natCast]
 have h := bitB_nat (a := t) (i := r) (by omega)
 have h2 : (t : Int).fdiv (2 ^ min r 64) = ((t / 2 ^ r : Nat) : Int) := by
  rw [Nat.min_eq_left (by omega), Int.fdiv_eq_ediv_of_nonneg _ (by exact Int.le_of_lt (Int.pow_pos (by decide))), Int.natCast_ediv, Int.natCast_pow]; rfl
 have e2 : ((t / 2 ^ r : Nat) : Int).tmod 2 = ((t / 2 ^ r % 2 : Nat) : Int) := by rw [Int.tmod_eq_emod_of_nonneg (Int.natCast_nonneg _)]; rfl
 rw [h2, e2] at h ⊢
 rw [← h]
 have : t / 2 ^ r % 2 < 2 := Nat.mod_lt _ (by decide)
 rcases (show t / 2 ^ r % 2 = 0 ∨ t / 2 ^ r % 2 = 1 by omega) with k | k <;> rw [k] <;> rfl
theorem someI_not {α : Type} (l : List α) (p : α → Bool) : someI l p = !l.all (fun x => !p x) := by
 rw [someI_any, List.not_all_eq_any_not]
 simp
theorem e25'_of (x : Ty.den labT) (rt rc : Int) (m : Ty.den momT) (h : (e25' x rt rc m).1.getD true = true) : SemF Tryd.prog Γ 25 [labT.val x, .agg [.si .i64 rt, .si .i64 rc], momT.val m] [] [] (e25' x rt rc m).2 [] [] := by
 obtain ⟨sx, sm⟩ := of_decide_eq_true h
 have sx' : szE (aE x) (aC x) (aL x) := sx
 obtain ⟨s1, s2, s3⟩ := sx'
 have sm' : szM (bE m) (bC m) (bK m) := sm
 obtain ⟨r1, r2, r3⟩ := sm'
 have p0 : decide (pre_rR0 0 (aU x) (aE x) (aC x) (aT x) (aK x) (aL x) (bN m) (bD m) (bE m) (bC m) (bK m)) = true := decide_eq_true ⟨rfl, s1, r1⟩
 have p1 : decide (pre_rR1 0 (aU x) (aE x) (aC x) (aT x) (aK x) (aL x) (bN m) (bD m) (bE m) (bC m) (bK m)) = true := decide_eq_true ⟨rfl, s2, r2⟩
 have p2 : decide (pre_rR2 0 (aU x) (aE x) (aC x) (aT x) (aK x) (aL x) (bN m) (bD m) (bE m) (bC m) (bK m)) = true := decide_eq_true ⟨rfl, s3, r3⟩
 have eq := c25_run (aU x) (aE x) (aC x) (aT x) (aK x) (aL x) rt rc (bN m) (bD m) (bE m) (bC m) (bK m)
 rw [mkL_eta, mkM_eta, p0, p1, p2, decide_eq_true sx, decide_eq_true sm, inR_bif, inR_bif] at eq
 have hprop : proper (aU x) (aE x) (aC x) (aT x) (aK x) (aL x) rt rc (bN m) (bD m) (bE m) (bC m) (bK m) = (vX x && vY m && inR rt 0 7 && inR rc 0 7) := rfl
 refine of_runL cfg55_ok eq ?_ ?_
 · cases hx : vX x <;> cases hr : inR rt 0 7 <;> cases hc : inR rc 0 7 <;> cases hm : vY m <;> simp
   have h1 : 0 ≤ rt := by unfold inR at hr; simp at hr; exact hr.1
   have h2 : 0 ≤ rc := by unfold inR at hc; simp at hc; exact hc.1
   first | exact ⟨h1, .inr h2⟩ | exact ⟨h1, .inr ⟨h2, .inr trivial⟩⟩ | simp [h1, h2]
 · show V.si .i64 _ = V.si .i64 (reasonE _ _ _ _ _ _ rt rc _ _ _ _ _)
   congr 1
   unfold reasonE
   rw [hprop]
   cases hx : vX x <;> cases hr : inR rt 0 7 <;> cases hc : inR rc 0 7 <;> cases hm : vY m <;> try rfl
   obtain ⟨x1, x2, x3, x4, x5, x6, x7⟩ := valid_all hx
   have d1 := (counts_out x7).1
   have hm2 : countsD (bC m) 0 = true := by
    have : validM (bN m) (bD m) (bE m) (bC m) (bK m) = true := hm
    unfold validM at this
    simp only [Bool.and_eq_true] at this
    exact this.1.2
   have c2 := (counts_out hm2).2
   have hr' : 0 ≤ rt ∧ rt ≤ 7 := by unfold inR at hr; simpa using hr
   have hc' : 0 ≤ rc ∧ rc ≤ 7 := by unfold inR at hc; simpa using hc
   rw [noBit_mod x2 hr', noBit_mod x3 hc', someI_not, someI_not, someI_not]
   rw [show (allI (aE x).length fun i => hasD (bE m) ((aE x).getD i 0)) = (aE x).all (hasD (bE m)) from allI_all _ _ _,
    show (allI (aC x).length fun i => !decide (cntR (bC m) (cF ((aC x).getD i conf.dflt)) < cC ((aC x).getD i conf.dflt))) = (aC x).all (fun c => !decide (cntR (bC m) (cF c) < cC c)) from allI_all (aC x) conf.dflt (fun c => !decide (cntR (bC m) (cF c) < cC c)),
    show (allI (aL x).length fun i => !lackL (bK m) ((aL x).getD i lockT.dflt)) = (aL x).all (fun q => !lackL (bK m) q) from allI_all (aL x) lockT.dflt (fun q => !lackL (bK m) q)]
   have hC : (aC x).all (fun c => !decide (cntR (bC m) (cF c) < cC c)) = (aC x).all (fun c => !lackC (bC m) c) := by
    rw [Bool.eq_iff_iff, List.all_eq_true, List.all_eq_true]
    refine forall_congr' fun c => forall_congr' fun hc => ?_
    rw [Bool.not_eq_true', Bool.not_eq_true', decide_eq_false_iff_not, Int.not_lt, cntR_le c2 (d1 c hc).2.2.1, lackC_iff]
   rw [hC]
   simp only [Bool.not_not]
   rw [show (aE x).all (fun y => hasD (bE m) y) = (aE x).all (hasD (bE m)) from rfl]
   cases noBit (aT x) rt <;> cases noBit (aK x) rc <;> cases decide (IntKind.i64.wrap (bN m - bD m) < aU x) <;> cases (aE x).all (hasD (bE m)) <;> cases (aC x).all (fun c => !lackC (bC m) c) <;> cases (aL x).all (fun q => !lackL (bK m) q) <;> rfl
def e25 (x : Ty.den labT) (r : Ty.den (.agg [ity, ity])) (m : Ty.den momT) : Option Bool × V := e25' x r.1 r.2.1 m
theorem e25_of (x : Ty.den labT) (r : Ty.den (.agg [ity, ity])) (m : Ty.den momT) (h : (e25 x r m).1.getD true = true) : SemF Tryd.prog Γ 25 [labT.val x, (Ty.agg [ity, ity]).val r, momT.val m] [] [] (e25 x r m).2 [] [] := e25'_of x r.1 r.2.1 m h
end L
end Go.Proofs.YthjiodeaepigmaaDoor

/- Package label: the reference's Join: loops, printed. -/
set_option linter.unusedVariables false
set_option linter.unusedSimpArgs false
set_option maxRecDepth 100000
set_option maxHeartbeats 4000000
namespace Go.Proofs.YthjiodeaepigmaaDoor
open Go
namespace L
theorem c59_run (n : Int) (l : List Int) : runL cfg55 59 [.agg [.si .i64 n, .slst .ro ity l]] = .ok (some (decide (l.length * 2 * (8 : Nat) ≤ 281474976710656))) (V.agg [V.si .i64 n, V.slst .ro ity (List.take l.length (List.drop (0) l))]) := by kernel_rfl
def hp_rJ0 : HP := { n := 168, lv := [2, 3, 4, 6, 7], sp := [.ptr 0 0, .ptr 1 0, .ptr 2 0, .ptr 3 0, .ty ity], op := [.cells [.ty ity, .ty (.slice ity), .ty (.slice conf), .ty ity, .ty ity, .ty (.slice lockT)], .cells [.ty ity, .ty (.slice ity), .ty (.slice conf), .ty ity, .ty ity, .ty (.slice lockT)], .cells [.ci 0, .nl, .nl, .ci 0, .ci 0, .nl], .cells [.ty ity, .bz 0, .nl, .ty ity, .ty ity, .nl]], bp := [.arr ity], bo := [(3, 1, ity)] }
def lve_rJ0 : Ex → List Nat
 | .normal => [2, 3, 4, 6, 7]
 | .exit 0 => [2, 3, 4, 6]
 | _ => []
theorem bd_rJ0 : Tryd.f17.body = some (root 17) := by kernel_rfl
theorem le_rJ0 : (loops (root 17))[0]? = some (lp 17 0) := by kernel_rfl
theorem li_rJ0 : Lies (root 17) 1 (lp 17 0) := Lies.of_take (n := 0) (by kernel_rfl)
def st_rJ0 (i : Int) (xu : Int) (xe : List Int) (xc : List (Ty.den conf)) (xt xk : Int) (xl : List (Ty.den lockT)) (yu : Int) (ye : List Int) (yc : List (Ty.den conf)) (yt yk : Int) (yl : List (Ty.den lockT)) (u t c : Int) (j : Nat) (l : List Int) : St := hp_rJ0.st ⟨((), (), (), (), i, ()), ((xu, xe, xc, xt, xk, xl, ()), (yu, ye, yc, yt, yk, yl, ()), ((), (), (), (), (), (), ()), (u, j, (), t, c, (), ()), ()), (l, ())⟩
noncomputable def rn_rJ0 (i : Int) (xu : Int) (xe : List Int) (xc : List (Ty.den conf)) (xt xk : Int) (xl : List (Ty.den lockT)) (yu : Int) (ye : List Int) (yc : List (Ty.den conf)) (yt yk : Int) (yl : List (Ty.den lockT)) (u t c : Int) (j : Nat) (l : List Int) := outa lve_rJ0 (evCK Tryd.prog Γ (cfM Tryd.prog Γ cfg55 30) (cfg55.lo 17) [] 60 1 (lp 17 0) (st_rJ0 i xu xe xc xt xk xl yu ye yc yt yk yl u t c j l))
theorem rn_rJ0_eq (i : Int) (xu : Int) (xe : List Int) (xc : List (Ty.den conf)) (xt xk : Int) (xl : List (Ty.den lockT)) (yu : Int) (ye : List Int) (yc : List (Ty.den conf)) (yt yk : Int) (yl : List (Ty.den lockT)) (u t c : Int) (j : Nat) (l : List Int) : (rn_rJ0 i xu xe xc xt xk xl yu ye yc yt yk yl u t c j l).run = (bif decide (i < (20 : Int)) then (bif decide (xe.length ≤ 1000000) then (bif hasD xe i then (bif decide ((j + 1) * 2 * 8 ≤ 281474976710656) then (some ((Ex.normal, [V.ptr 0 0, V.ptr 1 0, V.ptr 2 0, V.ptr 3 0, V.si .i64 (IntKind.i64.wrap (i + (1 : Int)))], [some [V.si .i64 xu, V.slst .ro ity xe, V.slst .ro conf xc, V.si .i64 xt, V.si .i64 xk, V.slst .ro lockT xl], some [V.si .i64 yu, V.slst .ro ity ye, V.slst .ro conf yc, V.si .i64 yt, V.si .i64 yk, V.slst .ro lockT yl], some [V.i .i64 (0 : Int), V.lst .full [], V.lst .full [], V.i .i64 (0 : Int), V.i .i64 (0 : Int), V.lst .full []], some [V.si .i64 u, V.bs true 0 0 (j + (1 : Nat)), V.lst .full [], V.si .i64 t, V.si .i64 c, V.lst .full []]], [some (Bf.live (.arr ity (List.take j (List.drop (0) l) ++ [i])))], 168, 0, 0))) else none) else (bif decide (ye.length ≤ 1000000) then (bif hasD ye i then (bif decide ((j + 1) * 2 * 8 ≤ 281474976710656) then (some ((Ex.normal, [V.ptr 0 0, V.ptr 1 0, V.ptr 2 0, V.ptr 3 0, V.si .i64 (IntKind.i64.wrap (i + (1 : Int)))], [some [V.si .i64 xu, V.slst .ro ity xe, V.slst .ro conf xc, V.si .i64 xt, V.si .i64 xk, V.slst .ro lockT xl], some [V.si .i64 yu, V.slst .ro ity ye, V.slst .ro conf yc, V.si .i64 yt, V.si .i64 yk, V.slst .ro lockT yl], some [V.i .i64 (0 : Int), V.lst .full [], V.lst .full [], V.i .i64 (0 : Int), V.i .i64 (0 : Int), V.lst .full []], some [V.si .i64 u, V.bs true 0 0 (j + (1 : Nat)), V.lst .full [], V.si .i64 t, V.si .i64 c, V.lst .full []]], [some (Bf.live (.arr ity (List.take j (List.drop (0) l) ++ [i])))], 168, 0, 0))) else none) else (some ((Ex.normal, [V.ptr 0 0, V.ptr 1 0, V.ptr 2 0, V.ptr 3 0, V.si .i64 (IntKind.i64.wrap (i + (1 : Int)))], [some [V.si .i64 xu, V.slst .ro ity xe, V.slst .ro conf xc, V.si .i64 xt, V.si .i64 xk, V.slst .ro lockT xl], some [V.si .i64 yu, V.slst .ro ity ye, V.slst .ro conf yc, V.si .i64 yt, V.si .i64 yk, V.slst .ro lockT yl], some [V.i .i64 (0 : Int), V.lst .full [], V.lst .full [], V.i .i64 (0 : Int), V.i .i64 (0 : Int), V.lst .full []], some [V.si .i64 u, V.bs true 0 0 j, V.lst .full [], V.si .i64 t, V.si .i64 c, V.lst .full []]], [some (Bf.live (.arr ity l))], 168, 0, 0)))) else none)) else none) else (some ((Ex.exit 0, [V.ptr 0 0, V.ptr 1 0, V.ptr 2 0, V.ptr 3 0], [some [V.si .i64 xu, V.slst .ro ity xe, V.slst .ro conf xc, V.si .i64 xt, V.si .i64 xk, V.slst .ro lockT xl], some [V.si .i64 yu, V.slst .ro ity ye, V.slst .ro conf yc, V.si .i64 yt, V.si .i64 yk, V.slst .ro lockT yl], some [V.i .i64 (0 : Int), V.lst .full [], V.lst .full [], V.i .i64 (0 : Int), V.i .i64 (0 : Int), V.lst .full []], some [V.si .i64 u, V.bs true 0 0 j, V.lst .full [], V.si .i64 t, V.si .i64 c, V.lst .full []]], [some (Bf.live (.arr ity l))], 168, 0, 0)))) := by kernel_rfl
theorem rn_rJ0_c (i : Int) (xu : Int) (xe : List Int) (xc : List (Ty.den conf)) (xt xk : Int) (xl : List (Ty.den lockT)) (yu : Int) (ye : List Int) (yc : List (Ty.den conf)) (yt yk : Int) (yl : List (Ty.den lockT)) (u t c : Int) (j : Nat) (l : List Int) {e : Ex} {vs : List V} {ob : Ob} {nm : Nm} {n' kh kt : Nat} (h : (rn_rJ0 i xu xe xc xt xk xl yu ye yc yt yk yl u t c j l).run = some (e, vs, ob, nm, n', kh, kt)) : SemC Tryd.prog Γ (lp 17 0) (st_rJ0 i xu xe xc xt xk xl yu ye yc yt yk yl u t c j l) e.to (St.of n' (lve_rJ0 e) vs ob nm kh kt) := SemC.of_evM cfg55_ok Tryd.func17 bd_rJ0 li_rJ0 h
def hp_rJ1 : HP := { n := 168, lv := [2, 3, 4, 6, 8], sp := [.ptr 0 0, .ptr 1 0, .ptr 2 0, .ptr 3 0, .ty ity], op := [.cells [.ty ity, .ty (.slice ity), .ty (.slice conf), .ty ity, .ty ity, .ty (.slice lockT)], .cells [.ty ity, .ty (.slice ity), .ty (.slice conf), .ty ity, .ty ity, .ty (.slice lockT)], .cells [.ci 0, .nl, .nl, .ci 0, .ci 0, .nl], .cells [.ty ity, .bz 0, .bz 1, .ty ity, .ty ity, .nl]], bp := [.arr ity, .arr conf], bo := [(3, 2, conf)] }
def lve_rJ1 : Ex → List Nat
 | .normal => [2, 3, 4, 6, 8]
 | .exit 2 => [2, 3, 4, 6]
 | _ => []
theorem bd_rJ1 : Tryd.f17.body = some (root 17) := by kernel_rfl
theorem le_rJ1 : (loops (root 17))[1]? = some (lp 17 1) := by kernel_rfl
theorem li_rJ1 : Lies (root 17) 2 (lp 17 1) := Lies.of_take (n := 0) (by kernel_rfl)
def st_rJ1 (i : Int) (xu : Int) (xe : List Int) (xc : List (Ty.den conf)) (xt xk : Int) (xl : List (Ty.den lockT)) (yu : Int) (ye : List Int) (yc : List (Ty.den conf)) (yt yk : Int) (yl : List (Ty.den lockT)) (u t c : Int) (j0 j : Nat) (l0 : List Int) (l : List (Ty.den conf)) : St := hp_rJ1.st ⟨((), (), (), (), i, ()), ((xu, xe, xc, xt, xk, xl, ()), (yu, ye, yc, yt, yk, yl, ()), ((), (), (), (), (), (), ()), (u, j0, j, t, c, (), ()), ()), (l0, l, ())⟩
noncomputable def rn_rJ1 (i : Int) (xu : Int) (xe : List Int) (xc : List (Ty.den conf)) (xt xk : Int) (xl : List (Ty.den lockT)) (yu : Int) (ye : List Int) (yc : List (Ty.den conf)) (yt yk : Int) (yl : List (Ty.den lockT)) (u t c : Int) (j0 j : Nat) (l0 : List Int) (l : List (Ty.den conf)) := outa lve_rJ1 (evCK Tryd.prog Γ (cfM Tryd.prog Γ cfg55 30) (cfg55.lo 17) [] 60 2 (lp 17 1) (st_rJ1 i xu xe xc xt xk xl yu ye yc yt yk yl u t c j0 j l0 l))
theorem rn_rJ1_eq (i : Int) (xu : Int) (xe : List Int) (xc : List (Ty.den conf)) (xt xk : Int) (xl : List (Ty.den lockT)) (yu : Int) (ye : List Int) (yc : List (Ty.den conf)) (yt yk : Int) (yl : List (Ty.den lockT)) (u t c : Int) (j0 j : Nat) (l0 : List Int) (l : List (Ty.den conf)) : (rn_rJ1 i xu xe xc xt xk xl yu ye yc yt yk yl u t c j0 j l0 l).run = (bif decide (i < (16 : Int)) then (bif decide (xc.length ≤ 1000000) then (bif decide (yc.length ≤ 1000000) then (bif decide ((maxI (cntR xc i) (cntR yc i)) > (0 : Int)) then (bif decide ((j + 1) * 2 * 16 ≤ 281474976710656) then (some ((Ex.normal, [V.ptr 0 0, V.ptr 1 0, V.ptr 2 0, V.ptr 3 0, V.si .i64 (IntKind.i64.wrap (i + (1 : Int)))], [some [V.si .i64 xu, V.slst .ro ity xe, V.slst .ro conf xc, V.si .i64 xt, V.si .i64 xk, V.slst .ro lockT xl], some [V.si .i64 yu, V.slst .ro ity ye, V.slst .ro conf yc, V.si .i64 yt, V.si .i64 yk, V.slst .ro lockT yl], some [V.i .i64 (0 : Int), V.lst .full [], V.lst .full [], V.i .i64 (0 : Int), V.i .i64 (0 : Int), V.lst .full []], some [V.si .i64 u, V.bs true 0 0 j0, V.bs true 1 0 (j + (1 : Nat)), V.si .i64 t, V.si .i64 c, V.lst .full []]], [some (Bf.live (.arr ity l0)), some (Bf.live (.arr conf (List.take j (List.drop (0) l) ++ [(mkC i (maxI (cntR xc i) (cntR yc i)))])))], 168, 0, 0))) else none) else (some ((Ex.normal, [V.ptr 0 0, V.ptr 1 0, V.ptr 2 0, V.ptr 3 0, V.si .i64 (IntKind.i64.wrap (i + (1 : Int)))], [some [V.si .i64 xu, V.slst .ro ity xe, V.slst .ro conf xc, V.si .i64 xt, V.si .i64 xk, V.slst .ro lockT xl], some [V.si .i64 yu, V.slst .ro ity ye, V.slst .ro conf yc, V.si .i64 yt, V.si .i64 yk, V.slst .ro lockT yl], some [V.i .i64 (0 : Int), V.lst .full [], V.lst .full [], V.i .i64 (0 : Int), V.i .i64 (0 : Int), V.lst .full []], some [V.si .i64 u, V.bs true 0 0 j0, V.bs true 1 0 j, V.si .i64 t, V.si .i64 c, V.lst .full []]], [some (Bf.live (.arr ity l0)), some (Bf.live (.arr conf l))], 168, 0, 0)))) else none) else none) else (some ((Ex.exit 2, [V.ptr 0 0, V.ptr 1 0, V.ptr 2 0, V.ptr 3 0], [some [V.si .i64 xu, V.slst .ro ity xe, V.slst .ro conf xc, V.si .i64 xt, V.si .i64 xk, V.slst .ro lockT xl], some [V.si .i64 yu, V.slst .ro ity ye, V.slst .ro conf yc, V.si .i64 yt, V.si .i64 yk, V.slst .ro lockT yl], some [V.i .i64 (0 : Int), V.lst .full [], V.lst .full [], V.i .i64 (0 : Int), V.i .i64 (0 : Int), V.lst .full []], some [V.si .i64 u, V.bs true 0 0 j0, V.bs true 1 0 j, V.si .i64 t, V.si .i64 c, V.lst .full []]], [some (Bf.live (.arr ity l0)), some (Bf.live (.arr conf l))], 168, 0, 0)))) := by kernel_rfl
theorem rn_rJ1_c (i : Int) (xu : Int) (xe : List Int) (xc : List (Ty.den conf)) (xt xk : Int) (xl : List (Ty.den lockT)) (yu : Int) (ye : List Int) (yc : List (Ty.den conf)) (yt yk : Int) (yl : List (Ty.den lockT)) (u t c : Int) (j0 j : Nat) (l0 : List Int) (l : List (Ty.den conf)) {e : Ex} {vs : List V} {ob : Ob} {nm : Nm} {n' kh kt : Nat} (h : (rn_rJ1 i xu xe xc xt xk xl yu ye yc yt yk yl u t c j0 j l0 l).run = some (e, vs, ob, nm, n', kh, kt)) : SemC Tryd.prog Γ (lp 17 1) (st_rJ1 i xu xe xc xt xk xl yu ye yc yt yk yl u t c j0 j l0 l) e.to (St.of n' (lve_rJ1 e) vs ob nm kh kt) := SemC.of_evM cfg55_ok Tryd.func17 bd_rJ1 li_rJ1 h
def e59 (q : Ty.den lockT) : Option Bool × V := (some (decide ((kK q).length ≤ 1000000)), lockT.val q)
theorem e59_of (q : Ty.den lockT) (h : (e59 q).1.getD true = true) : SemF Tryd.prog Γ 59 [lockT.val q] [] [] (e59 q).2 [] [] := by
 have h : (kK q).length ≤ 1000000 := of_decide_eq_true h
 exact of_runL cfg55_ok (c59_run (kN q) (kK q)) (decide_eq_true (by omega)) (congrArg (fun l : List Int => V.agg [V.si .i64 (kN q), V.slst .ro ity l]) (take_all (kK q)))
noncomputable def orc57 : Orc := fun f args => if f = 59 then (Ty.ofVs [lockT] args).map (fun x => e59 x.1) else orc55 f args
theorem orc57_ok : OrcOk Tryd.prog Γ orc57 := orc55_ok.plain 59 [lockT] (fun x => e59 x.1) Tryd.f59 Tryd.func59 rfl (by kernel_rfl) (fun x h => e59_of _ h)
noncomputable def cfg57 : Cfg := cfgT T36 isT36 orc57 lo54
theorem cfg57_ok : CfgOk Tryd.prog Γ cfg57 := cfgT_ok T36_ok orc57_ok lo54_ok
def evJ (a b : List Int) (n : Nat) : List Int := ((List.range n).filter fun i : Nat => hasD a i || hasD b i).map fun i : Nat => (i : Int)
theorem evJ_succ (a b : List Int) (n : Nat) : evJ a b (n + 1) = evJ a b n ++ (bif hasD a n || hasD b n then [(n : Int)] else []) := by
 unfold evJ
 rw [List.range_succ, List.filter_append, List.map_append]
 cases h : hasD a n || hasD b n <;> simp [h]
theorem evJ_len (a b : List Int) (n : Nat) : (evJ a b n).length ≤ n := by
 unfold evJ
 rw [List.length_map]
 exact Nat.le_trans (List.length_filter_le _ _) (by simp)
abbrev pre_rJ0 (i : Int) (xu : Int) (xe : List Int) (xc : List (Ty.den conf)) (xt xk : Int) (xl : List (Ty.den lockT)) (yu : Int) (ye : List Int) (yc : List (Ty.den conf)) (yt yk : Int) (yl : List (Ty.den lockT)) (u t c : Int) (j : Nat) (l : List Int) : Prop := i = 0 ∧ j = 0 ∧ l = [] ∧ xe.length ≤ 1000000 ∧ ye.length ≤ 1000000
def rs_rJ0 (i : Int) (xu : Int) (xe : List Int) (xc : List (Ty.den conf)) (xt xk : Int) (xl : List (Ty.den lockT)) (yu : Int) (ye : List Int) (yc : List (Ty.den conf)) (yt yk : Int) (yl : List (Ty.den lockT)) (u t c : Int) (j : Nat) (l : List Int) : Ex × St := (.exit 0, St.of 168 (lve_rJ0 (.exit 0)) [.ptr 0 0, .ptr 1 0, .ptr 2 0, .ptr 3 0] [some [.si .i64 xu, .slst .ro ity xe, .slst .ro conf xc, .si .i64 xt, .si .i64 xk, .slst .ro lockT xl], some [.si .i64 yu, .slst .ro ity ye, .slst .ro conf yc, .si .i64 yt, .si .i64 yk, .slst .ro lockT yl], some [.i .i64 0, .lst .full [], .lst .full [], .i .i64 0, .i .i64 0, .lst .full []], some [.si .i64 u, .bs true 0 0 (evJ xe ye 20).length, .lst .full [], .si .i64 t, .si .i64 c, .lst .full []]] [some (.live (.arr ity (evJ xe ye 20)))] hp_rJ0.kh hp_rJ0.kt)
def res_rJ0 (i : Int) (xu : Int) (xe : List Int) (xc : List (Ty.den conf)) (xt xk : Int) (xl : List (Ty.den lockT)) (yu : Int) (ye : List Int) (yc : List (Ty.den conf)) (yt yk : Int) (yl : List (Ty.den lockT)) (u t c : Int) (j : Nat) (l : List Int) : Tr (Ex × St) := .br (decide (pre_rJ0 i xu xe xc xt xk xl yu ye yc yt yk yl u t c j l)) (.leaf (some (.exit 0, St.of 168 (lve_rJ0 (.exit 0)) [.ptr 0 0, .ptr 1 0, .ptr 2 0, .ptr 3 0] [some [.si .i64 xu, .slst .ro ity xe, .slst .ro conf xc, .si .i64 xt, .si .i64 xk, .slst .ro lockT xl], some [.si .i64 yu, .slst .ro ity ye, .slst .ro conf yc, .si .i64 yt, .si .i64 yk, .slst .ro lockT yl], some [.i .i64 0, .lst .full [], .lst .full [], .i .i64 0, .i .i64 0, .lst .full []], some [.si .i64 u, .bs true 0 0 (evJ xe ye 20).length, .lst .full [], .si .i64 t, .si .i64 c, .lst .full []]] [some (.live (.arr ity (evJ xe ye 20)))] hp_rJ0.kh hp_rJ0.kt))) (.leaf none)
def ent_rJ0 : LEnt := LEnt.by hp_rJ0 fun ⟨(_, _, _, _, i, _), ((xu, xe, xc, xt, xk, xl, _), (yu, ye, yc, yt, yk, yl, _), (_, _, _, _, _, _, _), (u, j, _, t, c, _, _), _), (l, _)⟩ => res_rJ0 i xu xe xc xt xk xl yu ye yc yt yk yl u t c j l
theorem ent_rJ0_ok (hgo : ∀ (i : Int) (xu : Int) (xe : List Int) (xc : List (Ty.den conf)) (xt xk : Int) (xl : List (Ty.den lockT)) (yu : Int) (ye : List Int) (yc : List (Ty.den conf)) (yt yk : Int) (yl : List (Ty.den lockT)) (u t c : Int) (j : Nat) (l : List Int), pre_rJ0 i xu xe xc xt xk xl yu ye yc yt yk yl u t c j l → SemL Tryd.prog Γ (lp 17 0) (st_rJ0 i xu xe xc xt xk xl yu ye yc yt yk yl u t c j l) (rs_rJ0 i xu xe xc xt xk xl yu ye yc yt yk yl u t c j l).1.to (rs_rJ0 i xu xe xc xt xk xl yu ye yc yt yk yl u t c j l).2) : EntOk Tryd.prog Γ (lp 17 0) ent_rJ0 := LEnt.by_ok fun ⟨(_, _, _, _, i, _), ((xu, xe, xc, xt, xk, xl, _), (yu, ye, yc, yt, yk, yl, _), (_, _, _, _, _, _, _), (u, j, _, t, c, _, _), _), (l, _)⟩ _ _ h_ => SemL.br (out := rs_rJ0 i xu xe xc xt xk xl yu ye yc yt yk yl u t c j l) rfl (hgo i xu xe xc xt xk xl yu ye yc yt yk yl u t c j l) h_
theorem rJ0_go (i : Int) (xu : Int) (xe : List Int) (xc : List (Ty.den conf)) (xt xk : Int) (xl : List (Ty.den lockT)) (yu : Int) (ye : List Int) (yc : List (Ty.den conf)) (yt yk : Int) (yl : List (Ty.den lockT)) (u t c : Int) (j : Nat) (l : List Int) (h : pre_rJ0 i xu xe xc xt xk xl yu ye yc yt yk yl u t c j l) : SemL Tryd.prog Γ (lp 17 0) (st_rJ0 i xu xe xc xt xk xl yu ye yc yt yk yl u t c j l) (rs_rJ0 i xu xe xc xt xk xl yu ye yc yt yk yl u t c j l).1.to (rs_rJ0 i xu xe xc xt xk xl yu ye yc yt yk yl u t c j l).2 := by
 obtain ⟨rfl, rfl, rfl, hx, hy⟩ := h
 refine SemL.scan 20 0 (Nat.zero_le _) (fun i => st_rJ0 (i : Nat) xu xe xc xt xk xl yu ye yc yt yk yl u t c (evJ xe ye i).length (evJ xe ye i)) (fun _ => true) _ ?_ ?_ ?_
 · intro i _ hi _ _
   have hw : IntKind.i64.wrap ((i : Int) + 1) = ((i + 1 : Nat) : Int) := by rw [wrap_in (by omega) (by omega)]; rfl
   have eq := rn_rJ0_eq i xu xe xc xt xk xl yu ye yc yt yk yl u t c (evJ xe ye i).length (evJ xe ye i)
   have hl := evJ_len xe ye i
   rw [hw, decide_eq_true (by omega : (i : Int) < (20 : Int)), decide_eq_true hx, decide_eq_true hy, decide_eq_true (by omega : ((evJ xe ye i).length + 1) * 2 * 8 ≤ 281474976710656), List.drop_zero, List.take_length] at eq
   have hs := evJ_succ xe ye i
   show SemC Tryd.prog Γ (lp 17 0) _ .normal (st_rJ0 ((i + 1 : Nat) : Int) xu xe xc xt xk xl yu ye yc yt yk yl u t c (evJ xe ye (i + 1)).length (evJ xe ye (i + 1)))
   rw [hs]
   cases e1 : hasD xe (i : Int) <;> cases e2 : hasD ye (i : Int) <;> rw [e1] at eq <;> (try rw [e2] at eq) <;> simp only [Bool.or_true, Bool.or_false, cond_true, cond_false, List.append_nil, List.length_append, List.length_cons, List.length_nil] <;> exact rn_rJ0_c i xu xe xc xt xk xl yu ye yc yt yk yl u t c _ _ (eq.trans rfl)
 · intro i _ _ _ h; cases h
 · intro _
   refine ⟨by simp [rs_rJ0, Ex.to], ?_⟩
   have eq := rn_rJ0_eq (20 : Nat) xu xe xc xt xk xl yu ye yc yt yk yl u t c (evJ xe ye 20).length (evJ xe ye 20)
   rw [decide_eq_false (by decide)] at eq
   exact rn_rJ0_c (20 : Nat) xu xe xc xt xk xl yu ye yc yt yk yl u t c _ _ (eq.trans rfl)
def coJ (a b : List (Ty.den conf)) (n : Nat) : List (Ty.den conf) := ((List.range n).filter fun i : Nat => decide (maxI (cntR a i) (cntR b i) > 0)).map fun i : Nat => mkC i (maxI (cntR a i) (cntR b i))
theorem coJ_succ (a b : List (Ty.den conf)) (n : Nat) : coJ a b (n + 1) = coJ a b n ++ (bif decide (maxI (cntR a n) (cntR b n) > 0) then [mkC n (maxI (cntR a n) (cntR b n))] else []) := by
 unfold coJ
 rw [List.range_succ, List.filter_append, List.map_append]
 by_cases h : maxI (cntR a n) (cntR b n) > 0 <;> simp [h]
theorem coJ_len (a b : List (Ty.den conf)) (n : Nat) : (coJ a b n).length ≤ n := by
 unfold coJ
 rw [List.length_map]
 exact Nat.le_trans (List.length_filter_le _ _) (by simp)
abbrev pre_rJ1 (i : Int) (xu : Int) (xe : List Int) (xc : List (Ty.den conf)) (xt xk : Int) (xl : List (Ty.den lockT)) (yu : Int) (ye : List Int) (yc : List (Ty.den conf)) (yt yk : Int) (yl : List (Ty.den lockT)) (u t c : Int) (j0 j : Nat) (l0 : List Int) (l : List (Ty.den conf)) : Prop := i = 0 ∧ j = 0 ∧ l = [] ∧ xc.length ≤ 1000000 ∧ yc.length ≤ 1000000
def rs_rJ1 (i : Int) (xu : Int) (xe : List Int) (xc : List (Ty.den conf)) (xt xk : Int) (xl : List (Ty.den lockT)) (yu : Int) (ye : List Int) (yc : List (Ty.den conf)) (yt yk : Int) (yl : List (Ty.den lockT)) (u t c : Int) (j0 j : Nat) (l0 : List Int) (l : List (Ty.den conf)) : Ex × St := (.exit 2, St.of 168 (lve_rJ1 (.exit 2)) [.ptr 0 0, .ptr 1 0, .ptr 2 0, .ptr 3 0] [some [.si .i64 xu, .slst .ro ity xe, .slst .ro conf xc, .si .i64 xt, .si .i64 xk, .slst .ro lockT xl], some [.si .i64 yu, .slst .ro ity ye, .slst .ro conf yc, .si .i64 yt, .si .i64 yk, .slst .ro lockT yl], some [.i .i64 0, .lst .full [], .lst .full [], .i .i64 0, .i .i64 0, .lst .full []], some [.si .i64 u, .bs true 0 0 j0, .bs true 1 0 (coJ xc yc 16).length, .si .i64 t, .si .i64 c, .lst .full []]] [some (.live (.arr ity l0)), some (.live (.arr conf (coJ xc yc 16)))] hp_rJ1.kh hp_rJ1.kt)
def res_rJ1 (i : Int) (xu : Int) (xe : List Int) (xc : List (Ty.den conf)) (xt xk : Int) (xl : List (Ty.den lockT)) (yu : Int) (ye : List Int) (yc : List (Ty.den conf)) (yt yk : Int) (yl : List (Ty.den lockT)) (u t c : Int) (j0 j : Nat) (l0 : List Int) (l : List (Ty.den conf)) : Tr (Ex × St) := .br (decide (pre_rJ1 i xu xe xc xt xk xl yu ye yc yt yk yl u t c j0 j l0 l)) (.leaf (some (.exit 2, St.of 168 (lve_rJ1 (.exit 2)) [.ptr 0 0, .ptr 1 0, .ptr 2 0, .ptr 3 0] [some [.si .i64 xu, .slst .ro ity xe, .slst .ro conf xc, .si .i64 xt, .si .i64 xk, .slst .ro lockT xl], some [.si .i64 yu, .slst .ro ity ye, .slst .ro conf yc, .si .i64 yt, .si .i64 yk, .slst .ro lockT yl], some [.i .i64 0, .lst .full [], .lst .full [], .i .i64 0, .i .i64 0, .lst .full []], some [.si .i64 u, .bs true 0 0 j0, .bs true 1 0 (coJ xc yc 16).length, .si .i64 t, .si .i64 c, .lst .full []]] [some (.live (.arr ity l0)), some (.live (.arr conf (coJ xc yc 16)))] hp_rJ1.kh hp_rJ1.kt))) (.leaf none)
def ent_rJ1 : LEnt := LEnt.by hp_rJ1 fun ⟨(_, _, _, _, i, _), ((xu, xe, xc, xt, xk, xl, _), (yu, ye, yc, yt, yk, yl, _), (_, _, _, _, _, _, _), (u, j0, j, t, c, _, _), _), (l0, l, _)⟩ => res_rJ1 i xu xe xc xt xk xl yu ye yc yt yk yl u t c j0 j l0 l
theorem ent_rJ1_ok (hgo : ∀ (i : Int) (xu : Int) (xe : List Int) (xc : List (Ty.den conf)) (xt xk : Int) (xl : List (Ty.den lockT)) (yu : Int) (ye : List Int) (yc : List (Ty.den conf)) (yt yk : Int) (yl : List (Ty.den lockT)) (u t c : Int) (j0 j : Nat) (l0 : List Int) (l : List (Ty.den conf)), pre_rJ1 i xu xe xc xt xk xl yu ye yc yt yk yl u t c j0 j l0 l → SemL Tryd.prog Γ (lp 17 1) (st_rJ1 i xu xe xc xt xk xl yu ye yc yt yk yl u t c j0 j l0 l) (rs_rJ1 i xu xe xc xt xk xl yu ye yc yt yk yl u t c j0 j l0 l).1.to (rs_rJ1 i xu xe xc xt xk xl yu ye yc yt yk yl u t c j0 j l0 l).2) : EntOk Tryd.prog Γ (lp 17 1) ent_rJ1 := LEnt.by_ok fun ⟨(_, _, _, _, i, _), ((xu, xe, xc, xt, xk, xl, _), (yu, ye, yc, yt, yk, yl, _), (_, _, _, _, _, _, _), (u, j0, j, t, c, _, _), _), (l0, l, _)⟩ _ _ h_ => SemL.br (out := rs_rJ1 i xu xe xc xt xk xl yu ye yc yt yk yl u t c j0 j l0 l) rfl (hgo i xu xe xc xt xk xl yu ye yc yt yk yl u t c j0 j l0 l) h_
theorem rJ1_go (i : Int) (xu : Int) (xe : List Int) (xc : List (Ty.den conf)) (xt xk : Int) (xl : List (Ty.den lockT)) (yu : Int) (ye : List Int) (yc : List (Ty.den conf)) (yt yk : Int) (yl : List (Ty.den lockT)) (u t c : Int) (j0 j : Nat) (l0 : List Int) (l : List (Ty.den conf)) (h : pre_rJ1 i xu xe xc xt xk xl yu ye yc yt yk yl u t c j0 j l0 l) : SemL Tryd.prog Γ (lp 17 1) (st_rJ1 i xu xe xc xt xk xl yu ye yc yt yk yl u t c j0 j l0 l) (rs_rJ1 i xu xe xc xt xk xl yu ye yc yt yk yl u t c j0 j l0 l).1.to (rs_rJ1 i xu xe xc xt xk xl yu ye yc yt yk yl u t c j0 j l0 l).2 := by
 obtain ⟨rfl, rfl, rfl, hx, hy⟩ := h
 refine SemL.scan 16 0 (Nat.zero_le _) (fun i => st_rJ1 (i : Nat) xu xe xc xt xk xl yu ye yc yt yk yl u t c j0 (coJ xc yc i).length l0 (coJ xc yc i)) (fun _ => true) _ ?_ ?_ ?_
 · intro i _ hi _ _
   have hw : IntKind.i64.wrap ((i : Int) + 1) = ((i + 1 : Nat) : Int) := by rw [wrap_in (by omega) (by omega)]; rfl
   have eq := rn_rJ1_eq i xu xe xc xt xk xl yu ye yc yt yk yl u t c j0 (coJ xc yc i).length l0 (coJ xc yc i)
   have hl := coJ_len xc yc i
   rw [hw, decide_eq_true (by omega : (i : Int) < (16 : Int)), decide_eq_true hx, decide_eq_true hy, decide_eq_true (by omega : ((coJ xc yc i).length + 1) * 2 * 16 ≤ 281474976710656), List.drop_zero, List.take_length] at eq
   have hs := coJ_succ xc yc i
   show SemC Tryd.prog Γ (lp 17 1) _ .normal (st_rJ1 ((i + 1 : Nat) : Int) xu xe xc xt xk xl yu ye yc yt yk yl u t c j0 (coJ xc yc (i + 1)).length l0 (coJ xc yc (i + 1)))
   rw [hs]
   cases e1 : decide (maxI (cntR xc (i : Int)) (cntR yc (i : Int)) > 0) <;> rw [e1] at eq <;> simp only [cond_true, cond_false, List.append_nil, List.length_append, List.length_cons, List.length_nil] <;> exact rn_rJ1_c i xu xe xc xt xk xl yu ye yc yt yk yl u t c j0 _ l0 _ (eq.trans rfl)
 · intro i _ _ _ h; cases h
 · intro _
   refine ⟨by simp [rs_rJ1, Ex.to], ?_⟩
   have eq := rn_rJ1_eq (16 : Nat) xu xe xc xt xk xl yu ye yc yt yk yl u t c j0 (coJ xc yc 16).length l0 (coJ xc yc 16)
   rw [decide_eq_false (by decide)] at eq
   exact rn_rJ1_c (16 : Nat) xu xe xc xt xk xl yu ye yc yt yk yl u t c j0 _ l0 _ (eq.trans rfl)
def hp_rJ2 : HP := { n := 168, lv := [2, 3, 4, 6, 10, 11], sp := [.ptr 0 0, .ptr 1 0, .ptr 2 0, .ptr 3 0, .ty ity, .ty ity], op := [.cells [.ty ity, .ty (.slice ity), .ty (.slice conf), .ty ity, .ty ity, .ty (.slice lockT)], .cells [.ty ity, .ty (.slice ity), .ty (.slice conf), .ty ity, .ty ity, .ty (.slice lockT)], .cells [.ci 0, .nl, .nl, .ci 0, .ci 0, .nl], .cells [.ty ity, .bz 0, .bz 1, .ty ity, .ty ity, .bz 2]], bp := [.arr ity, .arr conf, .arr lockT], bo := [(3, 5, lockT)] }
def lve_rJ2 : Ex → List Nat
 | .normal => [2, 3, 4, 6, 10, 11]
 | .exit 4 => [4, 6]
 | _ => []
theorem bd_rJ2 : Tryd.f17.body = some (root 17) := by kernel_rfl
theorem le_rJ2 : (loops (root 17))[2]? = some (lp 17 2) := by kernel_rfl
theorem li_rJ2 : Lies (root 17) 3 (lp 17 2) := Lies.of_take (n := 0) (by kernel_rfl)
def st_rJ2 (i k : Int) (xu : Int) (xe : List Int) (xc : List (Ty.den conf)) (xt xk : Int) (xl : List (Ty.den lockT)) (yu : Int) (ye : List Int) (yc : List (Ty.den conf)) (yt yk : Int) (yl : List (Ty.den lockT)) (u t c : Int) (j0 j1 j : Nat) (l0 : List Int) (l1 : List (Ty.den conf)) (l : List (Ty.den lockT)) : St := hp_rJ2.st ⟨((), (), (), (), i, k, ()), ((xu, xe, xc, xt, xk, xl, ()), (yu, ye, yc, yt, yk, yl, ()), ((), (), (), (), (), (), ()), (u, j0, j1, t, c, j, ()), ()), (l0, l1, l, ())⟩
noncomputable def rn_rJ2 (i k : Int) (xu : Int) (xe : List Int) (xc : List (Ty.den conf)) (xt xk : Int) (xl : List (Ty.den lockT)) (yu : Int) (ye : List Int) (yc : List (Ty.den conf)) (yt yk : Int) (yl : List (Ty.den lockT)) (u t c : Int) (j0 j1 j : Nat) (l0 : List Int) (l1 : List (Ty.den conf)) (l : List (Ty.den lockT)) := outa lve_rJ2 (evCK Tryd.prog Γ (cfM Tryd.prog Γ cfg57 30) (cfg57.lo 17) [] 60 3 (lp 17 2) (st_rJ2 i k xu xe xc xt xk xl yu ye yc yt yk yl u t c j0 j1 j l0 l1 l))
theorem rn_rJ2_eq (i k : Int) (xu : Int) (xe : List Int) (xc : List (Ty.den conf)) (xt xk : Int) (xl : List (Ty.den lockT)) (yu : Int) (ye : List Int) (yc : List (Ty.den conf)) (yt yk : Int) (yl : List (Ty.den lockT)) (u t c : Int) (j0 j1 j : Nat) (l0 : List Int) (l1 : List (Ty.den conf)) (l : List (Ty.den lockT)) : (rn_rJ2 i k xu xe xc xt xk xl yu ye yc yt yk yl u t c j0 j1 j l0 l1 l).run = (bif decide (i < (xl.length : Int)) then (bif k == (yl.length : Int) then (bif decide ((0 : Int) ≤ i ∧ i < (xl.length : Int)) then (bif decide ((kK (xl.getD i.toNat lockT.dflt)).length ≤ 1000000) then (bif decide ((j + 1) * 2 * 32 ≤ 281474976710656) then (some ((Ex.normal, [V.ptr 0 0, V.ptr 1 0, V.ptr 2 0, V.ptr 3 0, V.si .i64 (IntKind.i64.wrap (i + (1 : Int))), V.si .i64 k], [some [V.si .i64 xu, V.slst .ro ity xe, V.slst .ro conf xc, V.si .i64 xt, V.si .i64 xk, V.slst .ro lockT xl], some [V.si .i64 yu, V.slst .ro ity ye, V.slst .ro conf yc, V.si .i64 yt, V.si .i64 yk, V.slst .ro lockT yl], some [V.i .i64 (0 : Int), V.lst .full [], V.lst .full [], V.i .i64 (0 : Int), V.i .i64 (0 : Int), V.lst .full []], some [V.si .i64 u, V.bs true 0 0 j0, V.bs true 1 0 j1, V.si .i64 t, V.si .i64 c, V.bs true 2 0 (j + (1 : Nat))]], [some (Bf.live (.arr ity l0)), some (Bf.live (.arr conf l1)), some (Bf.live (.arr lockT (List.take j (List.drop (0) l) ++ [xl.getD i.toNat lockT.dflt])))], 168, 0, 0))) else none) else none) else none) else (bif decide (i < (xl.length : Int)) then (bif decide ((0 : Int) ≤ i ∧ i < (xl.length : Int)) then (bif decide ((0 : Int) ≤ k ∧ k < (yl.length : Int)) then (bif decide ((kK (xl.getD i.toNat lockT.dflt)).length ≤ 1000000 ∧ (kK (yl.getD k.toNat lockT.dflt)).length ≤ 1000000) then (bif beforeD (xl.getD i.toNat lockT.dflt) (yl.getD k.toNat lockT.dflt) then (bif decide ((0 : Int) ≤ i ∧ i < (xl.length : Int)) then (bif decide ((kK (xl.getD i.toNat lockT.dflt)).length ≤ 1000000) then (bif decide ((j + 1) * 2 * 32 ≤ 281474976710656) then (some ((Ex.normal, [V.ptr 0 0, V.ptr 1 0, V.ptr 2 0, V.ptr 3 0, V.si .i64 (IntKind.i64.wrap (i + (1 : Int))), V.si .i64 k], [some [V.si .i64 xu, V.slst .ro ity xe, V.slst .ro conf xc, V.si .i64 xt, V.si .i64 xk, V.slst .ro lockT xl], some [V.si .i64 yu, V.slst .ro ity ye, V.slst .ro conf yc, V.si .i64 yt, V.si .i64 yk, V.slst .ro lockT yl], some [V.i .i64 (0 : Int), V.lst .full [], V.lst .full [], V.i .i64 (0 : Int), V.i .i64 (0 : Int), V.lst .full []], some [V.si .i64 u, V.bs true 0 0 j0, V.bs true 1 0 j1, V.si .i64 t, V.si .i64 c, V.bs true 2 0 (j + (1 : Nat))]], [some (Bf.live (.arr ity l0)), some (Bf.live (.arr conf l1)), some (Bf.live (.arr lockT (List.take j (List.drop (0) l) ++ [xl.getD i.toNat lockT.dflt])))], 168, 0, 0))) else none) else none) else none) else (bif decide (i < (xl.length : Int)) then (bif decide ((0 : Int) ≤ i ∧ i < (xl.length : Int)) then (bif decide ((0 : Int) ≤ k ∧ k < (yl.length : Int)) then (bif (some (!(kN (xl.getD i.toNat lockT.dflt)) == (kN (yl.getD k.toNat lockT.dflt)) || decide (List.length (kK (xl.getD i.toNat lockT.dflt)) ≤ 1000000 ∧ List.length (kK (yl.getD k.toNat lockT.dflt)) ≤ 1000000))).getD true then (bif bif (kN (xl.getD i.toNat lockT.dflt)) == (kN (yl.getD k.toNat lockT.dflt)) then rcmp (kK (xl.getD i.toNat lockT.dflt)) (kK (yl.getD k.toNat lockT.dflt)) == (0 : Int) else false then (bif decide ((0 : Int) ≤ k ∧ k < (yl.length : Int)) then (bif decide ((kK (yl.getD k.toNat lockT.dflt)).length ≤ 1000000) then (bif decide ((j + 1) * 2 * 32 ≤ 281474976710656) then (some ((Ex.normal, [V.ptr 0 0, V.ptr 1 0, V.ptr 2 0, V.ptr 3 0, V.si .i64 (IntKind.i64.wrap (i + (1 : Int))), V.si .i64 (IntKind.i64.wrap (k + (1 : Int)))], [some [V.si .i64 xu, V.slst .ro ity xe, V.slst .ro conf xc, V.si .i64 xt, V.si .i64 xk, V.slst .ro lockT xl], some [V.si .i64 yu, V.slst .ro ity ye, V.slst .ro conf yc, V.si .i64 yt, V.si .i64 yk, V.slst .ro lockT yl], some [V.i .i64 (0 : Int), V.lst .full [], V.lst .full [], V.i .i64 (0 : Int), V.i .i64 (0 : Int), V.lst .full []], some [V.si .i64 u, V.bs true 0 0 j0, V.bs true 1 0 j1, V.si .i64 t, V.si .i64 c, V.bs true 2 0 (j + (1 : Nat))]], [some (Bf.live (.arr ity l0)), some (Bf.live (.arr conf l1)), some (Bf.live (.arr lockT (List.take j (List.drop (0) l) ++ [yl.getD k.toNat lockT.dflt])))], 168, 0, 0))) else none) else none) else none) else (bif decide ((0 : Int) ≤ k ∧ k < (yl.length : Int)) then (bif decide ((kK (yl.getD k.toNat lockT.dflt)).length ≤ 1000000) then (bif decide ((j + 1) * 2 * 32 ≤ 281474976710656) then (some ((Ex.normal, [V.ptr 0 0, V.ptr 1 0, V.ptr 2 0, V.ptr 3 0, V.si .i64 i, V.si .i64 (IntKind.i64.wrap (k + (1 : Int)))], [some [V.si .i64 xu, V.slst .ro ity xe, V.slst .ro conf xc, V.si .i64 xt, V.si .i64 xk, V.slst .ro lockT xl], some [V.si .i64 yu, V.slst .ro ity ye, V.slst .ro conf yc, V.si .i64 yt, V.si .i64 yk, V.slst .ro lockT yl], some [V.i .i64 (0 : Int), V.lst .full [], V.lst .full [], V.i .i64 (0 : Int), V.i .i64 (0 : Int), V.lst .full []], some [V.si .i64 u, V.bs true 0 0 j0, V.bs true 1 0 j1, V.si .i64 t, V.si .i64 c, V.bs true 2 0 (j + (1 : Nat))]], [some (Bf.live (.arr ity l0)), some (Bf.live (.arr conf l1)), some (Bf.live (.arr lockT (List.take j (List.drop (0) l) ++ [yl.getD k.toNat lockT.dflt])))], 168, 0, 0))) else none) else none) else none)) else none) else none) else none) else (bif decide ((0 : Int) ≤ k ∧ k < (yl.length : Int)) then (bif decide ((kK (yl.getD k.toNat lockT.dflt)).length ≤ 1000000) then (bif decide ((j + 1) * 2 * 32 ≤ 281474976710656) then (some ((Ex.normal, [V.ptr 0 0, V.ptr 1 0, V.ptr 2 0, V.ptr 3 0, V.si .i64 i, V.si .i64 (IntKind.i64.wrap (k + (1 : Int)))], [some [V.si .i64 xu, V.slst .ro ity xe, V.slst .ro conf xc, V.si .i64 xt, V.si .i64 xk, V.slst .ro lockT xl], some [V.si .i64 yu, V.slst .ro ity ye, V.slst .ro conf yc, V.si .i64 yt, V.si .i64 yk, V.slst .ro lockT yl], some [V.i .i64 (0 : Int), V.lst .full [], V.lst .full [], V.i .i64 (0 : Int), V.i .i64 (0 : Int), V.lst .full []], some [V.si .i64 u, V.bs true 0 0 j0, V.bs true 1 0 j1, V.si .i64 t, V.si .i64 c, V.bs true 2 0 (j + (1 : Nat))]], [some (Bf.live (.arr ity l0)), some (Bf.live (.arr conf l1)), some (Bf.live (.arr lockT (List.take j (List.drop (0) l) ++ [yl.getD k.toNat lockT.dflt])))], 168, 0, 0))) else none) else none) else none))) else none) else none) else none) else (bif decide (i < (xl.length : Int)) then (bif decide ((0 : Int) ≤ i ∧ i < (xl.length : Int)) then (bif decide ((0 : Int) ≤ k ∧ k < (yl.length : Int)) then (bif (some (!(kN (xl.getD i.toNat lockT.dflt)) == (kN (yl.getD k.toNat lockT.dflt)) || decide (List.length (kK (xl.getD i.toNat lockT.dflt)) ≤ 1000000 ∧ List.length (kK (yl.getD k.toNat lockT.dflt)) ≤ 1000000))).getD true then (bif bif (kN (xl.getD i.toNat lockT.dflt)) == (kN (yl.getD k.toNat lockT.dflt)) then rcmp (kK (xl.getD i.toNat lockT.dflt)) (kK (yl.getD k.toNat lockT.dflt)) == (0 : Int) else false then (bif decide ((0 : Int) ≤ k ∧ k < (yl.length : Int)) then (bif decide ((kK (yl.getD k.toNat lockT.dflt)).length ≤ 1000000) then (bif decide ((j + 1) * 2 * 32 ≤ 281474976710656) then (some ((Ex.normal, [V.ptr 0 0, V.ptr 1 0, V.ptr 2 0, V.ptr 3 0, V.si .i64 (IntKind.i64.wrap (i + (1 : Int))), V.si .i64 (IntKind.i64.wrap (k + (1 : Int)))], [some [V.si .i64 xu, V.slst .ro ity xe, V.slst .ro conf xc, V.si .i64 xt, V.si .i64 xk, V.slst .ro lockT xl], some [V.si .i64 yu, V.slst .ro ity ye, V.slst .ro conf yc, V.si .i64 yt, V.si .i64 yk, V.slst .ro lockT yl], some [V.i .i64 (0 : Int), V.lst .full [], V.lst .full [], V.i .i64 (0 : Int), V.i .i64 (0 : Int), V.lst .full []], some [V.si .i64 u, V.bs true 0 0 j0, V.bs true 1 0 j1, V.si .i64 t, V.si .i64 c, V.bs true 2 0 (j + (1 : Nat))]], [some (Bf.live (.arr ity l0)), some (Bf.live (.arr conf l1)), some (Bf.live (.arr lockT (List.take j (List.drop (0) l) ++ [yl.getD k.toNat lockT.dflt])))], 168, 0, 0))) else none) else none) else none) else (bif decide ((0 : Int) ≤ k ∧ k < (yl.length : Int)) then (bif decide ((kK (yl.getD k.toNat lockT.dflt)).length ≤ 1000000) then (bif decide ((j + 1) * 2 * 32 ≤ 281474976710656) then (some ((Ex.normal, [V.ptr 0 0, V.ptr 1 0, V.ptr 2 0, V.ptr 3 0, V.si .i64 i, V.si .i64 (IntKind.i64.wrap (k + (1 : Int)))], [some [V.si .i64 xu, V.slst .ro ity xe, V.slst .ro conf xc, V.si .i64 xt, V.si .i64 xk, V.slst .ro lockT xl], some [V.si .i64 yu, V.slst .ro ity ye, V.slst .ro conf yc, V.si .i64 yt, V.si .i64 yk, V.slst .ro lockT yl], some [V.i .i64 (0 : Int), V.lst .full [], V.lst .full [], V.i .i64 (0 : Int), V.i .i64 (0 : Int), V.lst .full []], some [V.si .i64 u, V.bs true 0 0 j0, V.bs true 1 0 j1, V.si .i64 t, V.si .i64 c, V.bs true 2 0 (j + (1 : Nat))]], [some (Bf.live (.arr ity l0)), some (Bf.live (.arr conf l1)), some (Bf.live (.arr lockT (List.take j (List.drop (0) l) ++ [yl.getD k.toNat lockT.dflt])))], 168, 0, 0))) else none) else none) else none)) else none) else none) else none) else (bif decide ((0 : Int) ≤ k ∧ k < (yl.length : Int)) then (bif decide ((kK (yl.getD k.toNat lockT.dflt)).length ≤ 1000000) then (bif decide ((j + 1) * 2 * 32 ≤ 281474976710656) then (some ((Ex.normal, [V.ptr 0 0, V.ptr 1 0, V.ptr 2 0, V.ptr 3 0, V.si .i64 i, V.si .i64 (IntKind.i64.wrap (k + (1 : Int)))], [some [V.si .i64 xu, V.slst .ro ity xe, V.slst .ro conf xc, V.si .i64 xt, V.si .i64 xk, V.slst .ro lockT xl], some [V.si .i64 yu, V.slst .ro ity ye, V.slst .ro conf yc, V.si .i64 yt, V.si .i64 yk, V.slst .ro lockT yl], some [V.i .i64 (0 : Int), V.lst .full [], V.lst .full [], V.i .i64 (0 : Int), V.i .i64 (0 : Int), V.lst .full []], some [V.si .i64 u, V.bs true 0 0 j0, V.bs true 1 0 j1, V.si .i64 t, V.si .i64 c, V.bs true 2 0 (j + (1 : Nat))]], [some (Bf.live (.arr ity l0)), some (Bf.live (.arr conf l1)), some (Bf.live (.arr lockT (List.take j (List.drop (0) l) ++ [yl.getD k.toNat lockT.dflt])))], 168, 0, 0))) else none) else none) else none)))) else (bif decide (k < (yl.length : Int)) then (bif k == (yl.length : Int) then (bif decide ((0 : Int) ≤ i ∧ i < (xl.length : Int)) then (bif decide ((kK (xl.getD i.toNat lockT.dflt)).length ≤ 1000000) then (bif decide ((j + 1) * 2 * 32 ≤ 281474976710656) then (some ((Ex.normal, [V.ptr 0 0, V.ptr 1 0, V.ptr 2 0, V.ptr 3 0, V.si .i64 (IntKind.i64.wrap (i + (1 : Int))), V.si .i64 k], [some [V.si .i64 xu, V.slst .ro ity xe, V.slst .ro conf xc, V.si .i64 xt, V.si .i64 xk, V.slst .ro lockT xl], some [V.si .i64 yu, V.slst .ro ity ye, V.slst .ro conf yc, V.si .i64 yt, V.si .i64 yk, V.slst .ro lockT yl], some [V.i .i64 (0 : Int), V.lst .full [], V.lst .full [], V.i .i64 (0 : Int), V.i .i64 (0 : Int), V.lst .full []], some [V.si .i64 u, V.bs true 0 0 j0, V.bs true 1 0 j1, V.si .i64 t, V.si .i64 c, V.bs true 2 0 (j + (1 : Nat))]], [some (Bf.live (.arr ity l0)), some (Bf.live (.arr conf l1)), some (Bf.live (.arr lockT (List.take j (List.drop (0) l) ++ [xl.getD i.toNat lockT.dflt])))], 168, 0, 0))) else none) else none) else none) else (bif decide (i < (xl.length : Int)) then (bif decide ((0 : Int) ≤ i ∧ i < (xl.length : Int)) then (bif decide ((0 : Int) ≤ k ∧ k < (yl.length : Int)) then (bif decide ((kK (xl.getD i.toNat lockT.dflt)).length ≤ 1000000 ∧ (kK (yl.getD k.toNat lockT.dflt)).length ≤ 1000000) then (bif beforeD (xl.getD i.toNat lockT.dflt) (yl.getD k.toNat lockT.dflt) then (bif decide ((0 : Int) ≤ i ∧ i < (xl.length : Int)) then (bif decide ((kK (xl.getD i.toNat lockT.dflt)).length ≤ 1000000) then (bif decide ((j + 1) * 2 * 32 ≤ 281474976710656) then (some ((Ex.normal, [V.ptr 0 0, V.ptr 1 0, V.ptr 2 0, V.ptr 3 0, V.si .i64 (IntKind.i64.wrap (i + (1 : Int))), V.si .i64 k], [some [V.si .i64 xu, V.slst .ro ity xe, V.slst .ro conf xc, V.si .i64 xt, V.si .i64 xk, V.slst .ro lockT xl], some [V.si .i64 yu, V.slst .ro ity ye, V.slst .ro conf yc, V.si .i64 yt, V.si .i64 yk, V.slst .ro lockT yl], some [V.i .i64 (0 : Int), V.lst .full [], V.lst .full [], V.i .i64 (0 : Int), V.i .i64 (0 : Int), V.lst .full []], some [V.si .i64 u, V.bs true 0 0 j0, V.bs true 1 0 j1, V.si .i64 t, V.si .i64 c, V.bs true 2 0 (j + (1 : Nat))]], [some (Bf.live (.arr ity l0)), some (Bf.live (.arr conf l1)), some (Bf.live (.arr lockT (List.take j (List.drop (0) l) ++ [xl.getD i.toNat lockT.dflt])))], 168, 0, 0))) else none) else none) else none) else (bif decide (i < (xl.length : Int)) then (bif decide ((0 : Int) ≤ i ∧ i < (xl.length : Int)) then (bif decide ((0 : Int) ≤ k ∧ k < (yl.length : Int)) then (bif (some (!(kN (xl.getD i.toNat lockT.dflt)) == (kN (yl.getD k.toNat lockT.dflt)) || decide (List.length (kK (xl.getD i.toNat lockT.dflt)) ≤ 1000000 ∧ List.length (kK (yl.getD k.toNat lockT.dflt)) ≤ 1000000))).getD true then (bif bif (kN (xl.getD i.toNat lockT.dflt)) == (kN (yl.getD k.toNat lockT.dflt)) then rcmp (kK (xl.getD i.toNat lockT.dflt)) (kK (yl.getD k.toNat lockT.dflt)) == (0 : Int) else false then (bif decide ((0 : Int) ≤ k ∧ k < (yl.length : Int)) then (bif decide ((kK (yl.getD k.toNat lockT.dflt)).length ≤ 1000000) then (bif decide ((j + 1) * 2 * 32 ≤ 281474976710656) then (some ((Ex.normal, [V.ptr 0 0, V.ptr 1 0, V.ptr 2 0, V.ptr 3 0, V.si .i64 (IntKind.i64.wrap (i + (1 : Int))), V.si .i64 (IntKind.i64.wrap (k + (1 : Int)))], [some [V.si .i64 xu, V.slst .ro ity xe, V.slst .ro conf xc, V.si .i64 xt, V.si .i64 xk, V.slst .ro lockT xl], some [V.si .i64 yu, V.slst .ro ity ye, V.slst .ro conf yc, V.si .i64 yt, V.si .i64 yk, V.slst .ro lockT yl], some [V.i .i64 (0 : Int), V.lst .full [], V.lst .full [], V.i .i64 (0 : Int), V.i .i64 (0 : Int), V.lst .full []], some [V.si .i64 u, V.bs true 0 0 j0, V.bs true 1 0 j1, V.si .i64 t, V.si .i64 c, V.bs true 2 0 (j + (1 : Nat))]], [some (Bf.live (.arr ity l0)), some (Bf.live (.arr conf l1)), some (Bf.live (.arr lockT (List.take j (List.drop (0) l) ++ [yl.getD k.toNat lockT.dflt])))], 168, 0, 0))) else none) else none) else none) else (bif decide ((0 : Int) ≤ k ∧ k < (yl.length : Int)) then (bif decide ((kK (yl.getD k.toNat lockT.dflt)).length ≤ 1000000) then (bif decide ((j + 1) * 2 * 32 ≤ 281474976710656) then (some ((Ex.normal, [V.ptr 0 0, V.ptr 1 0, V.ptr 2 0, V.ptr 3 0, V.si .i64 i, V.si .i64 (IntKind.i64.wrap (k + (1 : Int)))], [some [V.si .i64 xu, V.slst .ro ity xe, V.slst .ro conf xc, V.si .i64 xt, V.si .i64 xk, V.slst .ro lockT xl], some [V.si .i64 yu, V.slst .ro ity ye, V.slst .ro conf yc, V.si .i64 yt, V.si .i64 yk, V.slst .ro lockT yl], some [V.i .i64 (0 : Int), V.lst .full [], V.lst .full [], V.i .i64 (0 : Int), V.i .i64 (0 : Int), V.lst .full []], some [V.si .i64 u, V.bs true 0 0 j0, V.bs true 1 0 j1, V.si .i64 t, V.si .i64 c, V.bs true 2 0 (j + (1 : Nat))]], [some (Bf.live (.arr ity l0)), some (Bf.live (.arr conf l1)), some (Bf.live (.arr lockT (List.take j (List.drop (0) l) ++ [yl.getD k.toNat lockT.dflt])))], 168, 0, 0))) else none) else none) else none)) else none) else none) else none) else (bif decide ((0 : Int) ≤ k ∧ k < (yl.length : Int)) then (bif decide ((kK (yl.getD k.toNat lockT.dflt)).length ≤ 1000000) then (bif decide ((j + 1) * 2 * 32 ≤ 281474976710656) then (some ((Ex.normal, [V.ptr 0 0, V.ptr 1 0, V.ptr 2 0, V.ptr 3 0, V.si .i64 i, V.si .i64 (IntKind.i64.wrap (k + (1 : Int)))], [some [V.si .i64 xu, V.slst .ro ity xe, V.slst .ro conf xc, V.si .i64 xt, V.si .i64 xk, V.slst .ro lockT xl], some [V.si .i64 yu, V.slst .ro ity ye, V.slst .ro conf yc, V.si .i64 yt, V.si .i64 yk, V.slst .ro lockT yl], some [V.i .i64 (0 : Int), V.lst .full [], V.lst .full [], V.i .i64 (0 : Int), V.i .i64 (0 : Int), V.lst .full []], some [V.si .i64 u, V.bs true 0 0 j0, V.bs true 1 0 j1, V.si .i64 t, V.si .i64 c, V.bs true 2 0 (j + (1 : Nat))]], [some (Bf.live (.arr ity l0)), some (Bf.live (.arr conf l1)), some (Bf.live (.arr lockT (List.take j (List.drop (0) l) ++ [yl.getD k.toNat lockT.dflt])))], 168, 0, 0))) else none) else none) else none))) else none) else none) else none) else (bif decide (i < (xl.length : Int)) then (bif decide ((0 : Int) ≤ i ∧ i < (xl.length : Int)) then (bif decide ((0 : Int) ≤ k ∧ k < (yl.length : Int)) then (bif (some (!(kN (xl.getD i.toNat lockT.dflt)) == (kN (yl.getD k.toNat lockT.dflt)) || decide (List.length (kK (xl.getD i.toNat lockT.dflt)) ≤ 1000000 ∧ List.length (kK (yl.getD k.toNat lockT.dflt)) ≤ 1000000))).getD true then (bif bif (kN (xl.getD i.toNat lockT.dflt)) == (kN (yl.getD k.toNat lockT.dflt)) then rcmp (kK (xl.getD i.toNat lockT.dflt)) (kK (yl.getD k.toNat lockT.dflt)) == (0 : Int) else false then (bif decide ((0 : Int) ≤ k ∧ k < (yl.length : Int)) then (bif decide ((kK (yl.getD k.toNat lockT.dflt)).length ≤ 1000000) then (bif decide ((j + 1) * 2 * 32 ≤ 281474976710656) then (some ((Ex.normal, [V.ptr 0 0, V.ptr 1 0, V.ptr 2 0, V.ptr 3 0, V.si .i64 (IntKind.i64.wrap (i + (1 : Int))), V.si .i64 (IntKind.i64.wrap (k + (1 : Int)))], [some [V.si .i64 xu, V.slst .ro ity xe, V.slst .ro conf xc, V.si .i64 xt, V.si .i64 xk, V.slst .ro lockT xl], some [V.si .i64 yu, V.slst .ro ity ye, V.slst .ro conf yc, V.si .i64 yt, V.si .i64 yk, V.slst .ro lockT yl], some [V.i .i64 (0 : Int), V.lst .full [], V.lst .full [], V.i .i64 (0 : Int), V.i .i64 (0 : Int), V.lst .full []], some [V.si .i64 u, V.bs true 0 0 j0, V.bs true 1 0 j1, V.si .i64 t, V.si .i64 c, V.bs true 2 0 (j + (1 : Nat))]], [some (Bf.live (.arr ity l0)), some (Bf.live (.arr conf l1)), some (Bf.live (.arr lockT (List.take j (List.drop (0) l) ++ [yl.getD k.toNat lockT.dflt])))], 168, 0, 0))) else none) else none) else none) else (bif decide ((0 : Int) ≤ k ∧ k < (yl.length : Int)) then (bif decide ((kK (yl.getD k.toNat lockT.dflt)).length ≤ 1000000) then (bif decide ((j + 1) * 2 * 32 ≤ 281474976710656) then (some ((Ex.normal, [V.ptr 0 0, V.ptr 1 0, V.ptr 2 0, V.ptr 3 0, V.si .i64 i, V.si .i64 (IntKind.i64.wrap (k + (1 : Int)))], [some [V.si .i64 xu, V.slst .ro ity xe, V.slst .ro conf xc, V.si .i64 xt, V.si .i64 xk, V.slst .ro lockT xl], some [V.si .i64 yu, V.slst .ro ity ye, V.slst .ro conf yc, V.si .i64 yt, V.si .i64 yk, V.slst .ro lockT yl], some [V.i .i64 (0 : Int), V.lst .full [], V.lst .full [], V.i .i64 (0 : Int), V.i .i64 (0 : Int), V.lst .full []], some [V.si .i64 u, V.bs true 0 0 j0, V.bs true 1 0 j1, V.si .i64 t, V.si .i64 c, V.bs true 2 0 (j + (1 : Nat))]], [some (Bf.live (.arr ity l0)), some (Bf.live (.arr conf l1)), some (Bf.live (.arr lockT (List.take j (List.drop (0) l) ++ [yl.getD k.toNat lockT.dflt])))], 168, 0, 0))) else none) else none) else none)) else none) else none) else none) else (bif decide ((0 : Int) ≤ k ∧ k < (yl.length : Int)) then (bif decide ((kK (yl.getD k.toNat lockT.dflt)).length ≤ 1000000) then (bif decide ((j + 1) * 2 * 32 ≤ 281474976710656) then (some ((Ex.normal, [V.ptr 0 0, V.ptr 1 0, V.ptr 2 0, V.ptr 3 0, V.si .i64 i, V.si .i64 (IntKind.i64.wrap (k + (1 : Int)))], [some [V.si .i64 xu, V.slst .ro ity xe, V.slst .ro conf xc, V.si .i64 xt, V.si .i64 xk, V.slst .ro lockT xl], some [V.si .i64 yu, V.slst .ro ity ye, V.slst .ro conf yc, V.si .i64 yt, V.si .i64 yk, V.slst .ro lockT yl], some [V.i .i64 (0 : Int), V.lst .full [], V.lst .full [], V.i .i64 (0 : Int), V.i .i64 (0 : Int), V.lst .full []], some [V.si .i64 u, V.bs true 0 0 j0, V.bs true 1 0 j1, V.si .i64 t, V.si .i64 c, V.bs true 2 0 (j + (1 : Nat))]], [some (Bf.live (.arr ity l0)), some (Bf.live (.arr conf l1)), some (Bf.live (.arr lockT (List.take j (List.drop (0) l) ++ [yl.getD k.toNat lockT.dflt])))], 168, 0, 0))) else none) else none) else none)))) else (some ((Ex.exit 4, [V.ptr 0 0, V.ptr 1 0], [some [V.i .i64 (0 : Int), V.lst .full [], V.lst .full [], V.i .i64 (0 : Int), V.i .i64 (0 : Int), V.lst .full []], some [V.si .i64 u, V.bs true 0 0 j0, V.bs true 1 0 j1, V.si .i64 t, V.si .i64 c, V.bs true 2 0 j]], [some (Bf.live (.arr ity l0)), some (Bf.live (.arr conf l1)), some (Bf.live (.arr lockT l))], 168, 0, 0))))) := by kernel_rfl
theorem rn_rJ2_c (i k : Int) (xu : Int) (xe : List Int) (xc : List (Ty.den conf)) (xt xk : Int) (xl : List (Ty.den lockT)) (yu : Int) (ye : List Int) (yc : List (Ty.den conf)) (yt yk : Int) (yl : List (Ty.den lockT)) (u t c : Int) (j0 j1 j : Nat) (l0 : List Int) (l1 : List (Ty.den conf)) (l : List (Ty.den lockT)) {e : Ex} {vs : List V} {ob : Ob} {nm : Nm} {n' kh kt : Nat} (h : (rn_rJ2 i k xu xe xc xt xk xl yu ye yc yt yk yl u t c j0 j1 j l0 l1 l).run = some (e, vs, ob, nm, n', kh, kt)) : SemC Tryd.prog Γ (lp 17 2) (st_rJ2 i k xu xe xc xt xk xl yu ye yc yt yk yl u t c j0 j1 j l0 l1 l) e.to (St.of n' (lve_rJ2 e) vs ob nm kh kt) := SemC.of_evM cfg57_ok Tryd.func17 bd_rJ2 li_rJ2 h
end L
end Go.Proofs.YthjiodeaepigmaaDoor

/- Package label: the reference's Join: its last loop; Join, printed. -/
set_option linter.unusedVariables false
set_option linter.unusedSimpArgs false
set_option maxRecDepth 100000
set_option maxHeartbeats 4000000
namespace Go.Proofs.YthjiodeaepigmaaDoor
open Go
namespace L
abbrev pre_rJ2 (i k : Int) (xu : Int) (xe : List Int) (xc : List (Ty.den conf)) (xt xk : Int) (xl : List (Ty.den lockT)) (yu : Int) (ye : List Int) (yc : List (Ty.den conf)) (yt yk : Int) (yl : List (Ty.den lockT)) (u t c : Int) (j0 j1 j : Nat) (l0 : List Int) (l1 : List (Ty.den conf)) (l : List (Ty.den lockT)) : Prop := i = 0 ∧ k = 0 ∧ j = 0 ∧ l = [] ∧ szL xl ∧ szL yl ∧ locksD xl = true ∧ locksD yl = true
def rs_rJ2 (i k : Int) (xu : Int) (xe : List Int) (xc : List (Ty.den conf)) (xt xk : Int) (xl : List (Ty.den lockT)) (yu : Int) (ye : List Int) (yc : List (Ty.den conf)) (yt yk : Int) (yl : List (Ty.den lockT)) (u t c : Int) (j0 j1 j : Nat) (l0 : List Int) (l1 : List (Ty.den conf)) (l : List (Ty.den lockT)) : Ex × St := (.exit 4, St.of 168 (lve_rJ2 (.exit 4)) [.ptr 0 0, .ptr 1 0] [some [.i .i64 0, .lst .full [], .lst .full [], .i .i64 0, .i .i64 0, .lst .full []], some [.si .i64 u, .bs true 0 0 j0, .bs true 1 0 j1, .si .i64 t, .si .i64 c, .bs true 2 0 (unD cmpL cbL xl yl).length]] [some (.live (.arr ity l0)), some (.live (.arr conf l1)), some (.live (.arr lockT (unD cmpL cbL xl yl)))] hp_rJ2.kh hp_rJ2.kt)
def res_rJ2 (i k : Int) (xu : Int) (xe : List Int) (xc : List (Ty.den conf)) (xt xk : Int) (xl : List (Ty.den lockT)) (yu : Int) (ye : List Int) (yc : List (Ty.den conf)) (yt yk : Int) (yl : List (Ty.den lockT)) (u t c : Int) (j0 j1 j : Nat) (l0 : List Int) (l1 : List (Ty.den conf)) (l : List (Ty.den lockT)) : Tr (Ex × St) := .br (decide (pre_rJ2 i k xu xe xc xt xk xl yu ye yc yt yk yl u t c j0 j1 j l0 l1 l)) (.leaf (some (.exit 4, St.of 168 (lve_rJ2 (.exit 4)) [.ptr 0 0, .ptr 1 0] [some [.i .i64 0, .lst .full [], .lst .full [], .i .i64 0, .i .i64 0, .lst .full []], some [.si .i64 u, .bs true 0 0 j0, .bs true 1 0 j1, .si .i64 t, .si .i64 c, .bs true 2 0 (unD cmpL cbL xl yl).length]] [some (.live (.arr ity l0)), some (.live (.arr conf l1)), some (.live (.arr lockT (unD cmpL cbL xl yl)))] hp_rJ2.kh hp_rJ2.kt))) (.leaf none)
def ent_rJ2 : LEnt := LEnt.by hp_rJ2 fun ⟨(_, _, _, _, i, k, _), ((xu, xe, xc, xt, xk, xl, _), (yu, ye, yc, yt, yk, yl, _), (_, _, _, _, _, _, _), (u, j0, j1, t, c, j, _), _), (l0, l1, l, _)⟩ => res_rJ2 i k xu xe xc xt xk xl yu ye yc yt yk yl u t c j0 j1 j l0 l1 l
theorem ent_rJ2_ok (hgo : ∀ (i k : Int) (xu : Int) (xe : List Int) (xc : List (Ty.den conf)) (xt xk : Int) (xl : List (Ty.den lockT)) (yu : Int) (ye : List Int) (yc : List (Ty.den conf)) (yt yk : Int) (yl : List (Ty.den lockT)) (u t c : Int) (j0 j1 j : Nat) (l0 : List Int) (l1 : List (Ty.den conf)) (l : List (Ty.den lockT)), pre_rJ2 i k xu xe xc xt xk xl yu ye yc yt yk yl u t c j0 j1 j l0 l1 l → SemL Tryd.prog Γ (lp 17 2) (st_rJ2 i k xu xe xc xt xk xl yu ye yc yt yk yl u t c j0 j1 j l0 l1 l) (rs_rJ2 i k xu xe xc xt xk xl yu ye yc yt yk yl u t c j0 j1 j l0 l1 l).1.to (rs_rJ2 i k xu xe xc xt xk xl yu ye yc yt yk yl u t c j0 j1 j l0 l1 l).2) : EntOk Tryd.prog Γ (lp 17 2) ent_rJ2 := LEnt.by_ok fun ⟨(_, _, _, _, i, k, _), ((xu, xe, xc, xt, xk, xl, _), (yu, ye, yc, yt, yk, yl, _), (_, _, _, _, _, _, _), (u, j0, j1, t, c, j, _), _), (l0, l1, l, _)⟩ _ _ h_ => SemL.br (out := rs_rJ2 i k xu xe xc xt xk xl yu ye yc yt yk yl u t c j0 j1 j l0 l1 l) rfl (hgo i k xu xe xc xt xk xl yu ye yc yt yk yl u t c j0 j1 j l0 l1 l) h_
theorem rJ2_go (i k : Int) (xu : Int) (xe : List Int) (xc : List (Ty.den conf)) (xt xk : Int) (xl : List (Ty.den lockT)) (yu : Int) (ye : List Int) (yc : List (Ty.den conf)) (yt yk : Int) (yl : List (Ty.den lockT)) (u t c : Int) (j0 j1 j : Nat) (l0 : List Int) (l1 : List (Ty.den conf)) (l : List (Ty.den lockT)) (h : pre_rJ2 i k xu xe xc xt xk xl yu ye yc yt yk yl u t c j0 j1 j l0 l1 l) : SemL Tryd.prog Γ (lp 17 2) (st_rJ2 i k xu xe xc xt xk xl yu ye yc yt yk yl u t c j0 j1 j l0 l1 l) (rs_rJ2 i k xu xe xc xt xk xl yu ye yc yt yk yl u t c j0 j1 j l0 l1 l).1.to (rs_rJ2 i k xu xe xc xt xk xl yu ye yc yt yk yl u t c j0 j1 j l0 l1 l).2 := by
  obtain ⟨rfl, rfl, rfl, rfl, hx, hy, vx, vy⟩ := h
  have hla := hx.1
  have hlb := hy.1
  refine SemL.ind (A := Nat × Nat × List (Ty.den lockT)) (fun p => st_rJ2 p.1 p.2.1 xu xe xc xt xk xl yu ye yc yt yk yl u t c j0 j1 p.2.2.length l0 l1 p.2.2) (fun p => xl.length - p.1 + (yl.length - p.2.1)) (fun _ => rs_rJ2 0 0 xu xe xc xt xk xl yu ye yc yt yk yl u t c j0 j1 0 l0 l1 [])
    (fun p => p.1 ≤ xl.length ∧ p.2.1 ≤ yl.length ∧ p.2.2.length ≤ p.1 + p.2.1 ∧ p.2.2 ++ unD cmpL cbL (xl.drop p.1) (yl.drop p.2.1) = unD cmpL cbL xl yl) ?_ (0, 0, []) ⟨Nat.zero_le _, Nat.zero_le _, Nat.le_refl _, rfl⟩
  rintro ⟨i, k, l⟩ ⟨i1, k1, l1', inv⟩
  have eq := rn_rJ2_eq i k xu xe xc xt xk xl yu ye yc yt yk yl u t c j0 j1 l.length l0 l1 l
  have i1 : i ≤ xl.length := i1
  have k1 : k ≤ yl.length := k1
  have l1' : l.length ≤ i + k := l1'
  have hj : decide ((l.length + 1) * 2 * 32 ≤ 281474976710656) = true := decide_eq_true (by omega)
  have wi : IntKind.i64.wrap ((i : Int) + 1) = ((i + 1 : Nat) : Int) := by rw [wrap_in (by omega) (by omega)]; rfl
  have wk : IntKind.i64.wrap ((k : Int) + 1) = ((k + 1 : Nat) : Int) := by rw [wrap_in (by omega) (by omega)]; rfl
  have inv : l ++ unD cmpL cbL (xl.drop i) (yl.drop k) = unD cmpL cbL xl yl := inv
  have len1 : ∀ z : Ty.den lockT, (l ++ [z]).length = l.length + 1 := fun z => by rw [List.length_append]; rfl
  by_cases hi : i < xl.length
  · have da : xl.drop i = (xl.getD i lockT.dflt) :: xl.drop (i + 1) := by rw [getD_eq hi lockT.dflt]; exact List.drop_eq_getElem_cons hi
    have ka : (kK (xl.getD i lockT.dflt)).length ≤ 1000000 := hx.2 _ (getD_mem hi lockT.dflt)
    have ra := (locks_out vx _ (getD_mem hi lockT.dflt)).1
    have b1 : decide ((i : Int) < (Nat.cast xl.length : Int)) = true := decide_eq_true (by omega)
    have b2 : decide ((0 : Int) ≤ (i : Int) ∧ (i : Int) < (Nat.cast xl.length : Int)) = true := decide_eq_true (by omega)
    by_cases hk : k < yl.length
    · have db : yl.drop k = (yl.getD k lockT.dflt) :: yl.drop (k + 1) := by rw [getD_eq hk lockT.dflt]; exact List.drop_eq_getElem_cons hk
      have kb : (kK (yl.getD k lockT.dflt)).length ≤ 1000000 := hy.2 _ (getD_mem hk lockT.dflt)
      have rb := (locks_out vy _ (getD_mem hk lockT.dflt)).1
      have b3 : ((k : Int) == (Nat.cast yl.length : Int)) = false := beq_eq_false_iff_ne.2 (by omega)
      have b4 : decide ((0 : Int) ≤ (k : Int) ∧ (k : Int) < (Nat.cast yl.length : Int)) = true := decide_eq_true (by omega)
      have bc := before_cmp (xl.getD i lockT.dflt) (yl.getD k lockT.dflt) (keys_in ra) (keys_in rb) ka kb
      have be := beqR_iff ra rb
      have e0 : (bif kN (xl.getD i lockT.dflt) == kN (yl.getD k lockT.dflt) then rcmp (kK (xl.getD i lockT.dflt)) (kK (yl.getD k lockT.dflt)) == (0 : Int) else false) = beqR (xl.getD i lockT.dflt) (yl.getD k lockT.dflt) := rfl
      rw [Int.toNat_natCast, Int.toNat_natCast, wi, wk, b1, b2, b3, b4, decide_eq_true ka, decide_eq_true kb, decide_eq_true (And.intro ka kb), hj, bc, e0] at eq
      simp only [Bool.or_true, Option.getD_some, cond_true, cond_false, List.drop_zero, List.take_length] at eq
      rw [da, db, un_cons] at inv
      by_cases h1 : cmpL (xl.getD i lockT.dflt) (yl.getD k lockT.dflt) < 0
      · rw [decide_eq_true h1] at eq
        rw [if_pos h1, ← db] at inv
        exact .inl ⟨(i + 1, k, l ++ [xl.getD i lockT.dflt]), (by
      show SemC Tryd.prog Γ (lp 17 2) _ .normal (st_rJ2 ((i + 1 : Nat) : Int) ((k : Nat) : Int) xu xe xc xt xk xl yu ye yc yt yk yl u t c j0 j1 (l ++ [xl.getD i lockT.dflt]).length l0 l1 (l ++ [xl.getD i lockT.dflt]))
      rw [List.length_append]
      exact rn_rJ2_c i k xu xe xc xt xk xl yu ye yc yt yk yl u t c j0 j1 l.length l0 l1 l (eq.trans rfl)), ⟨by show i + 1 ≤ _; omega, k1, by show (l ++ [xl.getD i lockT.dflt]).length ≤ i + 1 + k; rw [len1]; omega, by rw [List.append_assoc]; exact inv⟩, by show xl.length - (i + 1) + (yl.length - k) < xl.length - i + (yl.length - k); omega, rfl⟩
      · rw [decide_eq_false h1] at eq
        rw [if_neg h1] at inv
        by_cases h2 : (xl.getD i lockT.dflt) = (yl.getD k lockT.dflt)
        · rw [be.2 h2] at eq
          rw [if_neg (by rw [cmpL_zero.2 h2]; decide)] at inv
          have inv : l ++ (xl.getD i lockT.dflt) :: unD cmpL cbL (xl.drop (i + 1)) (yl.drop (k + 1)) = unD cmpL cbL xl yl := inv
          rw [h2] at inv
          exact .inl ⟨(i + 1, k + 1, l ++ [yl.getD k lockT.dflt]), (by
      show SemC Tryd.prog Γ (lp 17 2) _ .normal (st_rJ2 ((i + 1 : Nat) : Int) ((k + 1 : Nat) : Int) xu xe xc xt xk xl yu ye yc yt yk yl u t c j0 j1 (l ++ [yl.getD k lockT.dflt]).length l0 l1 (l ++ [yl.getD k lockT.dflt]))
      rw [List.length_append]
      exact rn_rJ2_c i k xu xe xc xt xk xl yu ye yc yt yk yl u t c j0 j1 l.length l0 l1 l (eq.trans rfl)), ⟨by show i + 1 ≤ _; omega, by show k + 1 ≤ _; omega, by show (l ++ [yl.getD k lockT.dflt]).length ≤ i + 1 + (k + 1); rw [len1]; omega, by rw [List.append_assoc]; exact inv⟩, by show xl.length - (i + 1) + (yl.length - (k + 1)) < xl.length - i + (yl.length - k); omega, rfl⟩
        · have h3 : beqR (xl.getD i lockT.dflt) (yl.getD k lockT.dflt) = false := by cases h : beqR (xl.getD i lockT.dflt) (yl.getD k lockT.dflt) with | false => rfl | true => exact absurd (be.1 h) h2
          rw [h3] at eq
          have h4 : cmpL (xl.getD i lockT.dflt) (yl.getD k lockT.dflt) > 0 := by have : cmpL (xl.getD i lockT.dflt) (yl.getD k lockT.dflt) ≠ 0 := fun h => h2 (cmpL_zero.1 h); omega
          rw [if_pos h4, ← da] at inv
          exact .inl ⟨(i, k + 1, l ++ [yl.getD k lockT.dflt]), (by
      show SemC Tryd.prog Γ (lp 17 2) _ .normal (st_rJ2 ((i : Nat) : Int) ((k + 1 : Nat) : Int) xu xe xc xt xk xl yu ye yc yt yk yl u t c j0 j1 (l ++ [yl.getD k lockT.dflt]).length l0 l1 (l ++ [yl.getD k lockT.dflt]))
      rw [List.length_append]
      exact rn_rJ2_c i k xu xe xc xt xk xl yu ye yc yt yk yl u t c j0 j1 l.length l0 l1 l (eq.trans rfl)), ⟨i1, by show k + 1 ≤ _; omega, by show (l ++ [yl.getD k lockT.dflt]).length ≤ i + (k + 1); rw [len1]; omega, by rw [List.append_assoc]; exact inv⟩, by show xl.length - i + (yl.length - (k + 1)) < xl.length - i + (yl.length - k); omega, rfl⟩
    · have hk' : k = yl.length := by omega
      have b3 : ((k : Int) == (Nat.cast yl.length : Int)) = true := beq_iff_eq.2 (by omega)
      rw [Int.toNat_natCast, wi, b1, b2, b3, decide_eq_true ka, hj] at eq
      simp only [cond_true, List.drop_zero, List.take_length] at eq
      rw [da, List.drop_eq_nil_of_le (by omega : yl.length ≤ k), un_end] at inv
      exact .inl ⟨(i + 1, k, l ++ [xl.getD i lockT.dflt]), (by
      show SemC Tryd.prog Γ (lp 17 2) _ .normal (st_rJ2 ((i + 1 : Nat) : Int) ((k : Nat) : Int) xu xe xc xt xk xl yu ye yc yt yk yl u t c j0 j1 (l ++ [xl.getD i lockT.dflt]).length l0 l1 (l ++ [xl.getD i lockT.dflt]))
      rw [List.length_append]
      exact rn_rJ2_c i k xu xe xc xt xk xl yu ye yc yt yk yl u t c j0 j1 l.length l0 l1 l (eq.trans rfl)), ⟨by show i + 1 ≤ _; omega, k1, by show (l ++ [xl.getD i lockT.dflt]).length ≤ i + 1 + k; rw [len1]; omega, by show (l ++ [xl.getD i lockT.dflt]) ++ unD cmpL cbL (xl.drop (i + 1)) (yl.drop k) = _; rw [List.drop_eq_nil_of_le (by omega : yl.length ≤ k), un_end, List.append_assoc]; exact inv⟩, by show xl.length - (i + 1) + (yl.length - k) < xl.length - i + (yl.length - k); omega, rfl⟩
  · have hi' : i = xl.length := by omega
    have b1 : decide ((i : Int) < (Nat.cast xl.length : Int)) = false := decide_eq_false (by omega)
    rw [List.drop_eq_nil_of_le (by omega : xl.length ≤ i), un_nil] at inv
    by_cases hk : k < yl.length
    · have db : yl.drop k = (yl.getD k lockT.dflt) :: yl.drop (k + 1) := by rw [getD_eq hk lockT.dflt]; exact List.drop_eq_getElem_cons hk
      have kb : (kK (yl.getD k lockT.dflt)).length ≤ 1000000 := hy.2 _ (getD_mem hk lockT.dflt)
      have b3 : ((k : Int) == (Nat.cast yl.length : Int)) = false := beq_eq_false_iff_ne.2 (by omega)
      have b4 : decide ((0 : Int) ≤ (k : Int) ∧ (k : Int) < (Nat.cast yl.length : Int)) = true := decide_eq_true (by omega)
      have b5 : decide ((k : Int) < (Nat.cast yl.length : Int)) = true := decide_eq_true (by omega)
      simp only [Int.toNat_natCast, wk, b1, b3, b4, b5, decide_eq_true kb, hj, cond_true, cond_false, List.drop_zero, List.take_length] at eq
      rw [db] at inv
      exact .inl ⟨(i, k + 1, l ++ [yl.getD k lockT.dflt]), (by
      show SemC Tryd.prog Γ (lp 17 2) _ .normal (st_rJ2 ((i : Nat) : Int) ((k + 1 : Nat) : Int) xu xe xc xt xk xl yu ye yc yt yk yl u t c j0 j1 (l ++ [yl.getD k lockT.dflt]).length l0 l1 (l ++ [yl.getD k lockT.dflt]))
      rw [List.length_append]
      exact rn_rJ2_c i k xu xe xc xt xk xl yu ye yc yt yk yl u t c j0 j1 l.length l0 l1 l (eq.trans rfl)), ⟨i1, by show k + 1 ≤ _; omega, by show (l ++ [yl.getD k lockT.dflt]).length ≤ i + (k + 1); rw [len1]; omega, by show (l ++ [yl.getD k lockT.dflt]) ++ unD cmpL cbL (xl.drop i) (yl.drop (k + 1)) = _; rw [List.drop_eq_nil_of_le (by omega : xl.length ≤ i), un_nil, List.append_assoc]; exact inv⟩, by show xl.length - i + (yl.length - (k + 1)) < xl.length - i + (yl.length - k); omega, rfl⟩
    · have b3 : ((k : Int) == (Nat.cast yl.length : Int)) = true := beq_iff_eq.2 (by omega)
      have b5 : decide ((k : Int) < (Nat.cast yl.length : Int)) = false := decide_eq_false (by omega)
      simp only [b1, b3, b5, cond_true, cond_false] at eq
      rw [List.drop_eq_nil_of_le (by omega : yl.length ≤ k), List.append_nil] at inv
      refine .inr ⟨by simp [rs_rJ2, Ex.to], ?_⟩
      have inv : l = unD cmpL cbL xl yl := inv
      have := rn_rJ2_c i k xu xe xc xt xk xl yu ye yc yt yk yl u t c j0 j1 l.length l0 l1 l (eq.trans rfl)
      rw [inv] at this ⊢
      exact this
def lo58 : LOrc := (LOrc.add (LOrc.add (LOrc.add lo54 17 0 ent_rJ0) 17 1 ent_rJ1) 17 2 ent_rJ2)
theorem lo58_ok : LOrcOk Tryd.prog Γ lo58 := (LOrcOk.add (LOrcOk.add (LOrcOk.add lo54_ok 17 0 Tryd.func17 bd_rJ0 le_rJ0 (ent_rJ0_ok rJ0_go)) 17 1 Tryd.func17 bd_rJ1 le_rJ1 (ent_rJ1_ok rJ1_go)) 17 2 Tryd.func17 bd_rJ2 le_rJ2 (ent_rJ2_ok rJ2_go))
noncomputable def cfg58 : Cfg := cfgT T36 isT36 orc57 lo58
theorem cfg58_ok : CfgOk Tryd.prog Γ cfg58 := cfgT_ok T36_ok orc57_ok lo58_ok
def mkJ (xu : Int) (xe : List Int) (xc : List (Ty.den conf)) (xt xk : Int) (xl : List (Ty.den lockT)) (yu : Int) (ye : List Int) (yc : List (Ty.den conf)) (yt yk : Int) (yl : List (Ty.den lockT)) : Ty.den labT := (maxI xu yu, List.take (evJ xe ye 20).length (List.drop 0 (evJ xe ye 20)), List.take (coJ xc yc 16).length (List.drop 0 (coJ xc yc 16)), andI xt yt, andI xk yk, List.take (unD cmpL cbL xl yl).length (List.drop 0 (unD cmpL cbL xl yl)), ())
theorem c17_run (xu : Int) (xe : List Int) (xc : List (Ty.den conf)) (xt xk : Int) (xl : List (Ty.den lockT)) (yu : Int) (ye : List Int) (yc : List (Ty.den conf)) (yt yk : Int) (yl : List (Ty.den lockT)) : runL cfg58 17 [.agg [.si .i64 xu, .slst .ro ity xe, .slst .ro conf xc, .si .i64 xt, .si .i64 xk, .slst .ro lockT xl], .agg [.si .i64 yu, .slst .ro ity ye, .slst .ro conf yc, .si .i64 yt, .si .i64 yk, .slst .ro lockT yl]] = .ok (some ((some (decide (szX (mkL xu xe xc xt xk xl)) && (!vX (mkL xu xe xc xt xk xl) || decide (szX (mkL yu ye yc yt yk yl))))).getD true && ((bif !vX (mkL xu xe xc xt xk xl) then true else !vX (mkL yu ye yc yt yk yl)) || decide (((0 : Int) ≤ xt ∧ xt ≤ (255 : Int)) ∧ (0 : Int) ≤ yt ∧ yt ≤ (255 : Int)) && (decide (((0 : Int) ≤ xk ∧ xk ≤ (255 : Int)) ∧ (0 : Int) ≤ yk ∧ yk ≤ (255 : Int)) && (decide (pre_rJ0 (0 : Int) xu xe xc xt xk xl yu ye yc yt yk yl (maxI xu yu) (andI xt yt) (andI xk yk) (0) []) && (decide (pre_rJ1 (0 : Int) xu xe xc xt xk xl yu ye yc yt yk yl (maxI xu yu) (andI xt yt) (andI xk yk) (evJ xe ye (20)).length (0) (evJ xe ye (20)) []) && (decide (pre_rJ2 (0 : Int) (0 : Int) xu xe xc xt xk xl yu ye yc yt yk yl (maxI xu yu) (andI xt yt) (andI xk yk) (evJ xe ye (20)).length (coJ xc yc (16)).length (0) (evJ xe ye (20)) (coJ xc yc (16)) []) && decide (szX (mkJ xu xe xc xt xk xl yu ye yc yt yk yl))))))))) (V.tup [V.agg [V.si .i64 (bif bif !vX (mkL xu xe xc xt xk xl) then true else !vX (mkL yu ye yc yt yk yl) then (0 : Int) else bif !vX (mkJ xu xe xc xt xk xl yu ye yc yt yk yl) then (0 : Int) else maxI xu yu), V.slst .ro ity (bif bif !vX (mkL xu xe xc xt xk xl) then true else !vX (mkL yu ye yc yt yk yl) then [] else bif !vX (mkJ xu xe xc xt xk xl yu ye yc yt yk yl) then [] else List.take (evJ xe ye (20)).length (List.drop (0) (evJ xe ye (20)))), V.slst .ro conf (bif bif !vX (mkL xu xe xc xt xk xl) then true else !vX (mkL yu ye yc yt yk yl) then [] else bif !vX (mkJ xu xe xc xt xk xl yu ye yc yt yk yl) then [] else List.take (coJ xc yc (16)).length (List.drop (0) (coJ xc yc (16)))), V.si .i64 (bif bif !vX (mkL xu xe xc xt xk xl) then true else !vX (mkL yu ye yc yt yk yl) then (0 : Int) else bif !vX (mkJ xu xe xc xt xk xl yu ye yc yt yk yl) then (0 : Int) else andI xt yt), V.si .i64 (bif bif !vX (mkL xu xe xc xt xk xl) then true else !vX (mkL yu ye yc yt yk yl) then (0 : Int) else bif !vX (mkJ xu xe xc xt xk xl yu ye yc yt yk yl) then (0 : Int) else andI xk yk), V.slst .ro lockT (bif bif !vX (mkL xu xe xc xt xk xl) then true else !vX (mkL yu ye yc yt yk yl) then [] else bif !vX (mkJ xu xe xc xt xk xl yu ye yc yt yk yl) then [] else List.take (unD cmpL cbL xl yl).length (List.drop (0) (unD cmpL cbL xl yl)))], V.si .i64 (bif bif !vX (mkL xu xe xc xt xk xl) then true else !vX (mkL yu ye yc yt yk yl) then (100 : Int) else bif !vX (mkJ xu xe xc xt xk xl yu ye yc yt yk yl) then (100 : Int) else (0 : Int))]) := by kernel_rfl
end L
end Go.Proofs.YthjiodeaepigmaaDoor

