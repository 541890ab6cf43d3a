/- Parts of the library of texts, one after the other: L34, L35, L36, L37, L38, L39, L40, L41. -/
import Derived.Test.YthjiodeaepigmaaDoorLjm
/- Package label: what the loops of Same, EqualFunc, Equal, ContainsFunc leave; DeleteFunc of locks, printed. -/
set_option linter.unusedVariables false
set_option linter.unusedSimpArgs false
set_option maxRecDepth 100000
set_option maxHeartbeats 4000000
namespace Go.Proofs.YthjiodeaepigmaaDoor
open Go
namespace L
-- 
-- 
theorem scan_all {b : Code} (n : Nat) (p : Nat → Bool) (emb : Nat → St) (stR stE : St) (k : Nat) (hn : ∀ i, i < n → p i = true → SemC Tryd.prog Γ b (emb i) .normal (emb (i + 1))) (hr : ∀ i, i < n → p i = false → SemC Tryd.prog Γ b (emb i) .ret stR) (he : SemC Tryd.prog Γ b (emb n) (.exit k) stE) :
    SemL Tryd.prog Γ b (emb 0) (if allI n p = true then (Ex.exit k, stE) else (Ex.ret, stR)).1.to (if allI n p = true then (Ex.exit k, stE) else (Ex.ret, stR)).2 := by
  refine SemL.scan n 0 (Nat.zero_le _) emb p _ ?_ ?_ ?_
  · intro i _ hi _ hp
    exact hn i hi hp
  · intro i _ hi _ hp
    rw [if_neg (by rw [allI_false hi hp]; decide)]
    exact ⟨by simp [Ex.to], hr i hi hp⟩
  · intro h
    rw [if_pos (allI_true.2 fun i hi => h i (Nat.zero_le _) hi)]
    exact ⟨by simp [Ex.to], he⟩
/-- Two lists agree, element by element. -/
def eqI {α : Type} (c : α → α → Bool) (d : α) (a b : List α) : Bool := allI a.length fun i => c (a.getD i d) (b.getD i d)
def beqL (x y : Ty.den lockT) : Bool := cmpL x y == (0 : Int)
def beqC (x y : Ty.den conf) : Bool := cF x == cF y && (cC x == cC y && true)
def beqR (x y : Ty.den lockT) : Bool := bif kN x == kN y then rcmp (kK x) (kK y) == (0 : Int) else false
abbrev pre_ef (b a : List (Ty.den lockT)) (n i : Int) : Prop := n = (a.length : Int) ∧ i = 0 ∧ a.length = b.length ∧ szL a ∧ szL b
def rs_ef (b a : List (Ty.den lockT)) (n i : Int) : Ex × St := if eqI beqL lockT.dflt a b = true then (.exit 0, St.of 32 (lve_ef (.exit 0)) [] [] [] hp_ef.kh hp_ef.kt) else (.ret, St.of 32 (lve_ef (.ret)) [.b false] [] [] hp_ef.kh hp_ef.kt)
def res_ef (b a : List (Ty.den lockT)) (n i : Int) : Tr (Ex × St) := .br (decide (pre_ef b a n i)) (.br (decide (eqI beqL lockT.dflt a b = true)) (.leaf (some (.exit 0, St.of 32 (lve_ef (.exit 0)) [] [] [] hp_ef.kh hp_ef.kt))) (.leaf (some (.ret, St.of 32 (lve_ef (.ret)) [.b false] [] [] hp_ef.kh hp_ef.kt)))) (.leaf none)
theorem res_ef_run (b a : List (Ty.den lockT)) (n i : Int) (h : pre_ef b a n i) : (res_ef b a n i).run = some (rs_ef b a n i) := by
  unfold res_ef rs_ef
  rw [decide_eq_true h]
  exact (Tr.run_ite rfl rfl)
theorem res_ef_no (b a : List (Ty.den lockT)) (n i : Int) (h : ¬ pre_ef b a n i) : (res_ef b a n i).run = none := Tr.run_no h
def ent_ef : LEnt := LEnt.by hp_ef fun ⟨(b, _, a, n, i, _), _, _⟩ => res_ef b a n i
theorem ent_ef_ok (hgo : ∀ (b a : List (Ty.den lockT)) (n i : Int), pre_ef b a n i → SemL Tryd.prog Γ (lp 67 0) (st_ef b a n i) (rs_ef b a n i).1.to (rs_ef b a n i).2) : EntOk Tryd.prog Γ (lp 67 0) ent_ef := LEnt.by_ok fun ⟨(b, _, a, n, i, _), _, _⟩ ex_ s_ h_ => by
  have h_ : (res_ef b a n i).run = some (ex_, s_) := h_
  by_cases hp_ : pre_ef b a n i
  · rw [res_ef_run b a n i hp_] at h_
    obtain ⟨rfl, rfl⟩ := Prod.mk.inj (Option.some.inj h_)
    exact hgo b a n i hp_
  · rw [res_ef_no b a n i hp_] at h_
    cases h_
theorem ef_go (b a : List (Ty.den lockT)) (n i : Int) (h : pre_ef b a n i) : SemL Tryd.prog Γ (lp 67 0) (st_ef b a n i) (rs_ef b a n i).1.to (rs_ef b a n i).2 := by
  obtain ⟨rfl, rfl, hab, ha, hb⟩ := h
  have hla := ha.1
  have hk : ∀ i, i < a.length → (kK (a.getD i lockT.dflt)).length ≤ 1000000 ∧ (kK (b.getD i lockT.dflt)).length ≤ 1000000 := fun i hi => ⟨ha.2 _ (getD_mem hi lockT.dflt), hb.2 _ (getD_mem (hab ▸ hi) lockT.dflt)⟩
  refine scan_all a.length (fun i => beqL (a.getD i lockT.dflt) (b.getD i lockT.dflt)) (fun i => st_ef b a a.length (i : Nat)) _ _ 0 (fun i hi hp => ?_) (fun i hi hp => ?_) ?_
  · refine rn_ef_c b a a.length i (e := .normal) ?_
    have hw : IntKind.i64.wrap ((i : Int) + 1) = ((i + 1 : Nat) : Int) := by rw [wrap_in (by omega) (by omega)]; rfl
    rw [rn_ef_eq, hw, decide_eq_true (by omega : (i : Int) < a.length), decide_eq_true (by omega : (0 : Int) ≤ (i : Int) ∧ (i : Int) < a.length), decide_eq_true (by omega : (0 : Int) ≤ (i : Int) ∧ (i : Int) < b.length), Int.toNat_natCast, decide_eq_true (hk i hi)]
    unfold beqL at hp
    rw [hp]
    rfl
  · refine rn_ef_c b a a.length i (e := .ret) ?_
    rw [rn_ef_eq, decide_eq_true (by omega : (i : Int) < a.length), decide_eq_true (by omega : (0 : Int) ≤ (i : Int) ∧ (i : Int) < a.length), decide_eq_true (by omega : (0 : Int) ≤ (i : Int) ∧ (i : Int) < b.length), Int.toNat_natCast, decide_eq_true (hk i hi)]
    unfold beqL at hp
    rw [hp]
    rfl
  · refine rn_ef_c b a a.length a.length (e := .exit 0) ?_
    rw [rn_ef_eq, decide_eq_false (by omega)]
    rfl
abbrev pre_e1 (a b : List Int) (n i : Int) : Prop := n = (a.length : Int) ∧ i = 0 ∧ a.length = b.length ∧ a.length ≤ 1000000
def rs_e1 (a b : List Int) (n i : Int) : Ex × St := if eqI (fun x y => x == y) 0 a b = true then (.exit 0, St.of 26 (lve_e1 (.exit 0)) [] [] [] hp_e1.kh hp_e1.kt) else (.ret, St.of 26 (lve_e1 (.ret)) [.b false] [] [] hp_e1.kh hp_e1.kt)
def res_e1 (a b : List Int) (n i : Int) : Tr (Ex × St) := .br (decide (pre_e1 a b n i)) (.br (decide (eqI (fun x y => x == y) 0 a b = true)) (.leaf (some (.exit 0, St.of 26 (lve_e1 (.exit 0)) [] [] [] hp_e1.kh hp_e1.kt))) (.leaf (some (.ret, St.of 26 (lve_e1 (.ret)) [.b false] [] [] hp_e1.kh hp_e1.kt)))) (.leaf none)
theorem res_e1_run (a b : List Int) (n i : Int) (h : pre_e1 a b n i) : (res_e1 a b n i).run = some (rs_e1 a b n i) := by
  unfold res_e1 rs_e1
  rw [decide_eq_true h]
  exact (Tr.run_ite rfl rfl)
theorem res_e1_no (a b : List Int) (n i : Int) (h : ¬ pre_e1 a b n i) : (res_e1 a b n i).run = none := Tr.run_no h
def ent_e1 : LEnt := LEnt.by hp_e1 fun ⟨(a, b, n, i, _), _, _⟩ => res_e1 a b n i
theorem ent_e1_ok (hgo : ∀ (a b : List Int) (n i : Int), pre_e1 a b n i → SemL Tryd.prog Γ (lp 69 0) (st_e1 a b n i) (rs_e1 a b n i).1.to (rs_e1 a b n i).2) : EntOk Tryd.prog Γ (lp 69 0) ent_e1 := LEnt.by_ok fun ⟨(a, b, n, i, _), _, _⟩ ex_ s_ h_ => by
  have h_ : (res_e1 a b n i).run = some (ex_, s_) := h_
  by_cases hp_ : pre_e1 a b n i
  · rw [res_e1_run a b n i hp_] at h_
    obtain ⟨rfl, rfl⟩ := Prod.mk.inj (Option.some.inj h_)
    exact hgo a b n i hp_
  · rw [res_e1_no a b n i hp_] at h_
    cases h_
theorem e1_go (a b : List Int) (n i : Int) (h : pre_e1 a b n i) : SemL Tryd.prog Γ (lp 69 0) (st_e1 a b n i) (rs_e1 a b n i).1.to (rs_e1 a b n i).2 := by
  obtain ⟨rfl, rfl, hab, hla⟩ := h
  refine scan_all a.length (fun i => a.getD i 0 == b.getD i 0) (fun i => st_e1 a b a.length (i : Nat)) _ _ 0 (fun i hi hp => ?_) (fun i hi hp => ?_) ?_
  · refine rn_e1_c a b a.length i (e := .normal) ?_
    have hw : IntKind.i64.wrap ((i : Int) + 1) = ((i + 1 : Nat) : Int) := by rw [wrap_in (by omega) (by omega)]; rfl
    have hb : (a.getD i 0 != b.getD i 0) = false := by show (!(a.getD i 0 == b.getD i 0)) = false; rw [hp]; rfl
    rw [rn_e1_eq, hw, decide_eq_true (by omega : (i : Int) < a.length), decide_eq_true (by omega : (0 : Int) ≤ (i : Int) ∧ (i : Int) < a.length), decide_eq_true (by omega : (0 : Int) ≤ (i : Int) ∧ (i : Int) < b.length), Int.toNat_natCast, hb]
    rfl
  · refine rn_e1_c a b a.length i (e := .ret) ?_
    have hb : (a.getD i 0 != b.getD i 0) = true := by show (!(a.getD i 0 == b.getD i 0)) = true; rw [hp]; rfl
    rw [rn_e1_eq, decide_eq_true (by omega : (i : Int) < a.length), decide_eq_true (by omega : (0 : Int) ≤ (i : Int) ∧ (i : Int) < a.length), decide_eq_true (by omega : (0 : Int) ≤ (i : Int) ∧ (i : Int) < b.length), Int.toNat_natCast, hb]
    rfl
  · refine rn_e1_c a b a.length a.length (e := .exit 0) ?_
    rw [rn_e1_eq, decide_eq_false (by omega)]
    rfl
abbrev pre_e2 (a b : List (Ty.den conf)) (n i : Int) : Prop := n = (a.length : Int) ∧ i = 0 ∧ a.length = b.length ∧ a.length ≤ 1000000
def rs_e2 (a b : List (Ty.den conf)) (n i : Int) : Ex × St := if eqI beqC conf.dflt a b = true then (.exit 0, St.of 26 (lve_e2 (.exit 0)) [] [] [] hp_e2.kh hp_e2.kt) else (.ret, St.of 26 (lve_e2 (.ret)) [.b false] [] [] hp_e2.kh hp_e2.kt)
def res_e2 (a b : List (Ty.den conf)) (n i : Int) : Tr (Ex × St) := .br (decide (pre_e2 a b n i)) (.br (decide (eqI beqC conf.dflt a b = true)) (.leaf (some (.exit 0, St.of 26 (lve_e2 (.exit 0)) [] [] [] hp_e2.kh hp_e2.kt))) (.leaf (some (.ret, St.of 26 (lve_e2 (.ret)) [.b false] [] [] hp_e2.kh hp_e2.kt)))) (.leaf none)
theorem res_e2_run (a b : List (Ty.den conf)) (n i : Int) (h : pre_e2 a b n i) : (res_e2 a b n i).run = some (rs_e2 a b n i) := by
  unfold res_e2 rs_e2
  rw [decide_eq_true h]
  exact (Tr.run_ite rfl rfl)
theorem res_e2_no (a b : List (Ty.den conf)) (n i : Int) (h : ¬ pre_e2 a b n i) : (res_e2 a b n i).run = none := Tr.run_no h
def ent_e2 : LEnt := LEnt.by hp_e2 fun ⟨(a, b, n, i, _), _, _⟩ => res_e2 a b n i
theorem ent_e2_ok (hgo : ∀ (a b : List (Ty.den conf)) (n i : Int), pre_e2 a b n i → SemL Tryd.prog Γ (lp 70 0) (st_e2 a b n i) (rs_e2 a b n i).1.to (rs_e2 a b n i).2) : EntOk Tryd.prog Γ (lp 70 0) ent_e2 := LEnt.by_ok fun ⟨(a, b, n, i, _), _, _⟩ ex_ s_ h_ => by
  have h_ : (res_e2 a b n i).run = some (ex_, s_) := h_
  by_cases hp_ : pre_e2 a b n i
  · rw [res_e2_run a b n i hp_] at h_
    obtain ⟨rfl, rfl⟩ := Prod.mk.inj (Option.some.inj h_)
    exact hgo a b n i hp_
  · rw [res_e2_no a b n i hp_] at h_
    cases h_
theorem e2_go (a b : List (Ty.den conf)) (n i : Int) (h : pre_e2 a b n i) : SemL Tryd.prog Γ (lp 70 0) (st_e2 a b n i) (rs_e2 a b n i).1.to (rs_e2 a b n i).2 := by
  obtain ⟨rfl, rfl, hab, hla⟩ := h
  refine scan_all a.length (fun i => beqC (a.getD i conf.dflt) (b.getD i conf.dflt)) (fun i => st_e2 a b a.length (i : Nat)) _ _ 0 (fun i hi hp => ?_) (fun i hi hp => ?_) ?_
  · refine rn_e2_c a b a.length i (e := .normal) ?_
    have hw : IntKind.i64.wrap ((i : Int) + 1) = ((i + 1 : Nat) : Int) := by rw [wrap_in (by omega) (by omega)]; rfl
    rw [rn_e2_eq, hw, decide_eq_true (by omega : (i : Int) < a.length), decide_eq_true (by omega : (0 : Int) ≤ (i : Int) ∧ (i : Int) < a.length), decide_eq_true (by omega : (0 : Int) ≤ (i : Int) ∧ (i : Int) < b.length), Int.toNat_natCast]
    unfold beqC at hp
    rw [hp]
    rfl
  · refine rn_e2_c a b a.length i (e := .ret) ?_
    rw [rn_e2_eq, decide_eq_true (by omega : (i : Int) < a.length), decide_eq_true (by omega : (0 : Int) ≤ (i : Int) ∧ (i : Int) < a.length), decide_eq_true (by omega : (0 : Int) ≤ (i : Int) ∧ (i : Int) < b.length), Int.toNat_natCast]
    unfold beqC at hp
    rw [hp]
    rfl
  · refine rn_e2_c a b a.length a.length (e := .exit 0) ?_
    rw [rn_e2_eq, decide_eq_false (by omega)]
    rfl
abbrev pre_s0 (i : Int) (u : Int) (ev : List Int) (co : List (Ty.den conf)) (t c : Int) (l : List (Ty.den lockT)) (uw : Int) (ew : List Int) (cw : List (Ty.den conf)) (tw kw : Int) (lw : List (Ty.den lockT)) : Prop := i = 0 ∧ co.length = cw.length ∧ co.length ≤ 1000000
def rs_s0 (i : Int) (u : Int) (ev : List Int) (co : List (Ty.den conf)) (t c : Int) (l : List (Ty.den lockT)) (uw : Int) (ew : List Int) (cw : List (Ty.den conf)) (tw kw : Int) (lw : List (Ty.den lockT)) : Ex × St := if eqI beqC conf.dflt co cw = true then (.exit 0, St.of 89 (lve_s0 (.exit 0)) [.ptr 0 0, .ptr 1 0] [some [.si .i64 u, .slst .ro ity ev, .slst .ro conf co, .si .i64 t, .si .i64 c, .slst .ro lockT l], some [.si .i64 uw, .slst .ro ity ew, .slst .ro conf cw, .si .i64 tw, .si .i64 kw, .slst .ro lockT lw]] [] hp_s0.kh hp_s0.kt) else (.ret, St.of 89 (lve_s0 (.ret)) [.b false] [] [] hp_s0.kh hp_s0.kt)
def res_s0 (i : Int) (u : Int) (ev : List Int) (co : List (Ty.den conf)) (t c : Int) (l : List (Ty.den lockT)) (uw : Int) (ew : List Int) (cw : List (Ty.den conf)) (tw kw : Int) (lw : List (Ty.den lockT)) : Tr (Ex × St) := .br (decide (pre_s0 i u ev co t c l uw ew cw tw kw lw)) (.br (decide (eqI beqC conf.dflt co cw = true)) (.leaf (some (.exit 0, St.of 89 (lve_s0 (.exit 0)) [.ptr 0 0, .ptr 1 0] [some [.si .i64 u, .slst .ro ity ev, .slst .ro conf co, .si .i64 t, .si .i64 c, .slst .ro lockT l], some [.si .i64 uw, .slst .ro ity ew, .slst .ro conf cw, .si .i64 tw, .si .i64 kw, .slst .ro lockT lw]] [] hp_s0.kh hp_s0.kt))) (.leaf (some (.ret, St.of 89 (lve_s0 (.ret)) [.b false] [] [] hp_s0.kh hp_s0.kt)))) (.leaf none)
theorem res_s0_run (i : Int) (u : Int) (ev : List Int) (co : List (Ty.den conf)) (t c : Int) (l : List (Ty.den lockT)) (uw : Int) (ew : List Int) (cw : List (Ty.den conf)) (tw kw : Int) (lw : List (Ty.den lockT)) (h : pre_s0 i u ev co t c l uw ew cw tw kw lw) : (res_s0 i u ev co t c l uw ew cw tw kw lw).run = some (rs_s0 i u ev co t c l uw ew cw tw kw lw) := by
  unfold res_s0 rs_s0
  rw [decide_eq_true h]
  exact (Tr.run_ite rfl rfl)
theorem res_s0_no (i : Int) (u : Int) (ev : List Int) (co : List (Ty.den conf)) (t c : Int) (l : List (Ty.den lockT)) (uw : Int) (ew : List Int) (cw : List (Ty.den conf)) (tw kw : Int) (lw : List (Ty.den lockT)) (h : ¬ pre_s0 i u ev co t c l uw ew cw tw kw lw) : (res_s0 i u ev co t c l uw ew cw tw kw lw).run = none := Tr.run_no h
def ent_s0 : LEnt := LEnt.by hp_s0 fun ⟨(_, _, i, _), ((u, ev, co, t, c, l, _), (uw, ew, cw, tw, kw, lw, _), _), _⟩ => res_s0 i u ev co t c l uw ew cw tw kw lw
theorem ent_s0_ok (hgo : ∀ (i : Int) (u : Int) (ev : List Int) (co : List (Ty.den conf)) (t c : Int) (l : List (Ty.den lockT)) (uw : Int) (ew : List Int) (cw : List (Ty.den conf)) (tw kw : Int) (lw : List (Ty.den lockT)), pre_s0 i u ev co t c l uw ew cw tw kw lw → SemL Tryd.prog Γ (lp 18 0) (st_s0 i u ev co t c l uw ew cw tw kw lw) (rs_s0 i u ev co t c l uw ew cw tw kw lw).1.to (rs_s0 i u ev co t c l uw ew cw tw kw lw).2) : EntOk Tryd.prog Γ (lp 18 0) ent_s0 := LEnt.by_ok fun ⟨(_, _, i, _), ((u, ev, co, t, c, l, _), (uw, ew, cw, tw, kw, lw, _), _), _⟩ ex_ s_ h_ => by
  have h_ : (res_s0 i u ev co t c l uw ew cw tw kw lw).run = some (ex_, s_) := h_
  by_cases hp_ : pre_s0 i u ev co t c l uw ew cw tw kw lw
  · rw [res_s0_run i u ev co t c l uw ew cw tw kw lw hp_] at h_
    obtain ⟨rfl, rfl⟩ := Prod.mk.inj (Option.some.inj h_)
    exact hgo i u ev co t c l uw ew cw tw kw lw hp_
  · rw [res_s0_no i u ev co t c l uw ew cw tw kw lw hp_] at h_
    cases h_
theorem s0_go (i : Int) (u : Int) (ev : List Int) (co : List (Ty.den conf)) (t c : Int) (l : List (Ty.den lockT)) (uw : Int) (ew : List Int) (cw : List (Ty.den conf)) (tw kw : Int) (lw : List (Ty.den lockT)) (h : pre_s0 i u ev co t c l uw ew cw tw kw lw) : SemL Tryd.prog Γ (lp 18 0) (st_s0 i u ev co t c l uw ew cw tw kw lw) (rs_s0 i u ev co t c l uw ew cw tw kw lw).1.to (rs_s0 i u ev co t c l uw ew cw tw kw lw).2 := by
  obtain ⟨rfl, hab, hla⟩ := h
  refine scan_all co.length (fun i => beqC (co.getD i conf.dflt) (cw.getD i conf.dflt)) (fun i => st_s0 (i : Nat) u ev co t c l uw ew cw tw kw lw) _ _ 0 (fun i hi hp => ?_) (fun i hi hp => ?_) ?_
  · refine rn_s0_c i u ev co t c l uw ew cw tw kw lw (e := .normal) ?_
    have hw : IntKind.i64.wrap ((i : Int) + 1) = ((i + 1 : Nat) : Int) := by rw [wrap_in (by omega) (by omega)]; rfl
    rw [rn_s0_eq, hw, decide_eq_true (by omega : (i : Int) < co.length), decide_eq_true (by omega : (0 : Int) ≤ (i : Int) ∧ (i : Int) < co.length), decide_eq_true (by omega : (0 : Int) ≤ (i : Int) ∧ (i : Int) < cw.length), Int.toNat_natCast]
    unfold beqC at hp
    rw [hp]
    rfl
  · refine rn_s0_c i u ev co t c l uw ew cw tw kw lw (e := .ret) ?_
    rw [rn_s0_eq, decide_eq_true (by omega : (i : Int) < co.length), decide_eq_true (by omega : (0 : Int) ≤ (i : Int) ∧ (i : Int) < co.length), decide_eq_true (by omega : (0 : Int) ≤ (i : Int) ∧ (i : Int) < cw.length), Int.toNat_natCast]
    unfold beqC at hp
    rw [hp]
    rfl
  · refine rn_s0_c co.length u ev co t c l uw ew cw tw kw lw (e := .exit 0) ?_
    rw [rn_s0_eq, decide_eq_false (by omega)]
    rfl
abbrev pre_s1 (i : Int) (u : Int) (ev : List Int) (co : List (Ty.den conf)) (t c : Int) (l : List (Ty.den lockT)) (uw : Int) (ew : List Int) (cw : List (Ty.den conf)) (tw kw : Int) (lw : List (Ty.den lockT)) : Prop := i = 0 ∧ l.length = lw.length ∧ szL l ∧ szL lw
def rs_s1 (i : Int) (u : Int) (ev : List Int) (co : List (Ty.den conf)) (t c : Int) (l : List (Ty.den lockT)) (uw : Int) (ew : List Int) (cw : List (Ty.den conf)) (tw kw : Int) (lw : List (Ty.den lockT)) : Ex × St := if eqI beqR lockT.dflt l lw = true then (.exit 2, St.of 89 (lve_s1 (.exit 2)) [] [] [] hp_s1.kh hp_s1.kt) else (.ret, St.of 89 (lve_s1 (.ret)) [.b false] [] [] hp_s1.kh hp_s1.kt)
def res_s1 (i : Int) (u : Int) (ev : List Int) (co : List (Ty.den conf)) (t c : Int) (l : List (Ty.den lockT)) (uw : Int) (ew : List Int) (cw : List (Ty.den conf)) (tw kw : Int) (lw : List (Ty.den lockT)) : Tr (Ex × St) := .br (decide (pre_s1 i u ev co t c l uw ew cw tw kw lw)) (.br (decide (eqI beqR lockT.dflt l lw = true)) (.leaf (some (.exit 2, St.of 89 (lve_s1 (.exit 2)) [] [] [] hp_s1.kh hp_s1.kt))) (.leaf (some (.ret, St.of 89 (lve_s1 (.ret)) [.b false] [] [] hp_s1.kh hp_s1.kt)))) (.leaf none)
theorem res_s1_run (i : Int) (u : Int) (ev : List Int) (co : List (Ty.den conf)) (t c : Int) (l : List (Ty.den lockT)) (uw : Int) (ew : List Int) (cw : List (Ty.den conf)) (tw kw : Int) (lw : List (Ty.den lockT)) (h : pre_s1 i u ev co t c l uw ew cw tw kw lw) : (res_s1 i u ev co t c l uw ew cw tw kw lw).run = some (rs_s1 i u ev co t c l uw ew cw tw kw lw) := by
  unfold res_s1 rs_s1
  rw [decide_eq_true h]
  exact (Tr.run_ite rfl rfl)
theorem res_s1_no (i : Int) (u : Int) (ev : List Int) (co : List (Ty.den conf)) (t c : Int) (l : List (Ty.den lockT)) (uw : Int) (ew : List Int) (cw : List (Ty.den conf)) (tw kw : Int) (lw : List (Ty.den lockT)) (h : ¬ pre_s1 i u ev co t c l uw ew cw tw kw lw) : (res_s1 i u ev co t c l uw ew cw tw kw lw).run = none := Tr.run_no h
def ent_s1 : LEnt := LEnt.by hp_s1 fun ⟨(_, _, i, _), ((u, ev, co, t, c, l, _), (uw, ew, cw, tw, kw, lw, _), _), _⟩ => res_s1 i u ev co t c l uw ew cw tw kw lw
theorem ent_s1_ok (hgo : ∀ (i : Int) (u : Int) (ev : List Int) (co : List (Ty.den conf)) (t c : Int) (l : List (Ty.den lockT)) (uw : Int) (ew : List Int) (cw : List (Ty.den conf)) (tw kw : Int) (lw : List (Ty.den lockT)), pre_s1 i u ev co t c l uw ew cw tw kw lw → SemL Tryd.prog Γ (lp 18 1) (st_s1 i u ev co t c l uw ew cw tw kw lw) (rs_s1 i u ev co t c l uw ew cw tw kw lw).1.to (rs_s1 i u ev co t c l uw ew cw tw kw lw).2) : EntOk Tryd.prog Γ (lp 18 1) ent_s1 := LEnt.by_ok fun ⟨(_, _, i, _), ((u, ev, co, t, c, l, _), (uw, ew, cw, tw, kw, lw, _), _), _⟩ ex_ s_ h_ => by
  have h_ : (res_s1 i u ev co t c l uw ew cw tw kw lw).run = some (ex_, s_) := h_
  by_cases hp_ : pre_s1 i u ev co t c l uw ew cw tw kw lw
  · rw [res_s1_run i u ev co t c l uw ew cw tw kw lw hp_] at h_
    obtain ⟨rfl, rfl⟩ := Prod.mk.inj (Option.some.inj h_)
    exact hgo i u ev co t c l uw ew cw tw kw lw hp_
  · rw [res_s1_no i u ev co t c l uw ew cw tw kw lw hp_] at h_
    cases h_
theorem s1_go (i : Int) (u : Int) (ev : List Int) (co : List (Ty.den conf)) (t c : Int) (l : List (Ty.den lockT)) (uw : Int) (ew : List Int) (cw : List (Ty.den conf)) (tw kw : Int) (lw : List (Ty.den lockT)) (h : pre_s1 i u ev co t c l uw ew cw tw kw lw) : SemL Tryd.prog Γ (lp 18 1) (st_s1 i u ev co t c l uw ew cw tw kw lw) (rs_s1 i u ev co t c l uw ew cw tw kw lw).1.to (rs_s1 i u ev co t c l uw ew cw tw kw lw).2 := by
  obtain ⟨rfl, hab, ha, hb⟩ := h
  have hla := ha.1
  have hk : ∀ i, i < l.length → (some (!(kN (l.getD i lockT.dflt)) == (kN (lw.getD i lockT.dflt)) || decide ((kK (l.getD i lockT.dflt)).length ≤ 1000000 ∧ (kK (lw.getD i lockT.dflt)).length ≤ 1000000))).getD true = true := fun i hi => by
    rw [decide_eq_true ⟨ha.2 _ (getD_mem hi lockT.dflt), hb.2 _ (getD_mem (hab ▸ hi) lockT.dflt)⟩, Bool.or_true]; rfl
  refine scan_all l.length (fun i => beqR (l.getD i lockT.dflt) (lw.getD i lockT.dflt)) (fun i => st_s1 (i : Nat) u ev co t c l uw ew cw tw kw lw) _ _ 2 (fun i hi hp => ?_) (fun i hi hp => ?_) ?_
  · refine rn_s1_c i u ev co t c l uw ew cw tw kw lw (e := .normal) ?_
    have hw : IntKind.i64.wrap ((i : Int) + 1) = ((i + 1 : Nat) : Int) := by rw [wrap_in (by omega) (by omega)]; rfl
    rw [rn_s1_eq, hw, decide_eq_true (by omega : (i : Int) < l.length), decide_eq_true (by omega : (0 : Int) ≤ (i : Int) ∧ (i : Int) < l.length), decide_eq_true (by omega : (0 : Int) ≤ (i : Int) ∧ (i : Int) < lw.length), Int.toNat_natCast, hk i hi]
    unfold beqR at hp
    rw [hp]
    rfl
  · refine rn_s1_c i u ev co t c l uw ew cw tw kw lw (e := .ret) ?_
    rw [rn_s1_eq, decide_eq_true (by omega : (i : Int) < l.length), decide_eq_true (by omega : (0 : Int) ≤ (i : Int) ∧ (i : Int) < l.length), decide_eq_true (by omega : (0 : Int) ≤ (i : Int) ∧ (i : Int) < lw.length), Int.toNat_natCast, hk i hi]
    unfold beqR at hp
    rw [hp]
    rfl
  · refine rn_s1_c l.length u ev co t c l uw ew cw tw kw lw (e := .exit 2) ?_
    rw [rn_s1_eq, decide_eq_false (by omega)]
    rfl
abbrev pre_cq (a : List (Ty.den lockT)) (q : Ty.den lockT) (n i : Int) : Prop := n = (a.length : Int) ∧ i = 0 ∧ szL a ∧ (kK q).length ≤ 1000000
def rs_cq (a : List (Ty.den lockT)) (q : Ty.den lockT) (n i : Int) : Ex × St := if a.findIdx (fun p => beqL p q) < a.length then (.ret, St.of 19 (lve_cq (.ret)) [.si .i64 (a.findIdx (fun p => beqL p q) : Nat)] [] [] hp_cq.kh hp_cq.kt) else (.exit 0, St.of 19 (lve_cq (.exit 0)) [] [] [] hp_cq.kh hp_cq.kt)
def res_cq (a : List (Ty.den lockT)) (q : Ty.den lockT) (n i : Int) : Tr (Ex × St) := .br (decide (pre_cq a q n i)) (.br (decide (a.findIdx (fun p => beqL p q) < a.length)) (.leaf (some (.ret, St.of 19 (lve_cq (.ret)) [.si .i64 (a.findIdx (fun p => beqL p q) : Nat)] [] [] hp_cq.kh hp_cq.kt))) (.leaf (some (.exit 0, St.of 19 (lve_cq (.exit 0)) [] [] [] hp_cq.kh hp_cq.kt)))) (.leaf none)
theorem res_cq_run (a : List (Ty.den lockT)) (q : Ty.den lockT) (n i : Int) (h : pre_cq a q n i) : (res_cq a q n i).run = some (rs_cq a q n i) := by
  unfold res_cq rs_cq
  rw [decide_eq_true h]
  exact (Tr.run_ite rfl rfl)
theorem res_cq_no (a : List (Ty.den lockT)) (q : Ty.den lockT) (n i : Int) (h : ¬ pre_cq a q n i) : (res_cq a q n i).run = none := Tr.run_no h
def ent_cq : LEnt := LEnt.by hp_cq fun ⟨(a, (q, _), n, i, _), _, _⟩ => res_cq a q n i
theorem ent_cq_ok (hgo : ∀ (a : List (Ty.den lockT)) (q : Ty.den lockT) (n i : Int), pre_cq a q n i → SemL Tryd.prog Γ (lp 82 0) (st_cq a q n i) (rs_cq a q n i).1.to (rs_cq a q n i).2) : EntOk Tryd.prog Γ (lp 82 0) ent_cq := LEnt.by_ok fun ⟨(a, (q, _), n, i, _), _, _⟩ ex_ s_ h_ => by
  have h_ : (res_cq a q n i).run = some (ex_, s_) := h_
  by_cases hp_ : pre_cq a q n i
  · rw [res_cq_run a q n i hp_] at h_
    obtain ⟨rfl, rfl⟩ := Prod.mk.inj (Option.some.inj h_)
    exact hgo a q n i hp_
  · rw [res_cq_no a q n i hp_] at h_
    cases h_
theorem cq_go (a : List (Ty.den lockT)) (q : Ty.den lockT) (n i : Int) (h : pre_cq a q n i) : SemL Tryd.prog Γ (lp 82 0) (st_cq a q n i) (rs_cq a q n i).1.to (rs_cq a q n i).2 := by
  obtain ⟨rfl, rfl, ha, hq⟩ := h
  have hla := ha.1
  refine scan_find a lockT.dflt (fun p => beqL p q) (fun i => st_cq a q a.length (i : Nat)) (fun i => St.of 19 (lve_cq .ret) [.si .i64 (i : Nat)] [] [] 0 0) _ 0 (fun i hi hp => ?_) (fun i hi hp => ?_) ?_
  · refine rn_cq_c a q a.length i (e := .normal) ?_
    have hw : IntKind.i64.wrap ((i : Int) + 1) = ((i + 1 : Nat) : Int) := by rw [wrap_in (by omega) (by omega)]; rfl
    have hp : (cmpL (a.getD i lockT.dflt) q == (0 : Int)) = false := hp
    rw [rn_cq_eq, hw, decide_eq_true (by omega : (i : Int) < a.length), decide_eq_true (by omega : (0 : Int) ≤ (i : Int) ∧ (i : Int) < a.length), Int.toNat_natCast, decide_eq_true (And.intro (ha.2 _ (getD_mem hi lockT.dflt)) hq), hp]
    rfl
  · refine rn_cq_c a q a.length i (e := .ret) ?_
    have hp : (cmpL (a.getD i lockT.dflt) q == (0 : Int)) = true := hp
    rw [rn_cq_eq, decide_eq_true (by omega : (i : Int) < a.length), decide_eq_true (by omega : (0 : Int) ≤ (i : Int) ∧ (i : Int) < a.length), Int.toNat_natCast, decide_eq_true (And.intro (ha.2 _ (getD_mem hi lockT.dflt)) hq), hp]
    rfl
  · refine rn_cq_c a q a.length a.length (e := .exit 0) ?_
    rw [rn_cq_eq, decide_eq_false (by omega)]
    rfl
def lo34a : LOrc := (LOrc.add (LOrc.add (LOrc.add (LOrc.add (LOrc.add lo32 67 0 ent_ef) 69 0 ent_e1) 70 0 ent_e2) 18 0 ent_s0) 18 1 ent_s1)
theorem lo34a_ok : LOrcOk Tryd.prog Γ lo34a := (LOrcOk.add (LOrcOk.add (LOrcOk.add (LOrcOk.add (LOrcOk.add lo32_ok 67 0 Tryd.func67 bd_ef le_ef (ent_ef_ok ef_go)) 69 0 Tryd.func69 bd_e1 le_e1 (ent_e1_ok e1_go)) 70 0 Tryd.func70 bd_e2 le_e2 (ent_e2_ok e2_go)) 18 0 Tryd.func18 bd_s0 le_s0 (ent_s0_ok s0_go)) 18 1 Tryd.func18 bd_s1 le_s1 (ent_s1_ok s1_go))
def lo34 : LOrc := LOrc.add lo34a 82 0 (LEnt.or ent_lq ent_cq)
theorem lo34_ok : LOrcOk Tryd.prog Γ lo34 := LOrcOk.add lo34a_ok 82 0 Tryd.func82 bd_lq le_lq (LEnt.or_ok (ent_lq_ok lq_go) (ent_cq_ok cq_go) rfl rfl)
noncomputable def cfg34 : Cfg := cfgT T31 isT31 orc33 lo34
theorem cfg34_ok : CfgOk Tryd.prog Γ cfg34 := cfgT_ok T31_ok orc33_ok lo34_ok
theorem c21_run (u : Int) (ev : List Int) (co : List (Ty.den conf)) (t c : Int) (l : List (Ty.den lockT)) (uw : Int) (ew : List Int) (cw : List (Ty.den conf)) (tw kw : Int) (lw : List (Ty.den lockT)) : runL cfg34 21 [.agg [.si .i64 u, .slst .ro ity ev, .slst .ro conf co, .si .i64 t, .si .i64 c, .slst .ro lockT l], .agg [.si .i64 uw, .slst .ro ity ew, .slst .ro conf cw, .si .i64 tw, .si .i64 kw, .slst .ro lockT lw]] = .ok (some (((Nat.cast (l.length) : Int) != (Nat.cast (lw.length) : Int) || decide (pre_ef lw l (Nat.cast (l.length) : Int) (0 : Int))) && (some ((!bif (Nat.cast (l.length) : Int) != (Nat.cast (lw.length) : Int) then false else bif decide (eqI beqL lockT.dflt l lw = true) then true else false) || (!u == uw || (!t == tw || (!c == kw || ((Nat.cast (ev.length) : Int) != (Nat.cast (ew.length) : Int) || decide (pre_e1 ev ew (Nat.cast (ev.length) : Int) (0 : Int))) && ((!bif (Nat.cast (ev.length) : Int) != (Nat.cast (ew.length) : Int) then false else bif decide (eqI (fun x y => x == y) (0 : Int) ev ew = true) then true else false) || ((Nat.cast (co.length) : Int) != (Nat.cast (cw.length) : Int) || decide (pre_e2 co cw (Nat.cast (co.length) : Int) (0 : Int))))))))).getD true)) (V.sb (bif bif (Nat.cast (l.length) : Int) != (Nat.cast (lw.length) : Int) then false else bif decide (eqI beqL lockT.dflt l lw = true) then true else false then bif u == uw then bif t == tw then bif c == kw then bif bif (Nat.cast (ev.length) : Int) != (Nat.cast (ew.length) : Int) then false else bif decide (eqI (fun x y => x == y) (0 : Int) ev ew = true) then true else false then bif (Nat.cast (co.length) : Int) != (Nat.cast (cw.length) : Int) then false else bif decide (eqI beqC conf.dflt co cw = true) then true else false else false else false else false else false else false)) := by kernel_rfl
theorem c18_run (u : Int) (ev : List Int) (co : List (Ty.den conf)) (t c : Int) (l : List (Ty.den lockT)) (uw : Int) (ew : List Int) (cw : List (Ty.den conf)) (tw kw : Int) (lw : List (Ty.den lockT)) : runL cfg34 18 [.agg [.si .i64 u, .slst .ro ity ev, .slst .ro conf co, .si .i64 t, .si .i64 c, .slst .ro lockT l], .agg [.si .i64 uw, .slst .ro ity ew, .slst .ro conf cw, .si .i64 tw, .si .i64 kw, .slst .ro lockT lw]] = .ok (some ((some (u != uw || (t != tw || (c != kw || decide (ev.length ≤ 1000000 ∧ ew.length ≤ 1000000))))).getD true && ((bif u != uw then true else bif t != tw then true else bif c != kw then true else bif rcmp ev ew != (0 : Int) then true else bif (Nat.cast (co.length) : Int) != (Nat.cast (cw.length) : Int) then true else (Nat.cast (l.length) : Int) != (Nat.cast (lw.length) : Int)) || decide (pre_s0 (0 : Int) u ev co t c l uw ew cw tw kw lw) && (!decide (eqI beqC conf.dflt co cw = true) || decide (pre_s1 (0 : Int) u ev co t c l uw ew cw tw kw lw))))) (V.sb (bif bif u != uw then true else bif t != tw then true else bif c != kw then true else bif rcmp ev ew != (0 : Int) then true else bif (Nat.cast (co.length) : Int) != (Nat.cast (cw.length) : Int) then true else (Nat.cast (l.length) : Int) != (Nat.cast (lw.length) : Int) then false else bif decide (eqI beqC conf.dflt co cw = true) then bif decide (eqI beqR lockT.dflt l lw = true) then true else false else false)) := by kernel_rfl
-- 
def hp_cx : HP := { n := 19, lv := [0, 1, 7, 8], sp := [.ty (.slice lockT), .fn 64 [.pel labT], .ty ity, .ty ity], op := [], bp := [] }
def lve_cx : Ex → List Nat
  | .normal => [0, 1, 7, 8]
  | .ret => [4]
  | .exit 0 => []
  | _ => []
theorem bd_cx : Tryd.f82.body = some (root 82) := by kernel_rfl
theorem le_cx : (loops (root 82))[0]? = some (lp 82 0) := by kernel_rfl
theorem li_cx : Lies (root 82) 1 (lp 82 0) := Lies.of_take (n := 0) (by kernel_rfl)
def st_cx (a : List (Ty.den lockT)) (x : Ty.den labT) (n i : Int) : St := hp_cx.st ⟨(a, (x, ()), n, i, ()), (), ()⟩
noncomputable def rn_cx (a : List (Ty.den lockT)) (x : Ty.den labT) (n i : Int) := outa lve_cx (evCK Tryd.prog Γ (cfM Tryd.prog Γ cfg34 30) (cfg34.lo 82) [] 60 1 (lp 82 0) (st_cx a x n i))
theorem rn_cx_eq (a : List (Ty.den lockT)) (x : Ty.den labT) (n i : Int) : (rn_cx a x n i).run = (bif decide (i < n) then (bif decide ((0 : Int) ≤ i ∧ i < (Nat.cast (a.length) : Int)) then (bif decide (pre_cq (aL x) (a.getD i.toNat lockT.dflt) (Nat.cast ((List.length (aL x))) : Int) (0 : Int)) then (bif decide ((bif decide (List.findIdx (fun p => beqL p (a.getD i.toNat lockT.dflt)) (aL x) < List.length (aL x)) then (Nat.cast ((List.findIdx (fun p => beqL p (a.getD i.toNat lockT.dflt)) (aL x))) : Int) else (-1 : Int)) ≥ (0 : Int)) then (some ((Ex.ret, [V.si IntKind.i64 i], [], [], (19 : Nat), (0 : Nat), (0 : Nat)))) else (some ((Ex.normal, [V.slst Tag.ro lockT a, V.fn (Fn.func (64 : FuncId)) [] [V.pel [V.agg [V.si IntKind.i64 x.fst, V.slst Tag.ro ity x.snd.fst, V.slst Tag.ro conf x.snd.snd.fst, V.si IntKind.i64 x.snd.snd.snd.fst, V.si IntKind.i64 x.snd.snd.snd.snd.fst, V.slst Tag.ro lockT (aL x)]] (0 : Nat) (0 : Nat)], V.si IntKind.i64 n, V.si IntKind.i64 (IntKind.i64.wrap (i + (1 : Int)))], [], [], (19 : Nat), (0 : Nat), (0 : Nat))))) else none) else none) else (some ((Ex.exit (0 : Nat), [], [], [], (19 : Nat), (0 : Nat), (0 : Nat))))) := by kernel_rfl
theorem rn_cx_c (a : List (Ty.den lockT)) (x : Ty.den labT) (n i : Int) {e : Ex} {vs : List V} {ob : Ob} {nm : Nm} {n' kh kt : Nat} (h : (rn_cx a x n i).run = some (e, vs, ob, nm, n', kh, kt)) : SemC Tryd.prog Γ (lp 82 0) (st_cx a x n i) e.to (St.of n' (lve_cx e) vs ob nm kh kt) := SemC.of_evM cfg34_ok Tryd.func82 bd_cx li_cx h
def hp_dl : HP := { n := 42, lv := [0, 1, 5, 6], sp := [.bz 0, .fn 64 [.ptr 0 0], .ty ity, .ty ity], op := [.cells [.ty ity, .ty (.slice ity), .ty (.slice conf), .ty ity, .ty ity, .ty (.slice lockT)]], bp := [.arr lockT], kh := 1, kt := 1 }
def lve_dl : Ex → List Nat
  | .normal => [0, 1, 5, 6]
  | .exit 0 => [0, 5]
  | _ => []
theorem bd_dl : Tryd.f62.body = some (root 62) := by kernel_rfl
theorem le_dl : (loops (root 62))[0]? = some (lp 62 0) := by kernel_rfl
theorem li_dl : Lies (root 62) 1 (lp 62 0) := Lies.of_take (n := 0) (by kernel_rfl)
def st_dl (j : Nat) (k i u : Int) (ev : List Int) (co : List (Ty.den conf)) (t c : Int) (lx l : List (Ty.den lockT)) : St := hp_dl.st ⟨(j, ((), ()), k, i, ()), ((u, ev, co, t, c, lx, ()), ()), (l, ())⟩
noncomputable def rn_dl (j : Nat) (k i u : Int) (ev : List Int) (co : List (Ty.den conf)) (t c : Int) (lx l : List (Ty.den lockT)) := outa lve_dl (evCK Tryd.prog Γ (cfM Tryd.prog Γ cfg34 30) (cfg34.lo 62) [] 60 1 (lp 62 0) (st_dl j k i u ev co t c lx l))
theorem rn_dl_eq (j : Nat) (k i u : Int) (ev : List Int) (co : List (Ty.den conf)) (t c : Int) (lx l : List (Ty.den lockT)) : (rn_dl j k i u ev co t c lx l).run = (bif decide (i < (Nat.cast (j) : Int)) then (bif decide ((0 : Int) ≤ i ∧ i < (Nat.cast (j) : Int)) then (bif decide (0 + i.toNat < l.length) then (bif decide (pre_cq lx (l.getD (0 + i.toNat) lockT.dflt) (Nat.cast (lx.length) : Int) (0 : Int)) then (bif !decide ((bif decide (List.findIdx (fun p => beqL p (l.getD (0 + i.toNat) lockT.dflt)) lx < lx.length) then (Nat.cast ((List.findIdx (fun p => beqL p (l.getD (0 + i.toNat) lockT.dflt)) lx)) : Int) else (-1 : Int)) ≥ (0 : Int)) then (bif decide ((0 : Int) ≤ k ∧ k < (Nat.cast (j) : Int)) then (bif decide (0 + k.toNat < l.length) then (some ((Ex.normal, [V.bs true (0 : Nat) (0 : Nat) j, V.fn (Fn.func (64 : FuncId)) [] [V.ptr (0 : Nat) (0 : Nat)], V.si IntKind.i64 (IntKind.i64.wrap (k + (1 : Int))), V.si IntKind.i64 (IntKind.i64.wrap (i + (1 : Int)))], [some [V.si IntKind.i64 u, V.slst Tag.ro ity ev, V.slst Tag.ro conf co, V.si IntKind.i64 t, V.si IntKind.i64 c, V.slst Tag.ro lockT lx]], [some (Bf.live (BC.arr lockT (l.set (0 + k.toNat) (l.getD (0 + i.toNat) lockT.dflt))))], (42 : Nat), (1 : Nat), (1 : Nat)))) else none) else none) else (some ((Ex.normal, [V.bs true (0 : Nat) (0 : Nat) j, V.fn (Fn.func (64 : FuncId)) [] [V.ptr (0 : Nat) (0 : Nat)], V.si IntKind.i64 k, V.si IntKind.i64 (IntKind.i64.wrap (i + (1 : Int)))], [some [V.si IntKind.i64 u, V.slst Tag.ro ity ev, V.slst Tag.ro conf co, V.si IntKind.i64 t, V.si IntKind.i64 c, V.slst Tag.ro lockT lx]], [some (Bf.live (BC.arr lockT l))], (42 : Nat), (1 : Nat), (1 : Nat))))) else none) else none) else none) else (some ((Ex.exit (0 : Nat), [V.bs true (0 : Nat) (0 : Nat) j, V.si IntKind.i64 k], [some [V.si IntKind.i64 u, V.slst Tag.ro ity ev, V.slst Tag.ro conf co, V.si IntKind.i64 t, V.si IntKind.i64 c, V.slst Tag.ro lockT lx]], [some (Bf.live (BC.arr lockT l))], (42 : Nat), (1 : Nat), (1 : Nat))))) := by kernel_rfl
theorem rn_dl_c (j : Nat) (k i u : Int) (ev : List Int) (co : List (Ty.den conf)) (t c : Int) (lx l : List (Ty.den lockT)) {e : Ex} {vs : List V} {ob : Ob} {nm : Nm} {n' kh kt : Nat} (h : (rn_dl j k i u ev co t c lx l).run = some (e, vs, ob, nm, n', kh, kt)) : SemC Tryd.prog Γ (lp 62 0) (st_dl j k i u ev co t c lx l) e.to (St.of n' (lve_dl e) vs ob nm kh kt) := SemC.of_evM cfg34_ok Tryd.func62 bd_dl li_dl h
end L
end Go.Proofs.YthjiodeaepigmaaDoor

/- Package label: Same as contracts; DeleteFunc's loops; Below, printed. -/
set_option linter.unusedVariables false
set_option linter.unusedSimpArgs false
set_option maxRecDepth 100000
set_option maxHeartbeats 4000000
namespace Go.Proofs.YthjiodeaepigmaaDoor
open Go
namespace L
-- 
-- 
theorem getD_ext {α : Type} {a b : List α} (d : α) (hl : a.length = b.length) (h : ∀ i, i < a.length → a.getD i d = b.getD i d) : a = b := by
  apply List.ext_getElem hl
  intro i h1 h2
  have := h i h1
  rw [getD_eq h1, getD_eq h2] at this
  exact this
theorem eqI_iff {α : Type} {c : α → α → Bool} {d : α} {a b : List α} (hl : a.length = b.length) (hc : ∀ x ∈ a, ∀ y ∈ b, (c x y = true ↔ x = y)) : eqI c d a b = true ↔ a = b := by
  unfold eqI
  rw [allI_true]
  constructor
  · intro h
    exact getD_ext d hl fun i hi => (hc _ (getD_mem hi d) _ (getD_mem (hl ▸ hi) d)).1 (h i hi)
  · intro h i hi
    subst h
    exact (hc _ (getD_mem hi d) _ (getD_mem hi d)).2 rfl
theorem sgn_zero {a b : Int} : sgn a b = 0 ↔ a = b := by unfold sgn; split <;> (try split) <;> omega
theorem lexC_zero : ∀ {a b : List Int}, lexC a b = 0 ↔ a = b
  | [], [] => by simp [lexC]
  | [], y :: b => by simp [lexC]
  | x :: a, [] => by simp [lexC]
  | x :: a, y :: b => by
    unfold lexC
    by_cases h : x = y
    · subst h
      rw [if_neg (by rw [sgn_zero.2 rfl]; decide), lexC_zero]
      simp
    · have h' : sgn x y ≠ 0 := fun e => h (sgn_zero.1 e)
      rw [if_pos h']
      constructor
      · intro e; exact absurd e h'
      · intro e; cases e; exact absurd rfl h
theorem lock_ext (x y : Ty.den lockT) : x = y ↔ kN x = kN y ∧ kK x = kK y := by
  obtain ⟨a1, a2, _⟩ := x
  obtain ⟨b1, b2, _⟩ := y
  constructor
  · intro h; cases h; exact ⟨rfl, rfl⟩
  · rintro ⟨rfl, rfl⟩; rfl
theorem conf_ext (x y : Ty.den conf) : x = y ↔ cF x = cF y ∧ cC x = cC y := by
  obtain ⟨a1, a2, _⟩ := x
  obtain ⟨b1, b2, _⟩ := y
  constructor
  · intro h; cases h; exact ⟨rfl, rfl⟩
  · rintro ⟨rfl, rfl⟩; rfl
theorem cmpL_zero {x y : Ty.den lockT} : cmpL x y = 0 ↔ x = y := by
  have key : ∀ (n m : Int) (k l : List Int), (if sgn n m ≠ 0 then sgn n m else lexC k l) = 0 ↔ n = m ∧ k = l := fun n m k l => by
    by_cases h : n = m
    · subst h
      rw [if_neg (by rw [sgn_zero.2 rfl]; decide), lexC_zero]
      simp
    · have h' : sgn n m ≠ 0 := fun e => h (sgn_zero.1 e)
      rw [if_pos h']
      constructor
      · intro e; exact absurd e h'
      · intro e; exact absurd e.1 h
  rw [lock_ext]
  exact key _ _ _ _
theorem beqL_iff {x y : Ty.den lockT} : beqL x y = true ↔ x = y := by unfold beqL; rw [beq_iff_eq, cmpL_zero]
theorem beqC_iff {x y : Ty.den conf} : beqC x y = true ↔ x = y := by
  rw [conf_ext]
  unfold beqC
  simp only [Bool.and_true, Bool.and_eq_true, beq_iff_eq]
instance : DecidableEq (Ty.den lockT) := fun x y => decidable_of_iff _ (lock_ext x y).symm
instance : DecidableEq (Ty.den conf) := fun x y => decidable_of_iff _ (conf_ext x y).symm
theorem lab_ext (x y : Ty.den labT) : x = y ↔ aU x = aU y ∧ aE x = aE y ∧ aC x = aC y ∧ aT x = aT y ∧ aK x = aK y ∧ aL x = aL y := by
  obtain ⟨a1, a2, a3, a4, a5, a6, _⟩ := x
  obtain ⟨b1, b2, b3, b4, b5, b6, _⟩ := y
  constructor
  · intro h; cases h; exact ⟨rfl, rfl, rfl, rfl, rfl, rfl⟩
  · rintro ⟨rfl, rfl, rfl, rfl, rfl, rfl⟩; rfl
theorem lenb {α β : Type} {a : List α} {b : List β} : ((Nat.cast a.length : Int) != (Nat.cast b.length : Int)) = !decide (a.length = b.length) := by
  by_cases h : a.length = b.length
  · rw [h]; simp
  · rw [decide_eq_false h]
    simp only [Bool.not_false, bne_iff_ne, ne_eq]
    omega
theorem eqI_dec {α : Type} [DecidableEq α] {c : α → α → Bool} {d : α} {a b : List α} (hc : ∀ x y, (c x y = true ↔ x = y)) : (bif (Nat.cast a.length : Int) != (Nat.cast b.length : Int) then false else bif decide (eqI c d a b = true) then true else false) = decide (a = b) := by
  rw [lenb]
  by_cases h : a.length = b.length
  · rw [decide_eq_true h]
    simp only [Bool.not_true, cond_false]
    have e := eqI_iff (c := c) (d := d) h (fun x _ y _ => hc x y)
    by_cases he : a = b
    · rw [decide_eq_true (e.2 he), decide_eq_true he]; rfl
    · rw [decide_eq_false (fun h => he (e.1 h)), decide_eq_false he]; rfl
  · rw [decide_eq_false h, decide_eq_false (fun e => h (congrArg List.length e))]; rfl
instance : DecidableEq (Ty.den labT) := fun x y => decidable_of_iff _ (lab_ext x y).symm
/-- Equal labels. -/
def sameB (x y : Ty.den labT) : Bool := decide (x = y)
theorem bool_of {b : Bool} (h : b = false → False) : b = true := by cases b; exact (h rfl).elim; rfl
theorem c21_ok (x y : Ty.den labT) (hx : szX x) (hy : szX y) : SemF Tryd.prog Γ 21 [labT.val x, labT.val y] [] [] (.sb (sameB x y)) [] [] := by
  have hx1 : szE (aE x) (aC x) (aL x) := hx
  have hy1 : szE (aE y) (aC y) (aL y) := hy
  refine of_runL cfg34_ok (c21_run (aU x) (aE x) (aC x) (aT x) (aK x) (aL x) (aU y) (aE y) (aC y) (aT y) (aK y) (aL y)) ?_ ?_
  · simp only [lenb]
    have p1 : (!decide ((aL x).length = (aL y).length) || decide (pre_ef (aL y) (aL x) (Nat.cast (aL x).length : Int) 0)) = false → False := fun h => by
      rw [Bool.or_eq_false_iff] at h
      have h1 : (aL x).length = (aL y).length := by simpa using h.1
      have h2 := of_decide_eq_false h.2
      exact h2 ⟨rfl, rfl, h1, hx1.2.2, hy1.2.2⟩
    have p2 : (!decide ((aE x).length = (aE y).length) || decide (pre_e1 (aE x) (aE y) (Nat.cast (aE x).length : Int) 0)) = false → False := fun h => by
      rw [Bool.or_eq_false_iff] at h
      have h1 : (aE x).length = (aE y).length := by simpa using h.1
      have h2 := of_decide_eq_false h.2
      exact h2 ⟨rfl, rfl, h1, hx1.1⟩
    have p3 : (!decide ((aC x).length = (aC y).length) || decide (pre_e2 (aC x) (aC y) (Nat.cast (aC x).length : Int) 0)) = false → False := fun h => by
      rw [Bool.or_eq_false_iff] at h
      have h1 : (aC x).length = (aC y).length := by simpa using h.1
      have h2 := of_decide_eq_false h.2
      exact h2 ⟨rfl, rfl, h1, hx1.2.1⟩
    rw [bool_of p1, bool_of p2, bool_of p3]
    simp only [Bool.or_true, Bool.and_true, Bool.true_and, Option.getD_some]
  · rw [eqI_dec (c := beqL) (d := lockT.dflt) (fun x y => beqL_iff), eqI_dec (c := fun x y => x == y) (d := (0 : Int)) (a := aE x) (b := aE y) (fun x y => beq_iff_eq), eqI_dec (c := beqC) (d := conf.dflt) (fun x y => beqC_iff)]
    congr 1
    rw [Bool.eq_iff_iff]
    unfold sameB
    rw [decide_eq_true_eq, lab_ext]
    by_cases h1 : aL x = aL y <;> by_cases h2 : aU x = aU y <;> by_cases h3 : aT x = aT y <;> by_cases h4 : aK x = aK y <;> by_cases h5 : aE x = aE y <;> by_cases h6 : aC x = aC y <;> simp [h1, h2, h3, h4, h5, h6]
/-! ### Deleting -/
section
variable {α : Type} (p : α → Bool)
def kpG (c : List α) (i : Nat) : List α := (c.take i).filter fun q => !p q
def kpGL (c : List α) (i : Nat) : List α := kpG p c i ++ c.drop (kpG p c i).length
theorem appG_get {D c : List α} {k : Nat} (d : α) (h : D.length ≤ k) : (D ++ c.drop D.length).getD k d = c.getD k d := by
  simp only [List.getD]
  rw [List.getElem?_append_right h, List.getElem?_drop, Nat.add_sub_cancel' h]
theorem setG_app {D c : List α} {x : α} (h : D.length < c.length) : (D ++ c.drop D.length).set D.length x = (D ++ [x]) ++ c.drop (D.length + 1) := by
  rw [List.set_append_right _ _ (Nat.le_refl _), Nat.sub_self, List.drop_eq_getElem_cons h, List.set_cons_zero, List.append_assoc]
  rfl
theorem kpG_le (c : List α) (i : Nat) : (kpG p c i).length ≤ i := Nat.le_trans (List.length_filter_le _ _) (by rw [List.length_take]; omega)
theorem kpG_succ {c : List α} {i : Nat} (d : α) (h : i < c.length) : kpG p c (i + 1) = kpG p c i ++ (bif !p (c.getD i d) then [c.getD i d] else []) := by
  unfold kpG
  rw [List.take_add_one, List.getElem?_eq_getElem h, List.filter_append, getD_eq h]
  cases ho : p c[i] <;> simp [ho]
theorem kpGL_len {c : List α} {i : Nat} (h : i ≤ c.length) : (kpGL p c i).length = c.length := by
  have := kpG_le p c i
  unfold kpGL
  rw [List.length_append, List.length_drop]; omega
theorem kpGL_get {c : List α} {i k : Nat} (d : α) (h : i ≤ k) : (kpGL p c i).getD k d = c.getD k d := appG_get d (Nat.le_trans (kpG_le p c i) h)
theorem kpG_at {c : List α} (d : α) (h : c.findIdx p < c.length) : kpG p c (c.findIdx p + 1) = c.take (c.findIdx p) := by
  have h1 : kpG p c (c.findIdx p) = c.take (c.findIdx p) := by
    unfold kpG
    rw [List.filter_eq_self]
    intro x hx
    obtain ⟨i, hi, rfl⟩ := List.getElem_of_mem hx
    rw [List.length_take] at hi
    have := findIdx_before (l := c) (p := p) d (j := i) (by omega)
    simp only [List.getD, List.getElem?_eq_getElem (show i < c.length by omega), Option.getD_some] at this
    simpa using this
  have h2 := findIdx_here (l := c) (p := p) d h
  rw [kpG_succ p d h, h1, h2]
  simp
end
/-- Whether a label has a lock. -/
def hasQ (l : List (Ty.den lockT)) (q : Ty.den lockT) : Bool := decide (l.findIdx (fun p => beqL p q) < l.length)
def hasL (x : Ty.den labT) (q : Ty.den lockT) : Bool := hasQ (aL x) q
abbrev pre_cx (a : List (Ty.den lockT)) (x : Ty.den labT) (n i : Int) : Prop := n = (a.length : Int) ∧ i = 0 ∧ szL a ∧ szL (aL x)
def rs_cx (a : List (Ty.den lockT)) (x : Ty.den labT) (n i : Int) : Ex × St := if a.findIdx (hasL x) < a.length then (.ret, St.of 19 (lve_cx (.ret)) [.si .i64 (a.findIdx (hasL x) : Nat)] [] [] hp_cx.kh hp_cx.kt) else (.exit 0, St.of 19 (lve_cx (.exit 0)) [] [] [] hp_cx.kh hp_cx.kt)
def res_cx (a : List (Ty.den lockT)) (x : Ty.den labT) (n i : Int) : Tr (Ex × St) := .br (decide (pre_cx a x n i)) (.br (decide (a.findIdx (hasL x) < a.length)) (.leaf (some (.ret, St.of 19 (lve_cx (.ret)) [.si .i64 (a.findIdx (hasL x) : Nat)] [] [] hp_cx.kh hp_cx.kt))) (.leaf (some (.exit 0, St.of 19 (lve_cx (.exit 0)) [] [] [] hp_cx.kh hp_cx.kt)))) (.leaf none)
theorem res_cx_run (a : List (Ty.den lockT)) (x : Ty.den labT) (n i : Int) (h : pre_cx a x n i) : (res_cx a x n i).run = some (rs_cx a x n i) := by
  unfold res_cx rs_cx
  rw [decide_eq_true h]
  exact (Tr.run_ite rfl rfl)
theorem res_cx_no (a : List (Ty.den lockT)) (x : Ty.den labT) (n i : Int) (h : ¬ pre_cx a x n i) : (res_cx a x n i).run = none := Tr.run_no h
def ent_cx : LEnt := LEnt.by hp_cx fun ⟨(a, (x, _), n, i, _), _, _⟩ => res_cx a x n i
theorem ent_cx_ok (hgo : ∀ (a : List (Ty.den lockT)) (x : Ty.den labT) (n i : Int), pre_cx a x n i → SemL Tryd.prog Γ (lp 82 0) (st_cx a x n i) (rs_cx a x n i).1.to (rs_cx a x n i).2) : EntOk Tryd.prog Γ (lp 82 0) ent_cx := LEnt.by_ok fun ⟨(a, (x, _), n, i, _), _, _⟩ ex_ s_ h_ => by
  have h_ : (res_cx a x n i).run = some (ex_, s_) := h_
  by_cases hp_ : pre_cx a x n i
  · rw [res_cx_run a x n i hp_] at h_
    obtain ⟨rfl, rfl⟩ := Prod.mk.inj (Option.some.inj h_)
    exact hgo a x n i hp_
  · rw [res_cx_no a x n i hp_] at h_
    cases h_
theorem cx_go (a : List (Ty.den lockT)) (x : Ty.den labT) (n i : Int) (h : pre_cx a x n i) : SemL Tryd.prog Γ (lp 82 0) (st_cx a x n i) (rs_cx a x n i).1.to (rs_cx a x n i).2 := by
  obtain ⟨rfl, rfl, ha, hx⟩ := h
  have hla := ha.1
  refine scan_find a lockT.dflt (hasL x) (fun i => st_cx a x a.length (i : Nat)) (fun i => St.of 19 (lve_cx .ret) [.si .i64 (i : Nat)] [] [] 0 0) _ 0 (fun i hi hp => ?_) (fun i hi hp => ?_) ?_
  · refine rn_cx_c a x a.length i (e := .normal) ?_
    have hw : IntKind.i64.wrap ((i : Int) + 1) = ((i + 1 : Nat) : Int) := by rw [wrap_in (by omega) (by omega)]; rfl
    have hpr : pre_cq (aL x) (a.getD i lockT.dflt) (Nat.cast (aL x).length : Int) 0 := ⟨rfl, rfl, hx, ha.2 _ (getD_mem hi lockT.dflt)⟩
    rw [rn_cx_eq, hw, decide_eq_true (by omega : (i : Int) < a.length), decide_eq_true (by omega : (0 : Int) ≤ (i : Int) ∧ (i : Int) < a.length), Int.toNat_natCast, decide_eq_true hpr, idx_ge]
    unfold hasL hasQ at hp
    rw [hp]
    rfl
  · refine rn_cx_c a x a.length i (e := .ret) ?_
    have hpr : pre_cq (aL x) (a.getD i lockT.dflt) (Nat.cast (aL x).length : Int) 0 := ⟨rfl, rfl, hx, ha.2 _ (getD_mem hi lockT.dflt)⟩
    rw [rn_cx_eq, decide_eq_true (by omega : (i : Int) < a.length), decide_eq_true (by omega : (0 : Int) ≤ (i : Int) ∧ (i : Int) < a.length), Int.toNat_natCast, decide_eq_true hpr, idx_ge]
    unfold hasL hasQ at hp
    rw [hp]
    rfl
  · refine rn_cx_c a x a.length a.length (e := .exit 0) ?_
    rw [rn_cx_eq, decide_eq_false (by omega)]
    rfl
abbrev pre_dl (j : Nat) (k i u : Int) (ev : List Int) (co : List (Ty.den conf)) (t c : Int) (lx l : List (Ty.den lockT)) : Prop := j = l.length ∧ szL l ∧ szL lx ∧ 0 ≤ k ∧ k < (j : Int) ∧ i = k + 1 ∧ (l.findIdx (hasQ lx) : Int) = k
def rs_dl (j : Nat) (k i u : Int) (ev : List Int) (co : List (Ty.den conf)) (t c : Int) (lx l : List (Ty.den lockT)) : Ex × St := (.exit 0, St.of 42 (lve_dl (.exit 0)) [.bs true 0 0 j, .si .i64 ((kpG (hasQ lx) l j).length : Nat)] [some [.si .i64 u, .slst .ro ity ev, .slst .ro conf co, .si .i64 t, .si .i64 c, .slst .ro lockT lx]] [ll' (kpGL (hasQ lx) l j)] hp_dl.kh hp_dl.kt)
def res_dl (j : Nat) (k i u : Int) (ev : List Int) (co : List (Ty.den conf)) (t c : Int) (lx l : List (Ty.den lockT)) : Tr (Ex × St) := .br (decide (pre_dl j k i u ev co t c lx l)) (.leaf (some (.exit 0, St.of 42 (lve_dl (.exit 0)) [.bs true 0 0 j, .si .i64 ((kpG (hasQ lx) l j).length : Nat)] [some [.si .i64 u, .slst .ro ity ev, .slst .ro conf co, .si .i64 t, .si .i64 c, .slst .ro lockT lx]] [ll' (kpGL (hasQ lx) l j)] hp_dl.kh hp_dl.kt))) (.leaf none)
theorem res_dl_run (j : Nat) (k i u : Int) (ev : List Int) (co : List (Ty.den conf)) (t c : Int) (lx l : List (Ty.den lockT)) (h : pre_dl j k i u ev co t c lx l) : (res_dl j k i u ev co t c lx l).run = some (rs_dl j k i u ev co t c lx l) := by
  unfold res_dl rs_dl
  rw [decide_eq_true h]
  exact rfl
theorem res_dl_no (j : Nat) (k i u : Int) (ev : List Int) (co : List (Ty.den conf)) (t c : Int) (lx l : List (Ty.den lockT)) (h : ¬ pre_dl j k i u ev co t c lx l) : (res_dl j k i u ev co t c lx l).run = none := Tr.run_no h
def ent_dl : LEnt := LEnt.by hp_dl fun ⟨(j, (_, _), k, i, _), ((u, ev, co, t, c, lx, _), _), (l, _)⟩ => res_dl j k i u ev co t c lx l
theorem ent_dl_ok (hgo : ∀ (j : Nat) (k i u : Int) (ev : List Int) (co : List (Ty.den conf)) (t c : Int) (lx l : List (Ty.den lockT)), pre_dl j k i u ev co t c lx l → SemL Tryd.prog Γ (lp 62 0) (st_dl j k i u ev co t c lx l) (rs_dl j k i u ev co t c lx l).1.to (rs_dl j k i u ev co t c lx l).2) : EntOk Tryd.prog Γ (lp 62 0) ent_dl := LEnt.by_ok fun ⟨(j, (_, _), k, i, _), ((u, ev, co, t, c, lx, _), _), (l, _)⟩ ex_ s_ h_ => by
  have h_ : (res_dl j k i u ev co t c lx l).run = some (ex_, s_) := h_
  by_cases hp_ : pre_dl j k i u ev co t c lx l
  · rw [res_dl_run j k i u ev co t c lx l hp_] at h_
    obtain ⟨rfl, rfl⟩ := Prod.mk.inj (Option.some.inj h_)
    exact hgo j k i u ev co t c lx l hp_
  · rw [res_dl_no j k i u ev co t c lx l hp_] at h_
    cases h_
theorem dl_go (j : Nat) (k i u : Int) (ev : List Int) (co : List (Ty.den conf)) (t tk : Int) (lx c : List (Ty.den lockT)) (h : pre_dl j k i u ev co t tk lx c) : SemL Tryd.prog Γ (lp 62 0) (st_dl j k i u ev co t tk lx c) (rs_dl j k i u ev co t tk lx c).1.to (rs_dl j k i u ev co t tk lx c).2 := by
  obtain ⟨hj, hc, hx, h0, hk, rfl, hk2⟩ := h
  have hj2 := hc.1
  obtain ⟨k0, rfl⟩ := Int.eq_ofNat_of_zero_le h0
  have hk : k0 < j := by omega
  have hk2 : c.findIdx (hasQ lx) = k0 := by omega
  have e0 : kpG (hasQ lx) c (k0 + 1) = c.take k0 := by rw [← hk2]; exact kpG_at _ lockT.dflt (by omega)
  have e1 : (kpG (hasQ lx) c (k0 + 1)).length = k0 := by rw [e0, List.length_take]; omega
  have e2 : kpGL (hasQ lx) c (k0 + 1) = c := by unfold kpGL; rw [e1, e0, List.take_append_drop]
  have key := SemL.scan (P := Tryd.prog) (Γ := Γ) (b := lp 62 0) j (k0 + 1) (by omega) (fun i => st_dl j ((kpG (hasQ lx) c i).length : Nat) (i : Nat) u ev co t tk lx (kpGL (hasQ lx) c i)) (fun _ => true) (rs_dl j (k0 : Nat) ((k0 : Int) + 1) u ev co t tk lx c) ?_ ?_ ?_
  · simp only [e1, e2] at key
    exact key
  · intro i h1 h2 _ _
    have hw : IntKind.i64.wrap ((i : Int) + 1) = ((i + 1 : Nat) : Int) := by rw [wrap_in (by omega) (by omega)]; rfl
    have hle := kpG_le (hasQ lx) c i
    have hw2 : IntKind.i64.wrap (((kpG (hasQ lx) c i).length : Int) + 1) = (((kpG (hasQ lx) c i).length + 1 : Nat) : Int) := by rw [wrap_in (by omega) (by omega)]; rfl
    have hL := kpGL_len (hasQ lx) (c := c) (i := i) (by omega)
    have hs := kpG_succ (hasQ lx) (c := c) (i := i) lockT.dflt (by omega)
    have hpr : pre_cq lx (c.getD i lockT.dflt) (Nat.cast lx.length : Int) 0 := ⟨rfl, rfl, hx, hc.2 _ (getD_mem (by omega) lockT.dflt)⟩
    have eq := rn_dl_eq j (kpG (hasQ lx) c i).length i u ev co t tk lx (kpGL (hasQ lx) c i)
    rw [hw, hw2, hL, Int.toNat_natCast, Int.toNat_natCast, Nat.zero_add, Nat.zero_add, kpGL_get (hasQ lx) lockT.dflt (Nat.le_refl _), decide_eq_true (by omega : (i : Int) < j), decide_eq_true (by omega : (0 : Int) ≤ (i : Int) ∧ (i : Int) < j), decide_eq_true (by omega : i < c.length), decide_eq_true hpr, idx_ge] at eq
    have hb0 : decide (lx.findIdx (fun p => beqL p (c.getD i lockT.dflt)) < lx.length) = hasQ lx (c.getD i lockT.dflt) := rfl
    rw [hb0] at eq
    cases hbb : hasQ lx (c.getD i lockT.dflt) with
    | true =>
      rw [hbb] at eq hs
      simp only [Bool.not_true, cond_false, List.append_nil] at hs
      have := rn_dl_c j (kpG (hasQ lx) c i).length i u ev co t tk lx (kpGL (hasQ lx) c i) (eq.trans rfl)
      have hkl : kpGL (hasQ lx) c (i + 1) = kpGL (hasQ lx) c i := by unfold kpGL; rw [hs]
      rw [hs, hkl]
      exact this
    | false =>
      rw [hbb] at eq hs
      simp only [Bool.not_false, cond_true] at hs
      rw [decide_eq_true (by omega : (0 : Int) ≤ ((kpG (hasQ lx) c i).length : Nat) ∧ (((kpG (hasQ lx) c i).length : Nat) : Int) < j), decide_eq_true (by omega : (kpG (hasQ lx) c i).length < c.length)] at eq
      have hkl : (kpGL (hasQ lx) c i).set (kpG (hasQ lx) c i).length (c.getD i lockT.dflt) = kpGL (hasQ lx) c (i + 1) := by
        unfold kpGL
        rw [setG_app (by omega), hs, List.length_append]
        rfl
      rw [hkl] at eq
      have := rn_dl_c j (kpG (hasQ lx) c i).length i u ev co t tk lx (kpGL (hasQ lx) c i) (eq.trans rfl)
      rw [show (kpG (hasQ lx) c (i + 1)).length = (kpG (hasQ lx) c i).length + 1 by rw [hs]; simp]
      exact this
  · intro i _ _ _ h; cases h
  · intro _
    refine ⟨by simp [rs_dl, Ex.to], ?_⟩
    have eq := rn_dl_eq j (kpG (hasQ lx) c j).length j u ev co t tk lx (kpGL (hasQ lx) c j)
    rw [decide_eq_false (by omega : ¬ (j : Int) < j)] at eq
    exact rn_dl_c j (kpG (hasQ lx) c j).length j u ev co t tk lx (kpGL (hasQ lx) c j) (eq.trans rfl)
def e21 (x y : Ty.den labT) : Option Bool × V := (some (decide (szX x ∧ szX y)), .sb (sameB x y))
theorem e21_of (x y : Ty.den labT) (h : (e21 x y).1.getD true = true) : SemF Tryd.prog Γ 21 [labT.val x, labT.val y] [] [] (e21 x y).2 [] [] := c21_ok x y (of_decide_eq_true h).1 (of_decide_eq_true h).2
noncomputable def orc35 : Orc := fun f args => if f = 21 then (Ty.ofVs [labT, labT] args).map (fun x => e21 x.1 x.2.1) else orc33 f args
theorem orc35_ok : OrcOk Tryd.prog Γ orc35 := orc33_ok.plain 21 [labT, labT] (fun x => e21 x.1 x.2.1) Tryd.f21 Tryd.func21 rfl (by kernel_rfl) (fun x h => e21_of _ _ h)
def lo35a : LOrc := (LOrc.add lo34a 62 0 ent_dl)
theorem lo35a_ok : LOrcOk Tryd.prog Γ lo35a := (LOrcOk.add lo34a_ok 62 0 Tryd.func62 bd_dl le_dl (ent_dl_ok dl_go))
def lo35 : LOrc := LOrc.add lo35a 82 0 (LEnt.or (LEnt.or ent_lq ent_cq) ent_cx)
theorem lo35_ok : LOrcOk Tryd.prog Γ lo35 := LOrcOk.add lo35a_ok 82 0 Tryd.func82 bd_lq le_lq (LEnt.or_ok (LEnt.or_ok (ent_lq_ok lq_go) (ent_cq_ok cq_go) rfl rfl) (ent_cx_ok cx_go) rfl rfl)
noncomputable def cfg35 : Cfg := cfgT T31 isT31 orc35 lo35
theorem cfg35_ok : CfgOk Tryd.prog Γ cfg35 := cfgT_ok T31_ok orc35_ok lo35_ok
def mkL (u : Int) (ev : List Int) (co : List (Ty.den conf)) (t c : Int) (l : List (Ty.den lockT)) : Ty.den labT := (u, ev, co, t, c, l, ())
-- 
-- 
-- 
-- 
theorem c19e_run (u : Int) (ev : List Int) (co : List (Ty.den conf)) (t c : Int) (uw : Int) (ew : List Int) (cw : List (Ty.den conf)) (tw kw : Int) (lw : List (Ty.den lockT)) : runL cfg35 19 [.agg [.si .i64 u, .slst .ro ity ev, .slst .ro conf co, .si .i64 t, .si .i64 c, .lst .ro []], .agg [.si .i64 uw, .slst .ro ity ew, .slst .ro conf cw, .si .i64 tw, .si .i64 kw, .slst .ro lockT lw]] = .ok (some ((some (decide (szE ev co []) && (!validE u ev co t c [] || decide (szE ew cw lw)))).getD true && ((bif !validE u ev co t c [] then true else !validE uw ew cw tw kw lw) || decide (pre_cx [] (mkL uw ew cw tw kw lw) (0 : Int) (0 : Int)) && (some ((bif decide ((0 : Nat) < (0 : Nat)) then (Nat.cast ((0 : Nat)) : Int) else (-1 : Int)) == (-1 : Int) && true)).getD true && (decide (szX (mkL u ev co t c []) ∧ szX (mkL uw ew cw tw kw lw)) && decide (szX (joinV (mkL u ev co t c []) (mkL uw ew cw tw kw lw)) ∧ szX (mkL uw ew cw tw kw lw)))))) (V.sb (bif bif !validE u ev co t c [] then true else !validE uw ew cw tw kw lw then false else sameB (joinV (mkL u ev co t c []) (mkL uw ew cw tw kw lw)) (mkL uw ew cw tw kw lw))) := by kernel_rfl
theorem c19_run (u : Int) (ev : List Int) (co : List (Ty.den conf)) (t c : Int) (l : List (Ty.den lockT)) (uw : Int) (ew : List Int) (cw : List (Ty.den conf)) (tw kw : Int) (lw : List (Ty.den lockT)) : runL cfg35 19 [.agg [.si .i64 u, .slst .ro ity ev, .slst .ro conf co, .si .i64 t, .si .i64 c, .slst .ro lockT l], .agg [.si .i64 uw, .slst .ro ity ew, .slst .ro conf cw, .si .i64 tw, .si .i64 kw, .slst .ro lockT lw]] = .ok (some ((some (decide (szE ev co l) && (!validE u ev co t c l || decide (szE ew cw lw)))).getD true && ((bif !validE u ev co t c l then true else !validE uw ew cw tw kw lw) || decide (0 < l.length) && (some (decide (l.length * 2 * (32 : Nat) ≤ 281474976710656) && true)).getD true && (decide (pre_cx (List.take l.length (List.drop (0) l)) (mkL uw ew cw tw kw lw) (Nat.cast ((List.take l.length (List.drop (0) l)).length) : Int) (0 : Int)) && (some ((bif decide (List.findIdx (hasL (mkL uw ew cw tw kw lw)) (List.take l.length (List.drop (0) l)) < (List.take l.length (List.drop (0) l)).length) then (Nat.cast ((List.findIdx (hasL (mkL uw ew cw tw kw lw)) (List.take l.length (List.drop (0) l)))) : Int) else (-1 : Int)) == (-1 : Int) && true)).getD true && decide ((Nat.cast (l.length) : Int) > (0 : Int)))))) (V.b false) := by kernel_rfl
end L
end Go.Proofs.YthjiodeaepigmaaDoor

/- Package label: DeleteFunc of locks as a contract; Below, printed. -/
set_option linter.unusedVariables false
set_option linter.unusedSimpArgs false
set_option maxRecDepth 100000
set_option maxHeartbeats 4000000
namespace Go.Proofs.YthjiodeaepigmaaDoor
open Go
namespace L
-- 
-- 
-- 
-- 
def delQ (p : Ty.den lockT → Bool) (l : List (Ty.den lockT)) (j : Nat) : List (Ty.den lockT) := kpG p l j ++ List.replicate (j - (kpG p l j).length) lockT.dflt ++ l.drop j
def fp_g62 : FP := ⟨[.bz 0, .fn 64 [.ptr 0 0]], [.cells [.ty ity, .ty (.slice ity), .ty (.slice conf), .ty ity, .ty ity, .ty (.slice lockT)]], [.arr lockT]⟩
abbrev cn_g62 (j : Nat) (u : Int) (ev : List Int) (co : List (Ty.den conf)) (t c : Int) (lx l : List (Ty.den lockT)) : Prop := j = l.length ∧ szL l ∧ szL lx
noncomputable def cr_g62 (j : Nat) (u : Int) (ev : List Int) (co : List (Ty.den conf)) (t c : Int) (lx l : List (Ty.den lockT)) : Option Bool × V × Ob × Nm := (some (decide (cn_g62 j u ev co t c lx l)), .bs true 0 0 (kpG (hasQ lx) l j).length, [some [.si .i64 u, .slst .ro ity ev, .slst .ro conf co, .si .i64 t, .si .i64 c, .slst .ro lockT lx]], [ll' (delQ (hasQ lx) l j)])
noncomputable def ct_g62 := Ct.by fp_g62 fun ⟨(j, (_, _), _), ((u, ev, co, t, c, lx, _), _), (l, _)⟩ => cr_g62 j u ev co t c lx l
abbrev sf_g62 (j : Nat) (u : Int) (ev : List Int) (co : List (Ty.den conf)) (t c : Int) (lx l : List (Ty.den lockT)) : Prop := SemF Tryd.prog Γ 62 (SP.vals fp_g62.sp (j, ((), ()), ())) (OP.vals fp_g62.op ((u, ev, co, t, c, lx, ()), ())) (BP.vals fp_g62.bp (l, ())) (.bs true 0 0 (kpG (hasQ lx) l j).length) ([some [.si .i64 u, .slst .ro ity ev, .slst .ro conf co, .si .i64 t, .si .i64 c, .slst .ro lockT lx]]) ([ll' (delQ (hasQ lx) l j)])
noncomputable def ev_g62 (C : Cfg) (lv : List Nat) (j : Nat) (u : Int) (ev : List Int) (co : List (Ty.den conf)) (t c : Int) (lx l : List (Ty.den lockT)) := evV Tryd.prog Γ C lv 62 (SP.vals fp_g62.sp (j, ((), ()), ())) (OP.vals fp_g62.op ((u, ev, co, t, c, lx, ()), ())) (BP.vals fp_g62.bp (l, ()))
theorem cr_g62_ok (j : Nat) (u : Int) (ev : List Int) (co : List (Ty.den conf)) (t c : Int) (lx l : List (Ty.den lockT)) (h : (cr_g62 j u ev co t c lx l).1.getD true = true) : cn_g62 j u ev co t c lx l := of_decide_eq_true h
theorem ct_g62_ok (H : ∀ (j : Nat) (u : Int) (ev : List Int) (co : List (Ty.den conf)) (t c : Int) (lx l : List (Ty.den lockT)), cn_g62 j u ev co t c lx l → sf_g62 j u ev co t c lx l) : ∀ args ob nm c v ob1 nm1, ct_g62 args ob nm = some (c, v, ob1, nm1) → c.getD true = true → SemF Tryd.prog Γ 62 args ob nm v ob1 nm1 := Ct.by_ok fun ⟨(j, (_, _), _), ((u, ev, co, t, c, lx, _), _), (l, _)⟩ h => H j u ev co t c lx l (cr_g62_ok j u ev co t c lx l h)
theorem t62_eq (j : Nat) (u : Int) (ev : List Int) (co : List (Ty.den conf)) (t c : Int) (lx l : List (Ty.den lockT)) : (ev_g62 cfg35 [] j u ev co t c lx l).run = (bif decide (pre_cx (List.take j (List.drop (0) l)) (mkL u ev co t c lx) (Nat.cast ((List.take j (List.drop (0) l)).length) : Int) (0 : Int)) then (bif (bif decide (List.findIdx (hasL (mkL u ev co t c lx)) (List.take j (List.drop (0) l)) < (List.take j (List.drop (0) l)).length) then (Nat.cast ((List.findIdx (hasL (mkL u ev co t c lx)) (List.take j (List.drop (0) l)))) : Int) else (-1 : Int)) == (-1 : Int) then (some ((V.bs true (0 : Nat) (0 : Nat) j, [some [V.si IntKind.i64 u, V.slst Tag.ro ity ev, V.slst Tag.ro conf co, V.si IntKind.i64 t, V.si IntKind.i64 c, V.slst Tag.ro lockT lx]], [some (Bf.live (BC.arr lockT l))]))) else (bif decide (pre_dl j (bif decide (List.findIdx (hasL (mkL u ev co t c lx)) (List.take j (List.drop (0) l)) < (List.take j (List.drop (0) l)).length) then (Nat.cast ((List.findIdx (hasL (mkL u ev co t c lx)) (List.take j (List.drop (0) l)))) : Int) else (-1 : Int)) (IntKind.i64.wrap ((bif decide (List.findIdx (hasL (mkL u ev co t c lx)) (List.take j (List.drop (0) l)) < (List.take j (List.drop (0) l)).length) then (Nat.cast ((List.findIdx (hasL (mkL u ev co t c lx)) (List.take j (List.drop (0) l)))) : Int) else (-1 : Int)) + (1 : Int))) u ev co t c lx l) then (bif decide ((0 : Int) ≤ (Nat.cast ((kpG (hasQ lx) l j).length) : Int) ∧ (Nat.cast ((kpG (hasQ lx) l j).length) : Int) ≤ (Nat.cast (j) : Int) ∧ (Nat.cast (j) : Int) ≤ (Nat.cast (j) : Int)) then (bif decide ((0 : Int) ≤ (0 : Int) ∧ (0 : Int) ≤ (Nat.cast ((kpG (hasQ lx) l j).length) : Int) ∧ (Nat.cast ((kpG (hasQ lx) l j).length) : Int) ≤ (Nat.cast (j) : Int)) then (some ((V.bs true (0 : Nat) (0 : Nat) (((Nat.cast ((kpG (hasQ lx) l j).length) : Int)).toNat - (0 : Nat)), [some [V.si IntKind.i64 u, V.slst Tag.ro ity ev, V.slst Tag.ro conf co, V.si IntKind.i64 t, V.si IntKind.i64 c, V.slst Tag.ro lockT lx]], [some (Bf.live (BC.arr lockT (List.take (0 + ((Nat.cast ((kpG (hasQ lx) l j).length) : Int)).toNat) (List.drop (0) (kpGL (hasQ lx) l j)) ++ List.take (((Nat.cast (j) : Int)).toNat - ((Nat.cast ((kpG (hasQ lx) l j).length) : Int)).toNat) (List.drop (0) (List.replicate (((Nat.cast (j) : Int)).toNat - ((Nat.cast ((kpG (hasQ lx) l j).length) : Int)).toNat) lockT.dflt)) ++ List.take ((kpGL (hasQ lx) l j).length - (0 + ((Nat.cast ((kpG (hasQ lx) l j).length) : Int)).toNat + (((Nat.cast (j) : Int)).toNat - ((Nat.cast ((kpG (hasQ lx) l j).length) : Int)).toNat))) (List.drop (0 + ((Nat.cast ((kpG (hasQ lx) l j).length) : Int)).toNat + (((Nat.cast (j) : Int)).toNat - ((Nat.cast ((kpG (hasQ lx) l j).length) : Int)).toNat)) (kpGL (hasQ lx) l j)))))]))) else none) else none) else none)) else none) := by kernel_rfl
theorem g62_go (j : Nat) (u : Int) (ev : List Int) (co : List (Ty.den conf)) (t c : Int) (lx l : List (Ty.den lockT)) (h : cn_g62 j u ev co t c lx l) : sf_g62 j u ev co t c lx l := by
  obtain ⟨rfl, hl, hx⟩ := h
  have hj2 := hl.1
  refine SemF.of_tree cfg35_ok (lv := []) (Eq.trans (t62_eq l.length u ev co t c lx l) ?_)
  have ht : List.take l.length l = l := List.take_length
  have hh : hasL (mkL u ev co t c lx) = hasQ lx := rfl
  simp only [List.drop_zero, ht, hh]
  have p1 : pre_cx l (mkL u ev co t c lx) (l.length : Int) 0 := ⟨rfl, rfl, hl, hx⟩
  rw [decide_eq_true p1]
  have hle := kpG_le (hasQ lx) l l.length
  by_cases hlt : l.findIdx (hasQ lx) < l.length
  · have hw : IntKind.i64.wrap (((l.findIdx (hasQ lx) : Nat) : Int) + 1) = ((l.findIdx (hasQ lx) : Nat) : Int) + 1 := wrap_in (by omega) (by omega)
    have p2 : pre_dl l.length ((l.findIdx (hasQ lx) : Nat) : Int) (((l.findIdx (hasQ lx) : Nat) : Int) + 1) u ev co t c lx l := ⟨rfl, hl, hx, by omega, by omega, rfl, rfl⟩
    have hne : (((l.findIdx (hasQ lx) : Nat) : Int) == (-1 : Int)) = false := by rw [beq_eq_false_iff_ne]; omega
    rw [decide_eq_true hlt]
    simp only [cond_true, hw, hne, cond_false, Int.toNat_natCast, Nat.zero_add, Nat.sub_zero]
    rw [decide_eq_true p2, decide_eq_true (by omega), decide_eq_true (by omega)]
    simp only [cond_true]
    have hL := kpGL_len (hasQ lx) (c := l) (i := l.length) (Nat.le_refl _)
    have hd : List.take (kpG (hasQ lx) l l.length).length (kpGL (hasQ lx) l l.length) = kpG (hasQ lx) l l.length := by unfold kpGL; rw [List.take_left']; rfl
    have hd2 : List.drop ((kpG (hasQ lx) l l.length).length + (l.length - (kpG (hasQ lx) l l.length).length)) (kpGL (hasQ lx) l l.length) = l.drop l.length := by
      unfold kpGL
      rw [Nat.add_sub_cancel' hle, List.drop_append, List.drop_eq_nil_of_le hle, List.nil_append, List.drop_drop, Nat.add_sub_cancel' hle]
    rw [hd, hd2, List.take_of_length_le (l := List.replicate _ _) (by simp), List.take_of_length_le (l := l.drop l.length) (by rw [List.length_drop, hL]; omega)]
    rfl
  · rw [decide_eq_false hlt]
    simp only [cond_true, cond_false]
    have hkp : kpG (hasQ lx) l l.length = l := by
      unfold kpG
      rw [ht, List.filter_eq_self]
      intro x hx
      obtain ⟨i, hi, rfl⟩ := List.getElem_of_mem hx
      have := findIdx_before (l := l) (p := hasQ lx) lockT.dflt (j := i) (by omega)
      rw [getD_eq hi] at this
      rw [this]; rfl
    have hdl : delQ (hasQ lx) l l.length = l := by unfold delQ; rw [hkp]; simp
    rw [hdl, hkp]
    rfl
noncomputable def T36 : CallT := fun f args ob nm => match Nat.beq f 62 with | true => ct_g62 args ob nm | false => T31 f args ob nm
theorem T36_ok : CtOk Tryd.prog Γ T36 := CtOk.cons T31_ok 62 ct_g62 (by decide) Tryd.f62 Tryd.func62 (by kernel_rfl) (by kernel_rfl) (ct_g62_ok g62_go)
def isT36 (f : FuncId) : Bool := isT31 f || Nat.beq f 62
noncomputable def cfg36 : Cfg := cfgT T36 isT36 orc35 lo35
theorem cfg36_ok : CfgOk Tryd.prog Γ cfg36 := cfgT_ok T36_ok orc35_ok lo35_ok
def fp_h62 : FP := ⟨[.bz 0, .fn 64 [.ptr 0 0]], [.cells [.ty ity, .ty (.slice ity), .ty (.slice conf), .ty ity, .ty ity, .ty (.slice lockT)]], [.arr lockT]⟩
abbrev cn_h62 (j : Nat) (u : Int) (ev : List Int) (co : List (Ty.den conf)) (t c : Int) (lx l : List (Ty.den lockT)) : Prop := (j = l.length ∧ szL l ∧ szL lx) ∧ kpG (hasQ lx) l j = []
noncomputable def cr_h62 (j : Nat) (u : Int) (ev : List Int) (co : List (Ty.den conf)) (t c : Int) (lx l : List (Ty.den lockT)) : Option Bool × V × Ob × Nm := (some (decide (cn_h62 j u ev co t c lx l)), .lst .ro [], [some [.si .i64 u, .slst .ro ity ev, .slst .ro conf co, .si .i64 t, .si .i64 c, .slst .ro lockT lx]], [ll' (delQ (hasQ lx) l j)])
noncomputable def ct_h62 := Ct.by fp_h62 fun ⟨(j, (_, _), _), ((u, ev, co, t, c, lx, _), _), (l, _)⟩ => cr_h62 j u ev co t c lx l
abbrev sf_h62 (j : Nat) (u : Int) (ev : List Int) (co : List (Ty.den conf)) (t c : Int) (lx l : List (Ty.den lockT)) : Prop := SemF Tryd.prog Γ 62 (SP.vals fp_h62.sp (j, ((), ()), ())) (OP.vals fp_h62.op ((u, ev, co, t, c, lx, ()), ())) (BP.vals fp_h62.bp (l, ())) (.lst .ro []) ([some [.si .i64 u, .slst .ro ity ev, .slst .ro conf co, .si .i64 t, .si .i64 c, .slst .ro lockT lx]]) ([ll' (delQ (hasQ lx) l j)])
noncomputable def ev_h62 (C : Cfg) (lv : List Nat) (j : Nat) (u : Int) (ev : List Int) (co : List (Ty.den conf)) (t c : Int) (lx l : List (Ty.den lockT)) := evV Tryd.prog Γ C lv 62 (SP.vals fp_h62.sp (j, ((), ()), ())) (OP.vals fp_h62.op ((u, ev, co, t, c, lx, ()), ())) (BP.vals fp_h62.bp (l, ()))
theorem cr_h62_ok (j : Nat) (u : Int) (ev : List Int) (co : List (Ty.den conf)) (t c : Int) (lx l : List (Ty.den lockT)) (h : (cr_h62 j u ev co t c lx l).1.getD true = true) : cn_h62 j u ev co t c lx l := of_decide_eq_true h
theorem ct_h62_ok (H : ∀ (j : Nat) (u : Int) (ev : List Int) (co : List (Ty.den conf)) (t c : Int) (lx l : List (Ty.den lockT)), cn_h62 j u ev co t c lx l → sf_h62 j u ev co t c lx l) : ∀ args ob nm c v ob1 nm1, ct_h62 args ob nm = some (c, v, ob1, nm1) → c.getD true = true → SemF Tryd.prog Γ 62 args ob nm v ob1 nm1 := Ct.by_ok fun ⟨(j, (_, _), _), ((u, ev, co, t, c, lx, _), _), (l, _)⟩ h => H j u ev co t c lx l (cr_h62_ok j u ev co t c lx l h)
theorem bs_ro {n off : Nat} (G : Gh) (cv : Value) (h : VRel G (.bs true n off 0) cv) : VRel G (.lst .ro []) cv := by
  cases h with
  | bs0 => exact .lst0 _ _
  | bs1 => exact .lst0 _ _
  | bs h hl => exact .lst1 _ _
theorem h62_go (j : Nat) (u : Int) (ev : List Int) (co : List (Ty.den conf)) (t c : Int) (lx l : List (Ty.den lockT)) (h : cn_h62 j u ev co t c lx l) : sf_h62 j u ev co t c lx l := by
  have := g62_go j u ev co t c lx l h.1
  have e0 : (kpG (hasQ lx) l j).length = 0 := by rw [h.2]; rfl
  refine SemF.weaken (v := .bs true 0 0 (kpG (hasQ lx) l j).length) this fun G cv hr => ?_
  rw [e0] at hr
  exact bs_ro G cv hr
noncomputable def T36b : CallT := fun f args ob nm => match Nat.beq f 62 with | true => ct_h62 args ob nm | false => T31 f args ob nm
theorem T36b_ok : CtOk Tryd.prog Γ T36b := CtOk.cons T31_ok 62 ct_h62 (by decide) Tryd.f62 Tryd.func62 (by kernel_rfl) (by kernel_rfl) (ct_h62_ok h62_go)
noncomputable def cfg36b : Cfg := cfgT T36b isT36 orc35 lo35
theorem cfg36b_ok : CfgOk Tryd.prog Γ cfg36b := cfgT_ok T36b_ok orc35_ok lo35_ok
noncomputable def ev19b (u : Int) (ev : List Int) (co : List (Ty.den conf)) (t c : Int) (l : List (Ty.den lockT)) (uw : Int) (ew : List Int) (cw : List (Ty.den conf)) (tw kw : Int) (lw : List (Ty.den lockT)) : Tr V := (evFK Tryd.prog Γ (cfM Tryd.prog Γ cfg36b 30) cfg36b.lo (cfg36b.lv 19) 80 19 [.agg [.si .i64 u, .slst .ro ity ev, .slst .ro conf co, .si .i64 t, .si .i64 c, .slst .ro lockT l], .agg [.si .i64 uw, .slst .ro ity ew, .slst .ro conf cw, .si .i64 tw, .si .i64 kw, .slst .ro lockT lw]] [] []).bind fun p => .leaf (valO (some p))
noncomputable def ev19 (u : Int) (ev : List Int) (co : List (Ty.den conf)) (t c : Int) (l : List (Ty.den lockT)) (uw : Int) (ew : List Int) (cw : List (Ty.den conf)) (tw kw : Int) (lw : List (Ty.den lockT)) : Tr V := (evFK Tryd.prog Γ (cfM Tryd.prog Γ cfg36 30) cfg36.lo (cfg36.lv 19) 80 19 [.agg [.si .i64 u, .slst .ro ity ev, .slst .ro conf co, .si .i64 t, .si .i64 c, .slst .ro lockT l], .agg [.si .i64 uw, .slst .ro ity ew, .slst .ro conf cw, .si .i64 tw, .si .i64 kw, .slst .ro lockT lw]] [] []).bind fun p => .leaf (valO (some p))
theorem t19_eq (u : Int) (ev : List Int) (co : List (Ty.den conf)) (t c : Int) (l : List (Ty.den lockT)) (uw : Int) (ew : List Int) (cw : List (Ty.den conf)) (tw kw : Int) (lw : List (Ty.den lockT)) : (ev19 u ev co t c l uw ew cw tw kw lw).run = (bif (some (decide (szE ev co l) && (!validE u ev co t c l || decide (szE ew cw lw)))).getD true then (bif bif !validE u ev co t c l then true else !validE uw ew cw tw kw lw then (some (V.b false)) else (bif decide (0 < l.length) && (some (decide (l.length * 2 * 32 ≤ 281474976710656) && true)).getD true then (bif decide (cn_g62 l.length uw ew cw tw kw lw l) then (bif decide ((Nat.cast ((kpG (hasQ lw) l l.length).length) : Int) > (0 : Int)) then (some (V.b false)) else none) else none) else none)) else none) := by kernel_rfl
-- 
-- 
-- 
-- 
theorem t19b_eq (u : Int) (ev : List Int) (co : List (Ty.den conf)) (t c : Int) (l : List (Ty.den lockT)) (uw : Int) (ew : List Int) (cw : List (Ty.den conf)) (tw kw : Int) (lw : List (Ty.den lockT)) : (ev19b u ev co t c l uw ew cw tw kw lw).run = (bif (some (decide (szE ev co l) && (!validE u ev co t c l || decide (szE ew cw lw)))).getD true then (bif bif !validE u ev co t c l then true else !validE uw ew cw tw kw lw then (some (V.b false)) else (bif decide (0 < l.length) && (some (decide (l.length * 2 * 32 ≤ 281474976710656) && true)).getD true then (bif decide (cn_h62 l.length uw ew cw tw kw lw l) then (bif decide (szX (mkL u ev co t c []) ∧ szX (mkL uw ew cw tw kw lw)) then (bif decide (szX (joinV (mkL u ev co t c []) (mkL uw ew cw tw kw lw)) ∧ szX (mkL uw ew cw tw kw lw)) then (some (V.sb (sameB (joinV (mkL u ev co t c []) (mkL uw ew cw tw kw lw)) (mkL uw ew cw tw kw lw)))) else none) else none) else none) else none)) else none) := by kernel_rfl
end L
end Go.Proofs.YthjiodeaepigmaaDoor

/- Package label: Below, and the reference's Same, as contracts. -/
set_option linter.unusedVariables false
set_option linter.unusedSimpArgs false
set_option maxRecDepth 100000
set_option maxHeartbeats 4000000
namespace Go.Proofs.YthjiodeaepigmaaDoor
open Go
namespace L
/-! ### Valid labels are small -/
theorem pw_len {m : Int} : ∀ (l : List Int) (a : Int), (∀ x ∈ l, a ≤ x ∧ x ≤ m) → l.Pairwise (· < ·) → l.length ≤ (m + 1 - a).toNat
  | [], a, _, _ => Nat.zero_le _
  | x :: l, a, h, hp => by
    obtain ⟨h1, h2⟩ := h x (List.mem_cons_self ..)
    have hp := List.pairwise_cons.1 hp
    have := pw_len l (x + 1) (fun y hy => ⟨by have := hp.1 y hy; omega, (h y (List.mem_cons_of_mem _ hy)).2⟩) hp.2
    simp only [List.length_cons]
    omega
theorem rising_len {l : List Int} {m : Int} (h : risingD l m = true) : l.length ≤ (m + 1).toNat := by
  obtain ⟨h1, h2⟩ := rising_iff.1 h
  have := pw_len l 0 h1 h2
  simpa using this
theorem counts_len {l : List (Ty.den conf)} {m : Int} (h : countsD l m = true) : l.length ≤ 16 := by
  obtain ⟨h1, h2⟩ := counts_out h
  have := pw_len (m := 15) (l.map cF) 0 (fun x hx => by
    obtain ⟨y, hy, rfl⟩ := List.mem_map.1 hx
    exact ⟨(h1 y hy).1, (h1 y hy).2.1⟩) (by rw [List.pairwise_map]; exact h2)
  rw [List.length_map] at this
  exact this
theorem valid_all {x : Ty.den labT} (h : vX x = true) : (0 ≤ aU x ∧ aU x ≤ 50000000) ∧ (0 ≤ aT x ∧ aT x ≤ 255) ∧ (0 ≤ aK x ∧ aK x ≤ 255) ∧ (aL x).length ≤ 4 ∧ locksD (aL x) = true ∧ risingD (aE x) 19 = true ∧ countsD (aC x) 1 = true := by
  unfold vX validE inR at h
  simp only [Bool.and_eq_true, Bool.not_eq_true', decide_eq_false_iff_not, decide_eq_true_eq, ge_iff_le] at h
  obtain ⟨⟨⟨⟨⟨⟨h1, h2⟩, h3⟩, h4⟩, h5⟩, h6⟩, h7⟩ := h
  exact ⟨h1, h2, h3, by omega, h5, h6, h7⟩
theorem locks_out {l : List (Ty.den lockT)} (h : locksD l = true) : ∀ q ∈ l, risingD (kK q) 19 = true ∧ 1 ≤ kN q ∧ kN q ≤ (kK q).length := by
  intro q hq
  obtain ⟨i, hi, rfl⟩ := List.getElem_of_mem hq
  have := allI_true.1 h i hi
  unfold lkB at this
  have e1 : l.getD i lockT.dflt = l[i] := getD_eq hi _
  rw [e1] at this
  simp only [Bool.and_eq_true, decide_eq_true_eq, ge_iff_le] at this
  exact ⟨this.1.1, this.1.2.1, this.1.2.2⟩
theorem valid_sz {x : Ty.den labT} (h : vX x = true) : (aE x).length ≤ 20 ∧ (aC x).length ≤ 16 ∧ (aL x).length ≤ 4 ∧ ∀ q ∈ aL x, (kK q).length ≤ 20 := by
  obtain ⟨_, _, _, h4, h5, h6, h7⟩ := valid_all h
  exact ⟨rising_len h6, counts_len h7, h4, fun q hq => rising_len (locks_out h5 q hq).1⟩
theorem szX_of {x : Ty.den labT} (h : vX x = true) : szX x := by
  obtain ⟨h1, h2, h3, h4⟩ := valid_sz h
  exact ⟨by omega, by omega, by omega, fun q hq => by have := h4 q hq; omega⟩
theorem zero_sz : szX zeroL := ⟨Nat.zero_le _, Nat.zero_le _, Nat.zero_le _, fun q hq => by cases hq⟩
theorem join_sz {x y : Ty.den labT} (hx : vX x = true) (hy : vX y = true) : szX (joinT x y) := by
  obtain ⟨h1, h2, h3, h4⟩ := valid_sz hx
  obtain ⟨k1, k2, k3, k4⟩ := valid_sz hy
  refine ⟨?_, ?_, ?_, ?_⟩
  · have := unD_len sgn cbI (aE x) (aE y); show (unD sgn cbI (aE x) (aE y)).length ≤ _; omega
  · have := unD_len cmpC cbC (aC x) (aC y); show (unD cmpC cbC (aC x) (aC y)).length ≤ _; omega
  · have := unD_len cmpL cbL (aL x) (aL y); show (unD cmpL cbL (aL x) (aL y)).length ≤ _; omega
  · exact unD_mem (fun a b ha hb => ha) (fun q hq => by have := h4 q hq; omega) (fun q hq => by have := k4 q hq; omega)
theorem joinV_sz (x y : Ty.den labT) : szX (joinV x y) := by
  unfold joinV
  cases h : joinB x y with
  | false => exact zero_sz
  | true =>
    unfold joinB at h
    simp only [Bool.and_eq_true] at h
    exact join_sz h.1.1 h.1.2
/-! ### Below -/
def noL (x : Ty.den labT) : Ty.den labT := mkL (aU x) (aE x) (aC x) (aT x) (aK x) []
def belowB (x y : Ty.den labT) : Bool := vX x && vX y && (aL x).all (hasQ (aL y)) && sameB (joinV (noL x) y) y
theorem kp_nil {p : Ty.den lockT → Bool} {l : List (Ty.den lockT)} : kpG p l l.length = [] ↔ l.all p = true := by
  unfold kpG
  rw [List.take_length, List.filter_eq_nil_iff, List.all_eq_true]
  exact ⟨fun h x hx => by have := h x hx; simpa using this, fun h x hx => by simp [h x hx]⟩
theorem c19_ok (x y : Ty.den labT) (hx : szX x) (hy : szX y) : SemF Tryd.prog Γ 19 [labT.val x, labT.val y] [] [] (.sb (belowB x y)) [] [] := by
  have hx1 : szE (aE x) (aC x) (aL x) := hx
  have hy1 : szE (aE y) (aC y) (aL y) := hy
  have e2 : validE (aU y) (aE y) (aC y) (aT y) (aK y) (aL y) = vX y := rfl
  have e1 : validE (aU x) (aE x) (aC x) (aT x) (aK x) (aL x) = vX x := rfl
  have ey : mkL (aU y) (aE y) (aC y) (aT y) (aK y) (aL y) = y := (lab_ext _ _).2 ⟨rfl, rfl, rfl, rfl, rfl, rfl⟩
  by_cases h0 : aL x = []
  · have hxe : validE (aU x) (aE x) (aC x) (aT x) (aK x) [] = vX x := by rw [← h0]; rfl
    have hb : belowB x y = (vX x && vX y && sameB (joinV (noL x) y) y) := by unfold belowB; rw [h0]; simp
    have hsx : szE (aE x) (aC x) [] := ⟨hx1.1, hx1.2.1, Nat.zero_le _, fun q hq => by cases hq⟩
    have hrun := c19e_run (aU x) (aE x) (aC x) (aT x) (aK x) (aU y) (aE y) (aC y) (aT y) (aK y) (aL y)
    rw [ey, e2, hxe, decide_eq_true hsx, decide_eq_true hy1] at hrun
    have hp : pre_cx [] y 0 0 := ⟨rfl, rfl, ⟨Nat.zero_le _, fun q hq => by cases hq⟩, hy1.2.2⟩
    have hz : szX (mkL (aU x) (aE x) (aC x) (aT x) (aK x) []) := hsx
    rw [decide_eq_true hp, decide_eq_true (And.intro hz hy), decide_eq_true (And.intro (joinV_sz (mkL (aU x) (aE x) (aC x) (aT x) (aK x) []) y) hy)] at hrun
    refine SemF.args (of_runL cfg35_ok hrun ?_ ?_) ?_
    · cases vX x <;> cases vX y <;> rfl
    · rw [hb]
      unfold noL
      cases vX x <;> cases vX y <;> rfl
    · intro G c hc
      refine ⟨hc.1, fun j v cv h1 h2 => ?_⟩
      match j, h1 with
      | 0, h1 =>
        have := hc.2 0 _ cv rfl h2
        cases h1
        cases this with
        | agg hl hh =>
          refine .agg hl fun j v c h1 h2 => ?_
          match j, h1 with
          | 0, h1 => cases h1; exact hh 0 _ c rfl h2
          | 1, h1 => cases h1; exact hh 1 _ c rfl h2
          | 2, h1 => cases h1; exact hh 2 _ c rfl h2
          | 3, h1 => cases h1; exact hh 3 _ c rfl h2
          | 4, h1 => cases h1; exact hh 4 _ c rfl h2
          | 5, h1 =>
            have := hh 5 _ c rfl h2
            cases h1
            have e : (show List (Ty.den lockT) from x.2.2.2.2.2.1) = [] := h0
            cases this with
            | slst h =>
              have h : VRel G (.lst .ro ((aL x).map lockT.val)) c := h
              rw [h0] at h
              exact h
          | j + 6, h1 => cases h1
      | 1, h1 => cases h1; exact hc.2 1 _ cv rfl h2
      | j + 2, h1 => cases h1
  · have hpos : 0 < (aL x).length := List.length_pos_iff.2 h0
    have hc : (decide (0 < (aL x).length) && (some (decide ((aL x).length * 2 * 32 ≤ 281474976710656) && true)).getD true) = true := by
      have := hx1.2.2.1
      rw [decide_eq_true hpos, decide_eq_true (by omega)]; rfl
    by_cases hk : kpG (hasQ (aL y)) (aL x) (aL x).length = []
    · have ha := kp_nil.1 hk
      have eq := t19b_eq (aU x) (aE x) (aC x) (aT x) (aK x) (aL x) (aU y) (aE y) (aC y) (aT y) (aK y) (aL y)
      have hz : szX (mkL (aU x) (aE x) (aC x) (aT x) (aK x) []) := ⟨hx1.1, hx1.2.1, Nat.zero_le _, fun q hq => by cases hq⟩
      rw [ey, e1, e2, decide_eq_true hx1, decide_eq_true hy1, Bool.or_true, hc, decide_eq_true (show cn_h62 (aL x).length (aU y) (aE y) (aC y) (aT y) (aK y) (aL y) (aL x) from ⟨⟨rfl, hx1.2.2, hy1.2.2⟩, hk⟩), decide_eq_true (And.intro hz hy), decide_eq_true (And.intro (joinV_sz (mkL (aU x) (aE x) (aC x) (aT x) (aK x) []) y) hy)] at eq
      have hb : belowB x y = (vX x && vX y && sameB (joinV (noL x) y) y) := by unfold belowB; rw [ha]; simp
      rw [hb]
      cases vx : vX x <;> cases vy : vX y <;> rw [vx, vy] at eq
      · exact (of_val cfg36b_ok (eq.trans rfl)).weaken fun G cv h => by cases h; exact .sb _
      · exact (of_val cfg36b_ok (eq.trans rfl)).weaken fun G cv h => by cases h; exact .sb _
      · exact (of_val cfg36b_ok (eq.trans rfl)).weaken fun G cv h => by cases h; exact .sb _
      · exact of_val cfg36b_ok (eq.trans rfl)
    · have ha : ((aL x).all (hasQ (aL y))) = false := by
        cases hh : (aL x).all (hasQ (aL y)) with
        | false => rfl
        | true => exact absurd (kp_nil.2 hh) hk
      have hp2 : 0 < (kpG (hasQ (aL y)) (aL x) (aL x).length).length := List.length_pos_iff.2 hk
      have eq := t19_eq (aU x) (aE x) (aC x) (aT x) (aK x) (aL x) (aU y) (aE y) (aC y) (aT y) (aK y) (aL y)
      rw [e1, e2, decide_eq_true hx1, decide_eq_true hy1, Bool.or_true, hc, decide_eq_true (show cn_g62 (aL x).length (aU y) (aE y) (aC y) (aT y) (aK y) (aL y) (aL x) from ⟨rfl, hx1.2.2, hy1.2.2⟩), decide_eq_true (by omega : (Nat.cast (kpG (hasQ (aL y)) (aL x) (aL x).length).length : Int) > 0)] at eq
      have hb : belowB x y = false := by unfold belowB; rw [ha]; simp
      rw [hb]
      cases vx : vX x <;> cases vy : vX y <;> rw [vx, vy] at eq <;> exact (of_val cfg36_ok (eq.trans rfl)).weaken fun G cv h => by cases h; exact .sb _
/-! ### The reference's Same -/
def okR (x : Ty.den labT) : Bool := (aE x).all inr && (aL x).all fun q => (kK q).all inr
theorem wrap_zero {n : Int} (h : IntKind.i64.wrap n = 0) : n % 18446744073709551616 = 0 := by
  have e1 : (2 : Int) ^ 64 = 18446744073709551616 := rfl
  have e2 : (2 : Int) ^ (64 - 1) = 9223372036854775808 := rfl
  simp only [IntKind.wrap, IntKind.signed, IntKind.bits, Bool.true_and, decide_eq_true_eq, e1, e2] at h
  split at h <;> omega
theorem rcmp_zero : ∀ {a b : List Int}, a.all inr = true → b.all inr = true → a.length ≤ 1000000 → b.length ≤ 1000000 → (rcmp a b = 0 ↔ a = b)
  | [], b, _, _, _, h2 => by
    have e0 : ((([] : List Int).length : Nat) : Int) = 0 := rfl
    rw [rcmp_end (.inl rfl), e0, wrap_in (by omega) (by omega)]
    cases b <;> simp
    all_goals try omega
  | x :: a, [], _, _, h1, _ => by
    simp only [List.length_cons] at h1
    have e0 : ((([] : List Int).length : Nat) : Int) = 0 := rfl
    rw [rcmp_end (.inr rfl), e0, wrap_in (by simp only [List.length_cons]; omega) (by simp only [List.length_cons]; omega)]
    simp
    try omega
  | x :: a, y :: b, ha, hb, h1, h2 => by
    rw [List.all_cons, Bool.and_eq_true] at ha hb
    have hx := of_decide_eq_true ha.1
    have hy := of_decide_eq_true hb.1
    simp only [List.length_cons] at h1 h2
    unfold rcmp
    by_cases e : x = y
    · subst e
      rw [if_neg (by simp), rcmp_zero ha.2 hb.2 (by omega) (by omega)]
      simp
    · rw [if_pos e]
      constructor
      · intro h
        have := wrap_zero h
        omega
      · intro h; cases h; exact absurd rfl e
theorem c18_ok (x y : Ty.den labT) (hx : szX x) (hy : szX y) (ox : okR x = true) (oy : okR y = true) : SemF Tryd.prog Γ 18 [labT.val x, labT.val y] [] [] (.sb (sameB x y)) [] [] := by
  have hx1 : szE (aE x) (aC x) (aL x) := hx
  have hy1 : szE (aE y) (aC y) (aL y) := hy
  unfold okR at ox oy
  rw [Bool.and_eq_true] at ox oy
  have hr := rcmp_zero ox.1 oy.1 hx1.1 hy1.1
  refine of_runL cfg34_ok (c18_run (aU x) (aE x) (aC x) (aT x) (aK x) (aL x) (aU y) (aE y) (aC y) (aT y) (aK y) (aL y)) ?_ ?_
  · rw [decide_eq_true (And.intro hx1.1 hy1.1)]
    simp only [lenb, Bool.or_true, Option.getD_some, Bool.true_and]
    by_cases e1 : (aC x).length = (aC y).length
    · by_cases e2 : (aL x).length = (aL y).length
      · rw [decide_eq_true (show pre_s0 0 (aU x) (aE x) (aC x) (aT x) (aK x) (aL x) (aU y) (aE y) (aC y) (aT y) (aK y) (aL y) from ⟨rfl, e1, hx1.2.1⟩), decide_eq_true (show pre_s1 0 (aU x) (aE x) (aC x) (aT x) (aK x) (aL x) (aU y) (aE y) (aC y) (aT y) (aK y) (aL y) from ⟨rfl, e2, hx1.2.2, hy1.2.2⟩)]
        simp
      · rw [decide_eq_false e2]
        cases (aU x != aU y) <;> cases (aT x != aT y) <;> cases (aK x != aK y) <;> cases (rcmp (aE x) (aE y) != 0) <;> simp
    · rw [decide_eq_false e1]
      cases (aU x != aU y) <;> cases (aT x != aT y) <;> cases (aK x != aK y) <;> cases (rcmp (aE x) (aE y) != 0) <;> simp
  · congr 1
    rw [Bool.eq_iff_iff]
    unfold sameB
    rw [decide_eq_true_eq, lab_ext]
    simp only [lenb]
    by_cases h1 : aU x = aU y
    · by_cases h3 : aT x = aT y
      · by_cases h4 : aK x = aK y
        · by_cases h5 : aE x = aE y
          · have hr0 : rcmp (aE x) (aE y) = 0 := hr.2 h5
            have hr1 : rcmp (aE y) (aE y) = 0 := by rw [h5] at hr0; exact hr0
            by_cases l1 : (aC x).length = (aC y).length
            · by_cases l2 : (aL x).length = (aL y).length
              · have q1 := eqI_iff (c := beqC) (d := conf.dflt) l1 (fun x _ y _ => beqC_iff)
                have q2 := eqI_iff (c := beqR) (d := lockT.dflt) l2 (fun p hp q hq => by
                  rw [lock_ext]
                  unfold beqR
                  have k := rcmp_zero (List.all_eq_true.1 ox.2 p hp) (List.all_eq_true.1 oy.2 q hq) (hx1.2.2.2 p hp) (hy1.2.2.2 q hq)
                  cases hb : (kN p == kN q) with
                  | true => simp only [cond_true, beq_iff_eq, k]; rw [beq_iff_eq] at hb; simp [hb]
                  | false => rw [beq_eq_false_iff_ne] at hb; simp [hb])
                by_cases g1 : eqI beqC conf.dflt (aC x) (aC y) = true <;> by_cases g2 : eqI beqR lockT.dflt (aL x) (aL y) = true <;> simp [h1, h3, h4, h5, l1, l2, g1, g2, hr0, hr1, ← q1, ← q2]
              · have : ¬ aL x = aL y := fun e => l2 (congrArg List.length e)
                simp [h1, h3, h4, h5, l1, l2, hr0, hr1, this]
            · have : ¬ aC x = aC y := fun e => l1 (congrArg List.length e)
              simp [h1, h3, h4, h5, l1, hr0, hr1, this]
          · have hr0 : ¬ rcmp (aE x) (aE y) = 0 := fun e => h5 (hr.1 e)
            simp [h1, h3, h4, h5, hr0]
        · simp [h1, h3, h4]
      · simp [h1, h3]
    · simp [h1]
end L
end Go.Proofs.YthjiodeaepigmaaDoor

/- Package label: LabelJoins, LabelLattice reckoned. -/
set_option linter.unusedVariables false
set_option linter.unusedSimpArgs false
set_option maxRecDepth 100000
set_option maxHeartbeats 4000000
namespace Go.Proofs.YthjiodeaepigmaaDoor
open Go
namespace L
-- 
-- 
def e19 (x y : Ty.den labT) : Option Bool × V := (some (decide (szX x ∧ szX y)), .sb (belowB x y))
theorem e19_of (x y : Ty.den labT) (h : (e19 x y).1.getD true = true) : SemF Tryd.prog Γ 19 [labT.val x, labT.val y] [] [] (e19 x y).2 [] [] := c19_ok x y (of_decide_eq_true h).1 (of_decide_eq_true h).2
def fitB (x y : Ty.den labT) : Prop := (szX x ∧ szX y) ∧ okR x = true ∧ okR y = true
instance (x y : Ty.den labT) : Decidable (fitB x y) := inferInstanceAs (Decidable (_ ∧ _))
def e18 (x y : Ty.den labT) : Option Bool × V := (some (decide (fitB x y)), .sb (sameB x y))
theorem e18_of (x y : Ty.den labT) (h : (e18 x y).1.getD true = true) : SemF Tryd.prog Γ 18 [labT.val x, labT.val y] [] [] (e18 x y).2 [] [] := c18_ok x y (of_decide_eq_true h).1.1 (of_decide_eq_true h).1.2 (of_decide_eq_true h).2.1 (of_decide_eq_true h).2.2
noncomputable def orc38 : Orc := fun f args => if f = 18 then (Ty.ofVs [labT, labT] args).map (fun x => e18 x.1 x.2.1) else (fun f args => if f = 19 then (Ty.ofVs [labT, labT] args).map (fun x => e19 x.1 x.2.1) else orc35 f args) f args
theorem orc38_ok : OrcOk Tryd.prog Γ orc38 := (orc35_ok.plain 19 [labT, labT] (fun x => e19 x.1 x.2.1) Tryd.f19 Tryd.func19 rfl (by kernel_rfl) (fun x h => e19_of _ _ h)).plain 18 [labT, labT] (fun x => e18 x.1 x.2.1) Tryd.f18 Tryd.func18 rfl (by kernel_rfl) (fun x h => e18_of _ _ h)
noncomputable def cfg38 : Cfg := cfgT T36 isT36 orc38 lo35
theorem cfg38_ok : CfgOk Tryd.prog Γ cfg38 := cfgT_ok T36_ok orc38_ok lo35_ok
def noneL : Ty.den labT := ((0 : Int), ([] : List Int), ([] : List (Ty.den conf)), (255 : Int), (255 : Int), ([] : List (Ty.den lockT)), ())
def rsX (x : Ty.den labT) (rt rc : Int) (m : Ty.den momT) : Int := rsn x rt rc (bN m) (bD m) (bE m) (bC m) (bK m)
-- 
-- 
-- 
-- 
-- 
-- 
-- 
-- 
-- 
-- 
-- 
-- 
-- 
-- 
-- 
-- 
-- 
theorem c6_run (x0 x1 x2 x3 x4 x5 x6 y0 y1 y2 y3 y4 y5 y6 n0 n1 n2 n3 n4 t c : Int) : runL cfg38 6 [.agg [.si .i64 x0, .si .i64 x1, .si .i64 x2, .si .i64 x3, .si .i64 x4, .si .i64 x5, .si .i64 x6], .agg [.si .i64 y0, .si .i64 y1, .si .i64 y2, .si .i64 y3, .si .i64 y4, .si .i64 y5, .si .i64 y6], .agg [.si .i64 n0, .si .i64 n1, .si .i64 n2, .si .i64 n3, .si .i64 n4], .si .i64 t, .si .i64 c] = .ok (some (inr x0 && inr x1 && inr x2 && inr x3 && inr x4 && inr x5 && inr x6 && (inr y0 && inr y1 && inr y2 && inr y3 && inr y4 && inr y5 && inr y6 && (inr n0 && inr n1 && inr n2 && inr n3 && inr n4 && (inr t && decide ((8 : Int) ≠ (0 : Int)) && (inr c && decide ((8 : Int) ≠ (0 : Int)) && (decide (szX (madeD x0 x1 x2 x3 x4 x5 x6) ∧ szX (madeD y0 y1 y2 y3 y4 y5 y6)) && ((some (joinN (madeD x0 x1 x2 x3 x4 x5 x6) (madeD y0 y1 y2 y3 y4 y5 y6) != (0 : Int) || decide (szX (joinV (madeD x0 x1 x2 x3 x4 x5 x6) (madeD y0 y1 y2 y3 y4 y5 y6)) ∧ szY (momD n0 n1 n2 n3 n4)) && (decide (szX (madeD x0 x1 x2 x3 x4 x5 x6) ∧ szY (momD n0 n1 n2 n3 n4)) && (!rsX (madeD x0 x1 x2 x3 x4 x5 x6) (pickD t (8 : Int)) (pickD c (8 : Int)) (momD n0 n1 n2 n3 n4) == (0 : Int) || decide (szX (madeD y0 y1 y2 y3 y4 y5 y6) ∧ szY (momD n0 n1 n2 n3 n4)))))).getD true && ((bif joinN (madeD x0 x1 x2 x3 x4 x5 x6) (madeD y0 y1 y2 y3 y4 y5 y6) != (0 : Int) then true else bif rsX (madeD x0 x1 x2 x3 x4 x5 x6) (pickD t (8 : Int)) (pickD c (8 : Int)) (momD n0 n1 n2 n3 n4) == (0 : Int) then !(rsX (joinV (madeD x0 x1 x2 x3 x4 x5 x6) (madeD y0 y1 y2 y3 y4 y5 y6)) (pickD t (8 : Int)) (pickD c (8 : Int)) (momD n0 n1 n2 n3 n4) == (0 : Int)) == (rsX (madeD y0 y1 y2 y3 y4 y5 y6) (pickD t (8 : Int)) (pickD c (8 : Int)) (momD n0 n1 n2 n3 n4) == (0 : Int)) else !(rsX (joinV (madeD x0 x1 x2 x3 x4 x5 x6) (madeD y0 y1 y2 y3 y4 y5 y6)) (pickD t (8 : Int)) (pickD c (8 : Int)) (momD n0 n1 n2 n3 n4) == (0 : Int)) == false) || (some (decide (szX (madeD x0 x1 x2 x3 x4 x5 x6) ∧ szX (madeD y0 y1 y2 y3 y4 y5 y6)) && (!belowB (madeD x0 x1 x2 x3 x4 x5 x6) (madeD y0 y1 y2 y3 y4 y5 y6) || decide (szX (madeD y0 y1 y2 y3 y4 y5 y6) ∧ szY (momD n0 n1 n2 n3 n4)) && (!rsX (madeD y0 y1 y2 y3 y4 y5 y6) (pickD t (8 : Int)) (pickD c (8 : Int)) (momD n0 n1 n2 n3 n4) == (0 : Int) || decide (szX (madeD x0 x1 x2 x3 x4 x5 x6) ∧ szY (momD n0 n1 n2 n3 n4)))))).getD true && ((bif belowB (madeD x0 x1 x2 x3 x4 x5 x6) (madeD y0 y1 y2 y3 y4 y5 y6) then bif rsX (madeD y0 y1 y2 y3 y4 y5 y6) (pickD t (8 : Int)) (pickD c (8 : Int)) (momD n0 n1 n2 n3 n4) == (0 : Int) then !rsX (madeD x0 x1 x2 x3 x4 x5 x6) (pickD t (8 : Int)) (pickD c (8 : Int)) (momD n0 n1 n2 n3 n4) == (0 : Int) else false else false) || (some (decide (szX (madeD y0 y1 y2 y3 y4 y5 y6) ∧ szX (madeD x0 x1 x2 x3 x4 x5 x6)) && (!belowB (madeD y0 y1 y2 y3 y4 y5 y6) (madeD x0 x1 x2 x3 x4 x5 x6) || decide (szX (madeD x0 x1 x2 x3 x4 x5 x6) ∧ szY (momD n0 n1 n2 n3 n4)) && (!rsX (madeD x0 x1 x2 x3 x4 x5 x6) (pickD t (8 : Int)) (pickD c (8 : Int)) (momD n0 n1 n2 n3 n4) == (0 : Int) || decide (szX (madeD y0 y1 y2 y3 y4 y5 y6) ∧ szY (momD n0 n1 n2 n3 n4)))))).getD true && ((bif belowB (madeD y0 y1 y2 y3 y4 y5 y6) (madeD x0 x1 x2 x3 x4 x5 x6) then bif rsX (madeD x0 x1 x2 x3 x4 x5 x6) (pickD t (8 : Int)) (pickD c (8 : Int)) (momD n0 n1 n2 n3 n4) == (0 : Int) then !rsX (madeD y0 y1 y2 y3 y4 y5 y6) (pickD t (8 : Int)) (pickD c (8 : Int)) (momD n0 n1 n2 n3 n4) == (0 : Int) else false else false) || (some (decide (szX (madeD x0 x1 x2 x3 x4 x5 x6) ∧ szX (joinV (madeD x0 x1 x2 x3 x4 x5 x6) (madeD y0 y1 y2 y3 y4 y5 y6))) && (!belowB (madeD x0 x1 x2 x3 x4 x5 x6) (joinV (madeD x0 x1 x2 x3 x4 x5 x6) (madeD y0 y1 y2 y3 y4 y5 y6)) || decide (szX (joinV (madeD x0 x1 x2 x3 x4 x5 x6) (madeD y0 y1 y2 y3 y4 y5 y6)) ∧ szY (momD n0 n1 n2 n3 n4)) && (!rsX (joinV (madeD x0 x1 x2 x3 x4 x5 x6) (madeD y0 y1 y2 y3 y4 y5 y6)) (pickD t (8 : Int)) (pickD c (8 : Int)) (momD n0 n1 n2 n3 n4) == (0 : Int) || decide (szX (madeD x0 x1 x2 x3 x4 x5 x6) ∧ szY (momD n0 n1 n2 n3 n4)))))).getD true && ((bif belowB (madeD x0 x1 x2 x3 x4 x5 x6) (joinV (madeD x0 x1 x2 x3 x4 x5 x6) (madeD y0 y1 y2 y3 y4 y5 y6)) then bif rsX (joinV (madeD x0 x1 x2 x3 x4 x5 x6) (madeD y0 y1 y2 y3 y4 y5 y6)) (pickD t (8 : Int)) (pickD c (8 : Int)) (momD n0 n1 n2 n3 n4) == (0 : Int) then !rsX (madeD x0 x1 x2 x3 x4 x5 x6) (pickD t (8 : Int)) (pickD c (8 : Int)) (momD n0 n1 n2 n3 n4) == (0 : Int) else false else false) || (some (decide (szX (madeD y0 y1 y2 y3 y4 y5 y6) ∧ szX (joinV (madeD x0 x1 x2 x3 x4 x5 x6) (madeD y0 y1 y2 y3 y4 y5 y6))) && (!belowB (madeD y0 y1 y2 y3 y4 y5 y6) (joinV (madeD x0 x1 x2 x3 x4 x5 x6) (madeD y0 y1 y2 y3 y4 y5 y6)) || decide (szX (joinV (madeD x0 x1 x2 x3 x4 x5 x6) (madeD y0 y1 y2 y3 y4 y5 y6)) ∧ szY (momD n0 n1 n2 n3 n4)) && (!rsX (joinV (madeD x0 x1 x2 x3 x4 x5 x6) (madeD y0 y1 y2 y3 y4 y5 y6)) (pickD t (8 : Int)) (pickD c (8 : Int)) (momD n0 n1 n2 n3 n4) == (0 : Int) || decide (szX (madeD y0 y1 y2 y3 y4 y5 y6) ∧ szY (momD n0 n1 n2 n3 n4)))))).getD true && ((bif belowB (madeD y0 y1 y2 y3 y4 y5 y6) (joinV (madeD x0 x1 x2 x3 x4 x5 x6) (madeD y0 y1 y2 y3 y4 y5 y6)) then bif rsX (joinV (madeD x0 x1 x2 x3 x4 x5 x6) (madeD y0 y1 y2 y3 y4 y5 y6)) (pickD t (8 : Int)) (pickD c (8 : Int)) (momD n0 n1 n2 n3 n4) == (0 : Int) then !rsX (madeD y0 y1 y2 y3 y4 y5 y6) (pickD t (8 : Int)) (pickD c (8 : Int)) (momD n0 n1 n2 n3 n4) == (0 : Int) else false else false) || (some (decide (szX noneL ∧ szX (madeD x0 x1 x2 x3 x4 x5 x6)) && (!belowB noneL (madeD x0 x1 x2 x3 x4 x5 x6) || decide (szX (madeD x0 x1 x2 x3 x4 x5 x6) ∧ szY (momD n0 n1 n2 n3 n4)) && (!rsX (madeD x0 x1 x2 x3 x4 x5 x6) (pickD t (8 : Int)) (pickD c (8 : Int)) (momD n0 n1 n2 n3 n4) == (0 : Int) || decide (szX noneL ∧ szY (momD n0 n1 n2 n3 n4)))))).getD true))))))))))))) (V.sb (bif bif joinN (madeD x0 x1 x2 x3 x4 x5 x6) (madeD y0 y1 y2 y3 y4 y5 y6) != (0 : Int) then true else bif rsX (madeD x0 x1 x2 x3 x4 x5 x6) (pickD t (8 : Int)) (pickD c (8 : Int)) (momD n0 n1 n2 n3 n4) == (0 : Int) then !(rsX (joinV (madeD x0 x1 x2 x3 x4 x5 x6) (madeD y0 y1 y2 y3 y4 y5 y6)) (pickD t (8 : Int)) (pickD c (8 : Int)) (momD n0 n1 n2 n3 n4) == (0 : Int)) == (rsX (madeD y0 y1 y2 y3 y4 y5 y6) (pickD t (8 : Int)) (pickD c (8 : Int)) (momD n0 n1 n2 n3 n4) == (0 : Int)) else !(rsX (joinV (madeD x0 x1 x2 x3 x4 x5 x6) (madeD y0 y1 y2 y3 y4 y5 y6)) (pickD t (8 : Int)) (pickD c (8 : Int)) (momD n0 n1 n2 n3 n4) == (0 : Int)) == false then false else bif bif belowB (madeD x0 x1 x2 x3 x4 x5 x6) (madeD y0 y1 y2 y3 y4 y5 y6) then bif rsX (madeD y0 y1 y2 y3 y4 y5 y6) (pickD t (8 : Int)) (pickD c (8 : Int)) (momD n0 n1 n2 n3 n4) == (0 : Int) then !rsX (madeD x0 x1 x2 x3 x4 x5 x6) (pickD t (8 : Int)) (pickD c (8 : Int)) (momD n0 n1 n2 n3 n4) == (0 : Int) else false else false then false else bif bif belowB (madeD y0 y1 y2 y3 y4 y5 y6) (madeD x0 x1 x2 x3 x4 x5 x6) then bif rsX (madeD x0 x1 x2 x3 x4 x5 x6) (pickD t (8 : Int)) (pickD c (8 : Int)) (momD n0 n1 n2 n3 n4) == (0 : Int) then !rsX (madeD y0 y1 y2 y3 y4 y5 y6) (pickD t (8 : Int)) (pickD c (8 : Int)) (momD n0 n1 n2 n3 n4) == (0 : Int) else false else false then false else bif bif belowB (madeD x0 x1 x2 x3 x4 x5 x6) (joinV (madeD x0 x1 x2 x3 x4 x5 x6) (madeD y0 y1 y2 y3 y4 y5 y6)) then bif rsX (joinV (madeD x0 x1 x2 x3 x4 x5 x6) (madeD y0 y1 y2 y3 y4 y5 y6)) (pickD t (8 : Int)) (pickD c (8 : Int)) (momD n0 n1 n2 n3 n4) == (0 : Int) then !rsX (madeD x0 x1 x2 x3 x4 x5 x6) (pickD t (8 : Int)) (pickD c (8 : Int)) (momD n0 n1 n2 n3 n4) == (0 : Int) else false else false then false else bif bif belowB (madeD y0 y1 y2 y3 y4 y5 y6) (joinV (madeD x0 x1 x2 x3 x4 x5 x6) (madeD y0 y1 y2 y3 y4 y5 y6)) then bif rsX (joinV (madeD x0 x1 x2 x3 x4 x5 x6) (madeD y0 y1 y2 y3 y4 y5 y6)) (pickD t (8 : Int)) (pickD c (8 : Int)) (momD n0 n1 n2 n3 n4) == (0 : Int) then !rsX (madeD y0 y1 y2 y3 y4 y5 y6) (pickD t (8 : Int)) (pickD c (8 : Int)) (momD n0 n1 n2 n3 n4) == (0 : Int) else false else false then false else bif bif belowB noneL (madeD x0 x1 x2 x3 x4 x5 x6) then bif rsX (madeD x0 x1 x2 x3 x4 x5 x6) (pickD t (8 : Int)) (pickD c (8 : Int)) (momD n0 n1 n2 n3 n4) == (0 : Int) then !rsX noneL (pickD t (8 : Int)) (pickD c (8 : Int)) (momD n0 n1 n2 n3 n4) == (0 : Int) else false else false then false else true)) := by kernel_rfl
end L
end Go.Proofs.YthjiodeaepigmaaDoor

/- Package label: the laws of unions and of joins, in plain terms. -/
set_option linter.unusedVariables false
set_option linter.unusedSimpArgs false
set_option maxRecDepth 100000
set_option maxHeartbeats 4000000
namespace Go.Proofs.YthjiodeaepigmaaDoor
open Go
namespace L
section
variable {α : Type} {cmp : α → α → Int} {cb : α → α → α}
theorem un_nil (b : List α) : unD cmp cb [] b = b := by unfold unD; rw [mgA_nil]; rfl
theorem un_end (a : List α) : unD cmp cb a [] = a := by unfold unD; rw [mgA_end]; simp
theorem un_cons (x y : α) (a b : List α) : unD cmp cb (x :: a) (y :: b) = if cmp x y < 0 then x :: unD cmp cb a (y :: b) else if cmp x y > 0 then y :: unD cmp cb (x :: a) b else cb x y :: unD cmp cb a b := by
  unfold unD
  rw [mgA_cons]
  split
  · rfl
  · split <;> rfl
/-- A comparison that orders, and what is made of equal ones. -/
structure Ord (cmp : α → α → Int) (cb : α → α → α) : Prop where
  tr : ∀ {x y z}, cmp x y < 0 → cmp y z < 0 → cmp x z < 0
  sy : ∀ {x y}, cmp x y > 0 ↔ cmp y x < 0
  zl : ∀ {x y} z, cmp x y = 0 → cmp y z = cmp x z
  cb1 : ∀ {x y} z, cmp x y = 0 → cmp (cb x y) z = cmp x z
  cbc : ∀ {x y}, cmp x y = 0 → cb x y = cb y x
  cba : ∀ {x y z}, cmp x y = 0 → cmp y z = 0 → cb (cb x y) z = cb x (cb y z)
  cbi : ∀ x, cb x x = x
namespace Ord
variable (h : Ord cmp cb)
include h
theorem z0 {x y : α} : cmp x y = 0 → cmp y x = 0 := fun e => by
  have h1 := h.sy (x := x) (y := y)
  have h2 := h.sy (x := y) (y := x)
  omega
theorem refl (x : α) : cmp x x = 0 := by
  have h1 := h.sy (x := x) (y := x)
  omega
theorem zr {x y : α} (z : α) (e : cmp x y = 0) : (cmp z y < 0 ↔ cmp z x < 0) ∧ (cmp z y = 0 ↔ cmp z x = 0) ∧ (cmp z y > 0 ↔ cmp z x > 0) := by
  have e1 := h.zl z e
  have a1 := h.sy (x := z) (y := y)
  have a2 := h.sy (x := y) (y := z)
  have a3 := h.sy (x := z) (y := x)
  have a4 := h.sy (x := x) (y := z)
  omega
theorem cb2 {x y : α} (z : α) (e : cmp x y = 0) : (cmp z (cb x y) < 0 ↔ cmp z x < 0) ∧ (cmp z (cb x y) = 0 ↔ cmp z x = 0) ∧ (cmp z (cb x y) > 0 ↔ cmp z x > 0) := by
  have e1 := h.cb1 z e
  have a1 := h.sy (x := z) (y := cb x y)
  have a2 := h.sy (x := cb x y) (y := z)
  have a3 := h.sy (x := z) (y := x)
  have a4 := h.sy (x := x) (y := z)
  omega
theorem le_tr {x y z : α} (a : cmp x y ≤ 0) (b : cmp y z < 0) : cmp x z < 0 := by
  by_cases e : cmp x y = 0
  · rw [← h.zl z e]; exact b
  · exact h.tr (by omega) b
theorem tr_le {x y z : α} (a : cmp x y < 0) (b : cmp y z ≤ 0) : cmp x z < 0 := by
  by_cases e : cmp y z = 0
  · exact (h.zr x e).1.2 a
  · exact h.tr a (by omega)
/-- What holds of all that is put together. -/
theorem all {p : α → Prop} (hp : ∀ x y, cmp x y = 0 → (p (cb x y) ↔ p x ∧ p y)) : ∀ (n : Nat) (a b : List α), a.length + b.length ≤ n → ((∀ w ∈ unD cmp cb a b, p w) ↔ (∀ x ∈ a, p x) ∧ ∀ y ∈ b, p y)
  | _, [], b, _ => by have _ := h.refl; rw [un_nil]; simp
  | _, x :: a, [], _ => by rw [un_end]; simp
  | 0, x :: a, y :: b, hn => by simp at hn
  | n + 1, x :: a, y :: b, hn => by
    simp only [List.length_cons] at hn
    rw [un_cons]
    split
    · rw [List.forall_mem_cons, all hp n a (y :: b) (by simp only [List.length_cons]; omega), List.forall_mem_cons (a := x), and_assoc]
    · split
      · rw [List.forall_mem_cons, all hp n (x :: a) b (by simp only [List.length_cons]; omega), List.forall_mem_cons (a := y)]
        constructor
        · rintro ⟨q1, q2, q3⟩; exact ⟨q2, q1, q3⟩
        · rintro ⟨q1, q2, q3⟩; exact ⟨q2, q1, q3⟩
      · rw [List.forall_mem_cons, all hp n a b (by omega), List.forall_mem_cons (a := x), List.forall_mem_cons (a := y), hp x y (by omega)]
        constructor
        · rintro ⟨⟨q1, q2⟩, q3, q4⟩; exact ⟨⟨q1, q3⟩, q2, q4⟩
        · rintro ⟨⟨q1, q3⟩, q2, q4⟩; exact ⟨⟨q1, q2⟩, q3, q4⟩
theorem sorted : ∀ (n : Nat) (a b : List α), a.length + b.length ≤ n → a.Pairwise (fun x y => cmp x y < 0) → b.Pairwise (fun x y => cmp x y < 0) → (unD cmp cb a b).Pairwise (fun x y => cmp x y < 0)
  | _, [], b, _, _, hb => by rw [un_nil]; exact hb
  | _, x :: a, [], _, ha, _ => by rw [un_end]; exact ha
  | 0, x :: a, y :: b, hn, _, _ => by simp at hn
  | n + 1, x :: a, y :: b, hn, ha, hb => by
    simp only [List.length_cons] at hn
    rw [un_cons]
    obtain ⟨a1, a2⟩ := List.pairwise_cons.1 ha
    obtain ⟨b1, b2⟩ := List.pairwise_cons.1 hb
    have key : ∀ (z : α), ∀ u v, cmp u v = 0 → (cmp z (cb u v) < 0 ↔ cmp z u < 0 ∧ cmp z v < 0) := fun z u v e => by
      rw [(h.cb2 z e).1, (h.zr z e).1, and_self]
    split
    · rename_i c
      refine List.pairwise_cons.2 ⟨(h.all (key x) _ a (y :: b) (Nat.le_refl _)).2 ⟨a1, fun w hw => ?_⟩, sorted n a (y :: b) (by simp only [List.length_cons]; omega) a2 hb⟩
      rcases List.mem_cons.1 hw with rfl | hw
      · exact c
      · exact h.tr c (b1 w hw)
    · split
      · rename_i c
        have c := h.sy.1 c
        refine List.pairwise_cons.2 ⟨(h.all (key y) _ (x :: a) b (Nat.le_refl _)).2 ⟨fun w hw => ?_, b1⟩, sorted n (x :: a) b (by simp only [List.length_cons]; omega) ha b2⟩
        rcases List.mem_cons.1 hw with rfl | hw
        · exact c
        · exact h.tr c (a1 w hw)
      · rename_i c1 c2
        have e : cmp x y = 0 := by omega
        refine List.pairwise_cons.2 ⟨(h.all (key (cb x y)) _ a b (Nat.le_refl _)).2 ⟨fun w hw => ?_, fun w hw => ?_⟩, sorted n a b (by omega) a2 b2⟩
        · rw [h.cb1 w e]; exact a1 w hw
        · rw [h.cb1 w e, ← h.zl w e]; exact b1 w hw
theorem comm : ∀ (n : Nat) (a b : List α), a.length + b.length ≤ n → unD cmp cb a b = unD cmp cb b a
  | _, [], b, _ => by rw [un_nil, un_end]
  | _, x :: a, [], _ => by rw [un_nil, un_end]
  | 0, x :: a, y :: b, hn => by simp at hn
  | n + 1, x :: a, y :: b, hn => by
    simp only [List.length_cons] at hn
    rw [un_cons, un_cons]
    have s1 := h.sy (x := x) (y := y)
    have s2 := h.sy (x := y) (y := x)
    by_cases c1 : cmp x y < 0
    · rw [if_pos c1, if_neg (by omega), if_pos (by omega), comm n a (y :: b) (by simp only [List.length_cons]; omega)]
    · by_cases c2 : cmp x y > 0
      · rw [if_neg c1, if_pos c2, if_pos (by omega), comm n (x :: a) b (by simp only [List.length_cons]; omega)]
      · rw [if_neg c1, if_neg c2, if_neg (by omega), if_neg (by omega), comm n a b (by omega), h.cbc (by omega)]
theorem idem : ∀ (a : List α), unD cmp cb a a = a
  | [] => un_nil _
  | x :: a => by
    have := h.refl x
    rw [un_cons, if_neg (by omega), if_neg (by omega), idem a, h.cbi]
/-- A list all of whose elements another one has adds nothing. -/
theorem absorb (hz : ∀ x y, cmp x y = 0 → x = y) : ∀ (n : Nat) (a b : List α), a.length + b.length ≤ n → a.Pairwise (fun x y => cmp x y < 0) → b.Pairwise (fun x y => cmp x y < 0) → (∀ x ∈ a, x ∈ b) → unD cmp cb a b = b
  | _, [], b, _, _, _, _ => un_nil _
  | _, x :: a, [], _, _, _, hs => by cases hs x (List.mem_cons_self ..)
  | 0, x :: a, y :: b, hn, _, _, _ => by simp at hn
  | n + 1, x :: a, y :: b, hn, ha, hb, hs => by
    simp only [List.length_cons] at hn
    obtain ⟨a1, a2⟩ := List.pairwise_cons.1 ha
    obtain ⟨b1, b2⟩ := List.pairwise_cons.1 hb
    have r := h.refl x
    rw [un_cons]
    rcases List.mem_cons.1 (hs x (List.mem_cons_self ..)) with e | hx
    · subst e
      rw [if_neg (by omega), if_neg (by omega), h.cbi, absorb hz n a b (by omega) a2 b2 fun z hz' => ?_]
      rcases List.mem_cons.1 (hs z (List.mem_cons_of_mem _ hz')) with e | hm
      · subst e
        have := a1 z hz'
        have := h.refl z
        omega
      · exact hm
    · have c := h.sy.2 (b1 x hx)
      rw [if_neg (by omega), if_pos c, absorb hz n (x :: a) b (by simp only [List.length_cons]; omega) ha b2 fun z hz' => ?_]
      rcases List.mem_cons.1 (hs z hz') with e | hm
      · subst e
        rcases List.mem_cons.1 hz' with e | hm2
        · subst e; exact hx
        · have k1 := a1 z hm2
          have k2 := h.sy.1 c
          have k3 := h.tr k1 k2
          omega
      · exact hm
theorem assoc : ∀ (n : Nat) (a b c : List α), a.length + b.length + c.length ≤ n → unD cmp cb (unD cmp cb a b) c = unD cmp cb a (unD cmp cb b c)
  | _, [], b, c, _ => by rw [un_nil, un_nil]
  | _, x :: a, [], c, _ => by rw [un_nil, un_end]
  | _, x :: a, y :: b, [], _ => by rw [un_end, un_end]
  | 0, x :: a, y :: b, z :: c, hn => by simp at hn
  | n + 1, x :: a, y :: b, z :: c, hn => by
    simp only [List.length_cons] at hn
    have L : ∀ (l : List α) (w : α), (w :: l).length = l.length + 1 := fun l w => rfl
    have syxy := h.sy (x := x) (y := y)
    have syyx := h.sy (x := y) (y := x)
    have syyz := h.sy (x := y) (y := z)
    have syzy := h.sy (x := z) (y := y)
    have syxz := h.sy (x := x) (y := z)
    have syzx := h.sy (x := z) (y := x)
    by_cases c1 : cmp x y < 0
    · by_cases d1 : cmp y z < 0
      · -- x < y < z
        have e1 := h.tr c1 d1
        rw [un_cons x y, if_pos c1, un_cons x z, if_pos e1, un_cons y z, if_pos d1, un_cons x y, if_pos c1, assoc n a (y :: b) (z :: c) (by simp only [List.length_cons]; omega), un_cons y z, if_pos d1]
      · by_cases d2 : cmp y z > 0
        · -- x < y, z < y
          by_cases e1 : cmp x z < 0
          · rw [un_cons x y, if_pos c1, un_cons x z, if_pos e1, un_cons y z, if_neg d1, if_pos d2, un_cons x z, if_pos e1, assoc n a (y :: b) (z :: c) (by simp only [List.length_cons]; omega), un_cons y z, if_neg d1, if_pos d2]
          · by_cases e2 : cmp x z > 0
            · have := assoc n (x :: a) (y :: b) c (by simp only [List.length_cons]; omega)
              rw [un_cons x y, if_pos c1] at this
              rw [un_cons x y, if_pos c1, un_cons x z, if_neg e1, if_pos e2, un_cons y z, if_neg d1, if_pos d2, un_cons x z, if_neg e1, if_pos e2, this]
            · have := assoc n a (y :: b) c (by simp only [List.length_cons]; omega)
              rw [un_cons x y, if_pos c1, un_cons x z, if_neg e1, if_neg e2, un_cons y z, if_neg d1, if_pos d2, un_cons x z, if_neg e1, if_neg e2, this]
        · -- x < y = z
          have e1 : cmp x z < 0 := h.tr_le c1 (by omega)
          rw [un_cons x y, if_pos c1, un_cons x z, if_pos e1, un_cons y z, if_neg d1, if_neg d2, un_cons x (cb y z), if_pos ((h.cb2 x (by omega)).1.2 c1), assoc n a (y :: b) (z :: c) (by simp only [List.length_cons]; omega), un_cons y z, if_neg d1, if_neg d2]
    · by_cases c2 : cmp x y > 0
      · -- y < x
        have c3 := h.sy.1 c2
        by_cases d1 : cmp y z < 0
        · have := assoc n (x :: a) b (z :: c) (by simp only [List.length_cons]; omega)
          rw [un_cons x y, if_neg c1, if_pos c2, un_cons y z, if_pos d1, un_cons y z, if_pos d1, un_cons x y, if_neg c1, if_pos c2, this]
        · by_cases d2 : cmp y z > 0
          · -- z < y < x
            have e2 : cmp x z > 0 := h.sy.2 (h.tr (h.sy.1 d2) c3)
            have := assoc n (x :: a) (y :: b) c (by simp only [List.length_cons]; omega)
            rw [un_cons x y, if_neg c1, if_pos c2] at this
            rw [un_cons x y, if_neg c1, if_pos c2, un_cons y z, if_neg d1, if_pos d2, un_cons y z, if_neg d1, if_pos d2, un_cons x z, if_neg (by omega), if_pos e2, this]
          · -- z = y < x
            have := assoc n (x :: a) b c (by simp only [List.length_cons]; omega)
            have k := (h.cb2 (x := y) (y := z) x (by omega)).2.2.2 c2
            rw [un_cons x y, if_neg c1, if_pos c2, un_cons y z, if_neg d1, if_neg d2, un_cons y z, if_neg d1, if_neg d2, un_cons x (cb y z), if_neg (by omega), if_pos k, this]
      · -- x = y
        have c0 : cmp x y = 0 := by omega
        have q1 := h.zl z c0
        have q2 := h.cb1 z c0
        by_cases d1 : cmp y z < 0
        · have := assoc n a b (z :: c) (by simp only [List.length_cons]; omega)
          rw [un_cons x y, if_neg c1, if_neg c2, un_cons (cb x y) z, if_pos (by omega), un_cons y z, if_pos d1, un_cons x y, if_neg c1, if_neg c2, this]
        · by_cases d2 : cmp y z > 0
          · have := assoc n (x :: a) (y :: b) c (by simp only [List.length_cons]; omega)
            rw [un_cons x y, if_neg c1, if_neg c2] at this
            rw [un_cons x y, if_neg c1, if_neg c2, un_cons (cb x y) z, if_neg (by omega), if_pos (by omega), un_cons y z, if_neg d1, if_pos d2, un_cons x z, if_neg (by omega), if_pos (by omega), this]
          · have k := (h.cb2 (x := y) (y := z) x (by omega)).2.1.2 c0
            have := assoc n a b c (by omega)
            rw [un_cons x y, if_neg c1, if_neg c2, un_cons (cb x y) z, if_neg (by omega), if_neg (by omega), un_cons y z, if_neg d1, if_neg d2, un_cons x (cb y z), if_neg (by omega), if_neg (by omega), this, h.cba c0 (by omega)]
end Ord
end
/-! ### The three comparisons -/
theorem sgn_cases (a b : Int) : (sgn a b < 0 ↔ a < b) ∧ (sgn a b > 0 ↔ b < a) ∧ (sgn a b = 0 ↔ a = b) := by
  unfold sgn
  split
  · omega
  · split <;> omega
theorem sgn_eq {a b c d : Int} (h1 : a < b ↔ c < d) (h2 : b < a ↔ d < c) : sgn a b = sgn c d := by
  unfold sgn
  by_cases x : a < b
  · rw [if_pos x, if_pos (h1.1 x)]
  · rw [if_neg x, if_neg (fun y => x (h1.2 y))]
    by_cases z : b < a
    · rw [if_pos z, if_pos (h2.1 z)]
    · rw [if_neg z, if_neg (fun y => z (h2.2 y))]
theorem ordI : Ord sgn cbI where
  tr := fun {x y z} a b => by
    rw [(sgn_cases _ _).1] at *
    omega
  sy := fun {x y} => by rw [(sgn_cases _ _).2.1, (sgn_cases _ _).1]
  zl := fun z e => by rw [sgn_zero.1 e]
  cb1 := fun z e => rfl
  cbc := fun e => sgn_zero.1 e
  cba := fun _ _ => rfl
  cbi := fun _ => rfl
theorem ordC : Ord cmpC cbC where
  tr := fun {x y z} a b => by
    unfold cmpC at *
    rw [(sgn_cases _ _).1] at *
    omega
  sy := fun {x y} => by unfold cmpC; rw [(sgn_cases _ _).2.1, (sgn_cases _ _).1]
  zl := fun z e => by unfold cmpC at *; rw [sgn_zero.1 e]
  cb1 := fun z e => rfl
  cbc := fun {x y} e => by
    rw [conf_ext]
    have e : cF x = cF y := sgn_zero.1 e
    refine ⟨e, ?_⟩
    show (if cC y > cC x then cC y else cC x) = (if cC x > cC y then cC x else cC y)
    split <;> split <;> omega
  cba := fun {x y z} _ _ => by
    rw [conf_ext]
    refine ⟨rfl, ?_⟩
    show (if cC z > (if cC y > cC x then cC y else cC x) then cC z else (if cC y > cC x then cC y else cC x)) = (if (if cC z > cC y then cC z else cC y) > cC x then (if cC z > cC y then cC z else cC y) else cC x)
    repeat' split
    all_goals omega
  cbi := fun x => by
    rw [conf_ext]
    refine ⟨rfl, ?_⟩
    show (if cC x > cC x then cC x else cC x) = cC x
    split <;> rfl
theorem lexC_sy : ∀ {a b : List Int}, lexC a b > 0 ↔ lexC b a < 0
  | [], [] => by simp [lexC]
  | [], y :: b => by simp [lexC]
  | x :: a, [] => by simp [lexC]
  | x :: a, y :: b => by
    have h1 := sgn_cases x y
    have h2 := sgn_cases y x
    unfold lexC
    by_cases e : sgn x y = 0
    · rw [if_neg (by simpa using e), if_neg (by have := h1.2.2.1 e; have := h2.2.2.2 this.symm; simpa using this)]
      exact lexC_sy
    · rw [if_pos e, if_pos (by intro k; exact e (h1.2.2.2 (h2.2.2.1 k).symm))]
      omega
theorem lexC_tr : ∀ {a b c : List Int}, lexC a b < 0 → lexC b c < 0 → lexC a c < 0
  | [], [], c, h, _ => by simp [lexC] at h
  | [], y :: b, [], _, h => by simp [lexC] at h
  | [], y :: b, z :: c, _, _ => by simp [lexC]
  | x :: a, [], c, h, _ => by simp [lexC] at h
  | x :: a, y :: b, [], _, h => by simp [lexC] at h
  | x :: a, y :: b, z :: c, h1, h2 => by
    unfold lexC at h1 h2 ⊢
    have k1 := sgn_cases x y
    have k2 := sgn_cases y z
    have k3 := sgn_cases x z
    by_cases e1 : sgn x y = 0
    · rw [if_neg (by simpa using e1)] at h1
      have := k1.2.2.1 e1
      subst this
      by_cases e2 : sgn x z = 0
      · rw [if_neg (by simpa using e2)] at h2 ⊢
        exact lexC_tr h1 h2
      · rw [if_pos e2] at h2 ⊢
        exact h2
    · rw [if_pos e1] at h1
      by_cases e2 : sgn y z = 0
      · have := k2.2.2.1 e2
        subst this
        rw [if_pos e1]
        exact h1
      · rw [if_pos e2] at h2
        rw [if_pos (by omega)]
        omega
theorem cmpL_lex (x y : Ty.den lockT) : cmpL x y = if sgn (kN x) (kN y) ≠ 0 then sgn (kN x) (kN y) else lexC (kK x) (kK y) := rfl
theorem ordL : Ord cmpL cbL where
  tr := fun {x y z} a b => by
    rw [cmpL_lex] at *
    generalize kN x = n at *
    generalize kN y = m at *
    generalize kN z = k at *
    have k1 := sgn_cases n m
    have k2 := sgn_cases m k
    have k3 := sgn_cases n k
    by_cases e1 : sgn n m = 0
    · rw [if_neg (by simpa using e1)] at a
      have := k1.2.2.1 e1
      subst this
      by_cases e2 : sgn n k = 0
      · rw [if_neg (by simpa using e2)] at b ⊢
        exact lexC_tr a b
      · rw [if_pos e2] at b ⊢
        exact b
    · rw [if_pos e1] at a
      by_cases e2 : sgn m k = 0
      · have := k2.2.2.1 e2
        subst this
        rw [if_pos e1]
        exact a
      · rw [if_pos e2] at b
        rw [if_pos (by omega)]
        omega
  sy := fun {x y} => by
    rw [cmpL_lex, cmpL_lex]
    generalize kN x = n
    generalize kN y = m
    have h1 := sgn_cases n m
    have h2 := sgn_cases m n
    by_cases e : sgn n m = 0
    · rw [if_neg (by simpa using e), if_neg (by have := h1.2.2.1 e; have := h2.2.2.2 this.symm; simpa using this)]
      exact lexC_sy
    · rw [if_pos e, if_pos (by intro k; exact e (h1.2.2.2 (h2.2.2.1 k).symm))]
      omega
  zl := fun z e => by rw [cmpL_zero.1 e]
  cb1 := fun z e => rfl
  cbc := fun e => cmpL_zero.1 e
  cba := fun _ _ => rfl
  cbi := fun _ => rfl
end L
end Go.Proofs.YthjiodeaepigmaaDoor

/- Package label: labels as a lattice, in plain terms. -/
set_option linter.unusedVariables false
set_option linter.unusedSimpArgs false
set_option maxRecDepth 100000
set_option maxHeartbeats 4000000
namespace Go.Proofs.YthjiodeaepigmaaDoor
open Go
namespace L
theorem valid_of {x : Ty.den labT} (h1 : 0 ≤ aU x ∧ aU x ≤ 50000000) (h2 : 0 ≤ aT x ∧ aT x ≤ 255) (h3 : 0 ≤ aK x ∧ aK x ≤ 255) (h4 : (aL x).length ≤ 4) (h5 : locksD (aL x) = true) (h6 : risingD (aE x) 19 = true) (h7 : countsD (aC x) 1 = true) : vX x = true := by
  unfold vX validE
  rw [inR_of h1.1 h1.2, inR_of h2.1 h2.2, inR_of h3.1 h3.2, h5, h6, h7, decide_eq_false (by omega)]; rfl
theorem locks_iff {l : List (Ty.den lockT)} : locksD l = true ↔ (∀ q ∈ l, risingD (kK q) 19 = true ∧ 1 ≤ kN q ∧ kN q ≤ (kK q).length) ∧ l.Pairwise fun x y => cmpL x y < 0 := by
  constructor
  · intro h
    refine ⟨locks_out h, ?_⟩
    have hb : ∀ j (hj : j + 1 < l.length), cmpL l[j] l[j + 1] < 0 := fun j hj => by
      have := allI_true.1 h (j + 1) hj
      unfold lkB at this
      have e0 : l.getD (j + 1 - 1) lockT.dflt = l[j] := getD_eq (show j < l.length by omega) _
      have e1 : l.getD (j + 1) lockT.dflt = l[j + 1] := getD_eq hj _
      rw [e0, e1] at this
      simp only [Bool.and_eq_true, Bool.or_eq_true, Bool.not_eq_true', decide_eq_true_eq, decide_eq_false_iff_not] at this
      rcases this.2 with k | k
      · omega
      · exact k
    rw [List.pairwise_iff_getElem]
    intro i j hi hj hij
    induction j with
    | zero => omega
    | succ j ih =>
      by_cases e : i = j
      · subst e; exact hb i hj
      · exact ordL.tr (ih (by omega) (by omega)) (hb j hj)
  · rintro ⟨h1, h2⟩
    refine allI_true.2 fun i hi => ?_
    unfold lkB
    have e1 : l.getD i lockT.dflt = l[i] := getD_eq hi _
    obtain ⟨a, b, c⟩ := h1 l[i] (List.getElem_mem hi)
    rw [e1, a, decide_eq_true (show kN l[i] ≥ 1 from b), decide_eq_true c]
    rw [List.pairwise_iff_getElem] at h2
    match i, hi, e1 with
    | 0, _, _ => rfl
    | i + 1, hi, _ =>
      have e0 : l.getD (i + 1 - 1) lockT.dflt = l[i] := getD_eq (show i < l.length by omega) _
      rw [e0, decide_eq_true (h2 i (i + 1) (by omega) hi (by omega)), Bool.or_true]
      rfl
/-! ### Bits -/
theorem andI_nat {a b : Nat} (ha : a ≤ 255) : andI (a : Int) (b : Int) = ((a &&& b : Nat) : Int) ∧ a &&& b ≤ a := by
  have h0 : a &&& b ≤ a := Nat.and_le_left
  refine ⟨?_, h0⟩
  unfold andI
  have h : (BitVec.ofInt 64 (a : Int) &&& BitVec.ofInt 64 (b : Int)).toNat = a &&& b := by
    rw [BitVec.ofInt_natCast, BitVec.ofInt_natCast, BitVec.toNat_and, BitVec.toNat_ofNat, BitVec.toNat_ofNat, Nat.mod_eq_of_lt (by omega)]
    apply Nat.eq_of_testBit_eq
    intro i
    rw [Nat.testBit_and, Nat.testBit_and, Nat.testBit_mod_two_pow]
    by_cases hi : i < 64
    · simp [hi]
    · have : a.testBit i = false := Nat.testBit_lt_two_pow (by have : 2 ^ 64 ≤ 2 ^ i := Nat.pow_le_pow_right (by decide) (by omega); omega)
      simp [this]
  rw [h]
  exact wrap_in (by omega) (by omega)
theorem noBit_nat {a k : Nat} (ha : a ≤ 255) (hk : k ≤ 7) : noBit (a : Int) (k : Int) = !a.testBit k := by
  have e1 : (a : Int).fdiv (2 ^ min (k : Int).toNat 64) = ((a / 2 ^ k : Nat) : Int) := by
    rw [Int.toNat_natCast, Nat.min_eq_left (by omega), Int.fdiv_eq_ediv_of_nonneg _ (by exact Int.le_of_lt (Int.pow_pos (by decide)))]
    rw [Int.natCast_ediv, Int.natCast_pow]; rfl
  have e2 : a / 2 ^ k ≤ 255 := Nat.le_trans (Nat.div_le_self _ _) ha
  have e3 := (andI_nat (b := 1) e2).1
  unfold noBit
  rw [e1]
  have e4 : IntKind.i64.wrap (((BitVec.ofInt 64 ((a / 2 ^ k : Nat) : Int) &&& BitVec.ofInt 64 (1 : Int)).toNat : Nat) : Int) = andI ((a / 2 ^ k : Nat) : Int) ((1 : Nat) : Int) := rfl
  rw [e4, e3, Nat.and_one_is_mod, Nat.testBit_eq_decide_div_mod_eq]
  have : a / 2 ^ k % 2 < 2 := Nat.mod_lt _ (by decide)
  rcases (show a / 2 ^ k % 2 = 0 ∨ a / 2 ^ k % 2 = 1 by omega) with h | h <;> rw [h] <;> rfl
theorem noBit_and {a b r : Int} (ha : 0 ≤ a ∧ a ≤ 255) (hb : 0 ≤ b ∧ b ≤ 255) (hr : 0 ≤ r ∧ r ≤ 7) : noBit (andI a b) r = (noBit a r || noBit b r) := by
  obtain ⟨a, rfl⟩ := Int.eq_ofNat_of_zero_le ha.1
  obtain ⟨b, rfl⟩ := Int.eq_ofNat_of_zero_le hb.1
  obtain ⟨r, rfl⟩ := Int.eq_ofNat_of_zero_le hr.1
  obtain ⟨e1, e2⟩ := andI_nat (a := a) (b := b) (by omega)
  rw [e1, noBit_nat (by omega) (by omega), noBit_nat (by omega) (by omega), noBit_nat (by omega) (by omega), Nat.testBit_and, Bool.not_and]
theorem andI_in {a b : Int} (ha : 0 ≤ a ∧ a ≤ 255) (hb : 0 ≤ b ∧ b ≤ 255) : 0 ≤ andI a b ∧ andI a b ≤ 255 := by
  obtain ⟨a, rfl⟩ := Int.eq_ofNat_of_zero_le ha.1
  obtain ⟨b, rfl⟩ := Int.eq_ofNat_of_zero_le hb.1
  obtain ⟨e1, e2⟩ := andI_nat (a := a) (b := b) (by omega)
  rw [e1]
  omega
theorem andI_comm {a b : Int} (ha : 0 ≤ a ∧ a ≤ 255) (hb : 0 ≤ b ∧ b ≤ 255) : andI a b = andI b a := by
  obtain ⟨a, rfl⟩ := Int.eq_ofNat_of_zero_le ha.1
  obtain ⟨b, rfl⟩ := Int.eq_ofNat_of_zero_le hb.1
  rw [(andI_nat (a := a) (b := b) (by omega)).1, (andI_nat (a := b) (b := a) (by omega)).1, Nat.and_comm]
theorem andI_assoc {a b c : Int} (ha : 0 ≤ a ∧ a ≤ 255) (hb : 0 ≤ b ∧ b ≤ 255) (hc : 0 ≤ c ∧ c ≤ 255) : andI (andI a b) c = andI a (andI b c) := by
  obtain ⟨a, rfl⟩ := Int.eq_ofNat_of_zero_le ha.1
  obtain ⟨b, rfl⟩ := Int.eq_ofNat_of_zero_le hb.1
  obtain ⟨c, rfl⟩ := Int.eq_ofNat_of_zero_le hc.1
  obtain ⟨e1, e2⟩ := andI_nat (a := a) (b := b) (by omega)
  obtain ⟨e3, e4⟩ := andI_nat (a := b) (b := c) (by omega)
  rw [e1, e3, (andI_nat (by omega)).1, (andI_nat (by omega)).1, Nat.and_assoc]
theorem andI_self {a : Int} (ha : 0 ≤ a ∧ a ≤ 255) : andI a a = a := by
  obtain ⟨a, rfl⟩ := Int.eq_ofNat_of_zero_le ha.1
  rw [(andI_nat (by omega)).1, Nat.and_self]
theorem andI_all {a : Int} (ha : 0 ≤ a ∧ a ≤ 255) : andI a 255 = a := by
  obtain ⟨a, rfl⟩ := Int.eq_ofNat_of_zero_le ha.1
  rw [show (255 : Int) = ((255 : Nat) : Int) from rfl, (andI_nat (by omega)).1, show (255 : Nat) = 2 ^ 8 - 1 from rfl, Nat.and_two_pow_sub_one_eq_mod, Nat.mod_eq_of_lt (by omega)]
/-! ### Joins -/
theorem un_len {α : Type} {cmp : α → α → Int} {cb : α → α → α} (a b : List α) : (unD cmp cb a b).length ≤ a.length + b.length := by
  have := mgA_len (cmp := cmp) (cb := cb) _ a b (Nat.le_refl _)
  unfold unD
  rw [List.length_append, List.length_append]
  omega
theorem maxI_le {a b c : Int} : maxI a b ≤ c ↔ a ≤ c ∧ b ≤ c := by unfold maxI; split <;> omega
theorem maxI_ge {a b : Int} : a ≤ maxI a b ∧ b ≤ maxI a b := by unfold maxI; split <;> omega
theorem un_locks {a b : List (Ty.den lockT)} (ha : locksD a = true) (hb : locksD b = true) : locksD (unD cmpL cbL a b) = true := by
  obtain ⟨a1, a2⟩ := locks_iff.1 ha
  obtain ⟨b1, b2⟩ := locks_iff.1 hb
  exact locks_iff.2 ⟨(ordL.all (fun x y e => by rw [cmpL_zero.1 e]; simp [cbL]) _ a b (Nat.le_refl _)).2 ⟨a1, b1⟩, ordL.sorted _ a b (Nat.le_refl _) a2 b2⟩
theorem pw_sgn {l : List Int} : l.Pairwise (fun x y => sgn x y < 0) ↔ l.Pairwise (· < ·) := by
  have : (fun x y => sgn x y < 0) = fun x y : Int => x < y := by funext x y; exact propext (sgn_cases x y).1
  rw [this]
theorem pw_cmpC {l : List (Ty.den conf)} : l.Pairwise (fun x y => cmpC x y < 0) ↔ l.Pairwise fun x y => cF x < cF y := by
  have : (fun x y => cmpC x y < 0) = fun x y : Ty.den conf => cF x < cF y := by funext x y; exact propext (sgn_cases (cF x) (cF y)).1
  rw [this]
theorem cbC_c {x y : Ty.den conf} : cC x ≤ cC (cbC x y) ∧ cC y ≤ cC (cbC x y) ∧ (cC (cbC x y) = cC x ∨ cC (cbC x y) = cC y) := by
  show cC x ≤ (if cC y > cC x then cC y else cC x) ∧ cC y ≤ (if cC y > cC x then cC y else cC x) ∧ ((if cC y > cC x then cC y else cC x) = cC x ∨ (if cC y > cC x then cC y else cC x) = cC y)
  split <;> omega
theorem un_rising {a b : List Int} (ha : risingD a 19 = true) (hb : risingD b 19 = true) : risingD (unD sgn cbI a b) 19 = true := by
  obtain ⟨a1, a2⟩ := rising_iff.1 ha
  obtain ⟨b1, b2⟩ := rising_iff.1 hb
  exact rising_iff.2 ⟨(ordI.all (fun x y e => by rw [sgn_zero.1 e]; simp [cbI]) _ a b (Nat.le_refl _)).2 ⟨a1, b1⟩, pw_sgn.1 (ordI.sorted _ a b (Nat.le_refl _) (pw_sgn.2 a2) (pw_sgn.2 b2))⟩
theorem un_all {α : Type} {cmp : α → α → Int} {cb : α → α → α} {p : α → Prop} (hc : ∀ x y, p x → p y → p (cb x y)) {a b : List α} (ha : ∀ x ∈ a, p x) (hb : ∀ x ∈ b, p x) : ∀ x ∈ unD cmp cb a b, p x := by
  obtain ⟨q1, q2, q3⟩ := mgA_all (cmp := cmp) hc _ a b (Nat.le_refl _) ha hb
  intro x hx
  unfold unD at hx
  rw [List.mem_append, List.mem_append] at hx
  rcases hx with (h | h) | h
  · exact q1 x h
  · exact q2 x h
  · exact q3 x h
theorem un_counts {a b : List (Ty.den conf)} (ha : countsD a 1 = true) (hb : countsD b 1 = true) : countsD (unD cmpC cbC a b) 1 = true := by
  obtain ⟨a1, a2⟩ := counts_out ha
  obtain ⟨b1, b2⟩ := counts_out hb
  refine counts_iff (un_all (fun x y hx hy => ?_) a1 b1) (pw_cmpC.1 (ordC.sorted _ a b (Nat.le_refl _) (pw_cmpC.2 a2) (pw_cmpC.2 b2)))
  have e : cF (cbC x y) = cF x := rfl
  have := cbC_c (x := x) (y := y)
  omega
theorem join_valid {x y : Ty.den labT} (hx : vX x = true) (hy : vX y = true) (h : (unL x y).length ≤ 4) : vX (joinT x y) = true := by
  obtain ⟨x1, x2, x3, x4, x5, x6, x7⟩ := valid_all hx
  obtain ⟨y1, y2, y3, y4, y5, y6, y7⟩ := valid_all hy
  have := maxI_ge (a := aU x) (b := aU y)
  exact valid_of (x := joinT x y) ⟨Int.le_trans x1.1 this.1, maxI_le.2 ⟨x1.2, y1.2⟩⟩ (andI_in x2 y2) (andI_in x3 y3) h (un_locks x5 y5) (un_rising x6 y6) (un_counts x7 y7)
theorem join_b {x y : Ty.den labT} (hx : vX x = true) (hy : vX y = true) (h : (unL x y).length ≤ 4) : joinV x y = joinT x y ∧ joinN x y = 0 := by
  have : joinB x y = true := by unfold joinB; rw [hx, hy, decide_eq_true h]; rfl
  unfold joinV joinN
  rw [this]
  exact ⟨rfl, rfl⟩
/-- The join is open exactly if both are. -/
theorem open_join {x y : Ty.den labT} (hx : vX x = true) (hy : vX y = true) (hj : vX (joinT x y) = true) {rt rc now dr : Int} {me : List Int} {mc : List (Ty.den conf)} {mk : List Int} (hr : 0 ≤ rt ∧ rt ≤ 7) (hc : 0 ≤ rc ∧ rc ≤ 7) (hm : validM now dr me mc mk = true) :
    rsn (joinT x y) rt rc now dr me mc mk = 0 ↔ rsn x rt rc now dr me mc mk = 0 ∧ rsn y rt rc now dr me mc mk = 0 := by
  obtain ⟨x1, x2, x3, x4, x5, x6, x7⟩ := valid_all hx
  obtain ⟨y1, y2, y3, y4, y5, y6, y7⟩ := valid_all hy
  have p1 := proper_of hx hm hr hc
  have p2 := proper_of hy hm hr hc
  have p3 := proper_of hj hm hr hc
  rw [rsn_open, rsn_open, rsn_open, p1, p2, p3]
  have eT : noBit (aT (joinT x y)) rt = false ↔ noBit (aT x) rt = false ∧ noBit (aT y) rt = false := by
    rw [show aT (joinT x y) = andI (aT x) (aT y) from rfl, noBit_and x2 y2 hr, Bool.or_eq_false_iff]
  have eK : noBit (aK (joinT x y)) rc = false ↔ noBit (aK x) rc = false ∧ noBit (aK y) rc = false := by
    rw [show aK (joinT x y) = andI (aK x) (aK y) from rfl, noBit_and x3 y3 hc, Bool.or_eq_false_iff]
  have eU : ¬ IntKind.i64.wrap (now - dr) < aU (joinT x y) ↔ ¬ IntKind.i64.wrap (now - dr) < aU x ∧ ¬ IntKind.i64.wrap (now - dr) < aU y := by
    rw [show aU (joinT x y) = maxI (aU x) (aU y) from rfl, Int.not_lt, Int.not_lt, Int.not_lt, maxI_le]
  have eE : (∀ w ∈ aE (joinT x y), w ∈ me) ↔ (∀ w ∈ aE x, w ∈ me) ∧ ∀ w ∈ aE y, w ∈ me :=
    ordI.all (p := fun w => w ∈ me) (fun u v e => by rw [sgn_zero.1 e]; simp [cbI]) _ (aE x) (aE y) (Nat.le_refl _)
  have eC : (∀ w ∈ aC (joinT x y), ∃ z ∈ mc, cF z = cF w ∧ cC w ≤ cC z) ↔ (∀ w ∈ aC x, ∃ z ∈ mc, cF z = cF w ∧ cC w ≤ cC z) ∧ ∀ w ∈ aC y, ∃ z ∈ mc, cF z = cF w ∧ cC w ≤ cC z :=
    ordC.all (p := fun w => ∃ z ∈ mc, cF z = cF w ∧ cC w ≤ cC z) (fun u v e => by
      have e : cF u = cF v := sgn_zero.1 e
      have ef : cF (cbC u v) = cF u := rfl
      have ec := cbC_c (x := u) (y := v)
      constructor
      · rintro ⟨z, hz, z1, z2⟩
        exact ⟨⟨z, hz, by omega, by omega⟩, z, hz, by omega, by omega⟩
      · rintro ⟨⟨z, hz, z1, z2⟩, w, hw, w1, w2⟩
        rcases ec.2.2 with k | k
        · exact ⟨z, hz, by omega, by omega⟩
        · exact ⟨w, hw, by omega, by omega⟩) _ (aC x) (aC y) (Nat.le_refl _)
  have eL : (∀ q ∈ aL (joinT x y), kN q ≤ (((kK q).filter (hasD mk)).length : Int)) ↔ (∀ q ∈ aL x, kN q ≤ (((kK q).filter (hasD mk)).length : Int)) ∧ ∀ q ∈ aL y, kN q ≤ (((kK q).filter (hasD mk)).length : Int) :=
    ordL.all (p := fun q => kN q ≤ (((kK q).filter (hasD mk)).length : Int)) (fun u v e => by rw [cmpL_zero.1 e]; simp [cbL]) _ (aL x) (aL y) (Nat.le_refl _)
  rw [eT, eK, eU, eE, eC, eL]
  constructor
  · rintro ⟨_, ⟨a, a'⟩, ⟨b, b'⟩, ⟨c, c'⟩, ⟨d, d'⟩, ⟨e, e'⟩, f, f'⟩
    exact ⟨⟨rfl, a, b, c, d, e, f⟩, rfl, a', b', c', d', e', f'⟩
  · rintro ⟨⟨_, a, b, c, d, e, f⟩, _, a', b', c', d', e', f'⟩
    exact ⟨rfl, ⟨a, a'⟩, ⟨b, b'⟩, ⟨c, c'⟩, ⟨d, d'⟩, ⟨e, e'⟩, f, f'⟩
/-! ### Below -/
theorem hasQ_iff {l : List (Ty.den lockT)} {q : Ty.den lockT} : hasQ l q = true ↔ q ∈ l := by
  unfold hasQ
  rw [decide_eq_true_eq, List.findIdx_lt_length]
  constructor
  · rintro ⟨p, hp, e⟩; rw [← beqL_iff.1 e]; exact hp
  · intro h; exact ⟨q, h, beqL_iff.2 rfl⟩
theorem noL_valid {x : Ty.den labT} (hx : vX x = true) : vX (noL x) = true := by
  obtain ⟨x1, x2, x3, x4, x5, x6, x7⟩ := valid_all hx
  exact valid_of (x := noL x) x1 x2 x3 (Nat.zero_le _) (locks_iff.2 ⟨(fun q hq => nomatch hq), List.Pairwise.nil⟩) x6 x7
theorem noL_un (x y : Ty.den labT) : unL (noL x) y = aL y := un_nil _
theorem below_iff {x y : Ty.den labT} (hx : vX x = true) (hy : vX y = true) : belowB x y = true ↔ joinT x y = y := by
  obtain ⟨x1, x2, x3, x4, x5, x6, x7⟩ := valid_all hx
  obtain ⟨y1, y2, y3, y4, y5, y6, y7⟩ := valid_all hy
  have hl : (unL (noL x) y).length ≤ 4 := by rw [noL_un]; exact y4
  have hL : unL x y = aL y ↔ (aL x).all (hasQ (aL y)) = true := by
    rw [List.all_eq_true]
    constructor
    · intro e q hq
      have := (ordL.all (p := fun q => q ∈ unL x y) (fun u v e => by rw [cmpL_zero.1 e]; simp [cbL]) _ (aL x) (aL y) (Nat.le_refl _)).1 (fun w hw => hw)
      rw [hasQ_iff, ← e]
      exact this.1 q hq
    · intro h
      exact ordL.absorb (fun u v e => cmpL_zero.1 e) _ (aL x) (aL y) (Nat.le_refl _) (locks_iff.1 x5).2 (locks_iff.1 y5).2 fun q hq => hasQ_iff.1 (h q hq)
  unfold belowB
  rw [hx, hy, (join_b (noL_valid hx) hy hl).1, Bool.true_and, Bool.true_and, Bool.and_eq_true]
  unfold sameB
  rw [decide_eq_true_eq, ← hL, lab_ext, lab_ext]
  have e : aL (joinT (noL x) y) = aL y := noL_un x y
  constructor
  · rintro ⟨a, b1, b2, b3, b4, b5, _⟩
    exact ⟨b1, b2, b3, b4, b5, a⟩
  · rintro ⟨b1, b2, b3, b4, b5, a⟩
    exact ⟨a, b1, b2, b3, b4, b5, e⟩
/-- What is below something open is open. -/
theorem open_below {x y : Ty.den labT} (hx : vX x = true) (hy : vX y = true) (hb : belowB x y = true) {rt rc now dr : Int} {me : List Int} {mc : List (Ty.den conf)} {mk : List Int} (hr : 0 ≤ rt ∧ rt ≤ 7) (hc : 0 ≤ rc ∧ rc ≤ 7) (hm : validM now dr me mc mk = true) (h : rsn y rt rc now dr me mc mk = 0) : rsn x rt rc now dr me mc mk = 0 := by
  have e := (below_iff hx hy).1 hb
  exact ((open_join hx hy (by rw [e]; exact hy) hr hc hm).1 (by rw [e]; exact h)).1
end L
end Go.Proofs.YthjiodeaepigmaaDoor

/- Package label: LabelJoins. -/
set_option linter.unusedVariables false
set_option linter.unusedSimpArgs false
set_option maxRecDepth 100000
set_option maxHeartbeats 4000000
namespace Go.Proofs.YthjiodeaepigmaaDoor
open Go
namespace L
theorem none_valid : vX noneL = true := by decide +kernel
theorem made_locks (x0 x1 x2 x3 x4 x5 x6 : Int) : (aL (madeD x0 x1 x2 x3 x4 x5 x6)).length ≤ 2 := (madeL_ok x5 x6).2.1
theorem below_open {x y : Ty.den labT} (hx : vX x = true) (hy : vX y = true) {rt rc : Int} {m : Ty.den momT} (hr : 0 ≤ rt ∧ rt ≤ 7) (hc : 0 ≤ rc ∧ rc ≤ 7) (hm : vY m = true) : (bif belowB x y then bif rsX y rt rc m == (0 : Int) then !rsX x rt rc m == (0 : Int) else false else false) = false := by
  cases hb : belowB x y with
  | false => rfl
  | true =>
    by_cases e : rsX y rt rc m = 0
    · have : rsX x rt rc m = 0 := open_below hx hy hb hr hc hm e
      rw [e, this]; rfl
    · have hz : (rsX y rt rc m == 0) = false := by simpa using e
      rw [hz]; rfl
theorem law6 (x0 x1 x2 x3 x4 x5 x6 y0 y1 y2 y3 y4 y5 y6 n0 n1 n2 n3 n4 t c : Int) (hx : (inr x0 && inr x1 && inr x2 && inr x3 && inr x4 && inr x5 && inr x6) = true) (hy : (inr y0 && inr y1 && inr y2 && inr y3 && inr y4 && inr y5 && inr y6) = true) (hn : (inr n0 && inr n1 && inr n2 && inr n3 && inr n4) = true) (ht : inr t = true) (hc : inr c = true) :
    SemF Tryd.prog Γ 6 [.agg [.si .i64 x0, .si .i64 x1, .si .i64 x2, .si .i64 x3, .si .i64 x4, .si .i64 x5, .si .i64 x6], .agg [.si .i64 y0, .si .i64 y1, .si .i64 y2, .si .i64 y3, .si .i64 y4, .si .i64 y5, .si .i64 y6], .agg [.si .i64 n0, .si .i64 n1, .si .i64 n2, .si .i64 n3, .si .i64 n4], .si .i64 t, .si .i64 c] [] [] (.sb true) [] [] := by
  obtain ⟨v1, s1⟩ := made_valid x0 x1 x2 x3 x4 x5 x6
  obtain ⟨v2, s2⟩ := made_valid y0 y1 y2 y3 y4 y5 y6
  have k1 := made_locks x0 x1 x2 x3 x4 x5 x6
  have k2 := made_locks y0 y1 y2 y3 y4 y5 y6
  obtain ⟨a1, a2, d1, d2⟩ := mom_num n0 n1 n2 n3 n4
  obtain ⟨l1, l2, l3, l4⟩ := mom_lists n0 n1 n2 n3 n4
  obtain ⟨t1, t2⟩ := pickD_lt (k := t) (n := 8) (by decide)
  obtain ⟨c1, c2⟩ := pickD_lt (k := c) (n := 8) (by decide)
  refine of_runL cfg38_ok (c6_run x0 x1 x2 x3 x4 x5 x6 y0 y1 y2 y3 y4 y5 y6 n0 n1 n2 n3 n4 t c) ?_ ?_
  all_goals
    generalize madeD x0 x1 x2 x3 x4 x5 x6 = X at *
    generalize madeD y0 y1 y2 y3 y4 y5 y6 = Y at *
    generalize momD n0 n1 n2 n3 n4 = M at *
    generalize pickD t 8 = rt at *
    generalize pickD c 8 = rc at *
    have hl : (unL X Y).length ≤ 4 := by
      have := un_len (cmp := cmpL) (cb := cbL) (aL X) (aL Y)
      show (unD cmpL cbL (aL X) (aL Y)).length ≤ 4
      omega
    obtain ⟨j1, j2⟩ := join_b v1 v2 hl
    have vj := join_valid v1 v2 hl
    have sj := join_sz v1 v2
    have sn : szX noneL := ⟨Nat.zero_le _, Nat.zero_le _, Nat.zero_le _, fun q hq => by cases hq⟩
    have ht' : 0 ≤ rt ∧ rt ≤ 7 := ⟨t1, by omega⟩
    have hc' : 0 ≤ rc ∧ rc ≤ 7 := ⟨c1, by omega⟩
    have vm : vY M = true := validM_of a1 (by omega) d1 (by omega) l1 l2 l3
    rw [j1, j2]
  · simp only [hx, hy, hn, ht, hc, decide_eq_true (And.intro s1 s2), decide_eq_true (And.intro s2 s1), decide_eq_true (And.intro s1 sj), decide_eq_true (And.intro s2 sj), decide_eq_true (And.intro sn s1), decide_eq_true (And.intro s1 l4), decide_eq_true (And.intro s2 l4), decide_eq_true (And.intro sj l4), decide_eq_true (And.intro sn l4), decide_eq_true (show (8 : Int) ≠ 0 by decide), Bool.or_true, Bool.and_true, Bool.not_true, Option.getD_some, Bool.false_or]
  · rw [below_open v1 v2 ht' hc' vm, below_open v2 v1 ht' hc' vm, below_open v1 vj ht' hc' vm, below_open v2 vj ht' hc' vm, below_open none_valid v1 ht' hc' vm]
    have key := open_join v1 v2 vj ht' hc' (show validM (bN M) (bD M) (bE M) (bC M) (bK M) = true from vm)
    by_cases e1 : rsX X rt rc M = 0 <;> by_cases e2 : rsX Y rt rc M = 0
    · have : rsX (joinT X Y) rt rc M = 0 := key.2 ⟨e1, e2⟩
      rw [this, e1, e2]; rfl
    · have h3 : ¬ rsX (joinT X Y) rt rc M = 0 := fun h => e2 (key.1 h).2
      have z2 : (rsX Y rt rc M == 0) = false := by simpa using e2
      have z3 : (rsX (joinT X Y) rt rc M == 0) = false := by simpa using h3
      rw [z2, z3, e1]; rfl
    · have h3 : ¬ rsX (joinT X Y) rt rc M = 0 := fun h => e1 (key.1 h).1
      have z1 : (rsX X rt rc M == 0) = false := by simpa using e1
      have z3 : (rsX (joinT X Y) rt rc M == 0) = false := by simpa using h3
      rw [z1, z3]; rfl
    · have h3 : ¬ rsX (joinT X Y) rt rc M = 0 := fun h => e1 (key.1 h).1
      have z1 : (rsX X rt rc M == 0) = false := by simpa using e1
      have z3 : (rsX (joinT X Y) rt rc M == 0) = false := by simpa using h3
      rw [z1, z3]; rfl
end L
end Go.Proofs.YthjiodeaepigmaaDoor

