/- Parts of the library of texts, one after the other: T19, T20, T21, T22, P27, P28, P29, T23, T25, Ev38, T26, T27, T28, T29. -/
import Derived.Test.YtofbchcclkejgaaTOl
import Derived.Test.YtofbchcclkejgaaTOk
/- Package tally: the reference: Add; Contest; All's loops. -/
set_option linter.unusedVariables false
set_option linter.unusedSimpArgs false
set_option maxRecDepth 100000
set_option maxHeartbeats 4000000
namespace Go.Proofs.Ytofbchcclkejgaa
open Go
namespace T
noncomputable def cfg20 : Cfg := cfgQ o44 lo18
theorem cfg20_ok : CfgOk Try.prog Γ cfg20 := cfgQ_ok o44_ok lo18_ok
theorem c23_run (c : Int) (ds : List Int) (rs : List (Ty.den retT)) : runL cfg20 23 [.agg [.si .i64 c, .slst .ro ity ds, .slst .ro retT rs]] = .ok (some (!validC c ds || decide (pre_vr c ds rs (0 : Int)))) (V.sb (bif !validC c ds then false else bif decide (validR c ds rs = true) then true else false)) := by kernel_rfl
theorem c23_ok (c : Int) (ds : List Int) (rs : List (Ty.den retT)) (h : szR rs) : SemF Try.prog Γ 23 [.agg [.si .i64 c, .slst .ro ity ds, .slst .ro retT rs]] [] [] (.sb (validT c ds rs)) [] [] :=
 of_runL cfg20_ok (c23_run c ds rs) (by
  cases hc : validC c ds with
  | false => rfl
  | true =>
   have hl := (validC_iff.1 hc).2.1
   rw [decide_eq_true (show pre_vr c ds rs 0 from ⟨rfl, by omega, h⟩)]
   rfl) (by unfold validT; cases validC c ds <;> cases validR c ds rs <;> rfl)
noncomputable def gg_o23 (c : Int) (ds : List Int) (rs : List (Ty.den retT)) : Option Bool × V := (some (decide (szR rs)), .sb (validT c ds rs))
theorem gg_o23_c (c : Int) (ds : List Int) (rs : List (Ty.den retT)) (h : (gg_o23 c ds rs).1.getD true = true) : szR rs := of_decide_eq_true h
noncomputable def o23 : Orc := fun f args => if f = 23 then (Ty.ofVs [talT] args).map (fun x => gg_o23 x.1.1.1 x.1.1.2.1 x.1.2.1) else o44 f args
theorem o23_ok : OrcOk Try.prog Γ o23 := o44_ok.plain 23 [talT] (fun x => gg_o23 x.1.1.1 x.1.1.2.1 x.1.2.1) Try.f23 Try.func23 rfl (by kernel_rfl) (fun x h => c23_ok x.1.1.1 x.1.1.2.1 x.1.2.1 (gg_o23_c x.1.1.1 x.1.1.2.1 x.1.2.1 h))
def memN (f : FuncId) : Bool := ([13, 53, 54, 55, 56, 59, 67, 72, 73, 74, 78, 79] : List Nat).any (Nat.beq f)
noncomputable def cfgN (orc : Orc) (lo : LOrc) : Cfg := ⟨orc, fun _ => false, omN, lo, lvF, memN, 80, fun f _ => match Nat.beq f 13 with | true => some [false, true] | false => none⟩
theorem cfgN_ok {orc : Orc} {lo : LOrc} (h : OrcOk Try.prog Γ orc) (hl : LOrcOk Try.prog Γ lo) : CfgOk Try.prog Γ (cfgN orc lo) where
 orc := h
 om := omN_ok
 fit := omN_fit
 lo := hl
 mixed := by kernel_rfl
noncomputable def cfg21 : Cfg := cfgN o23 lo18
theorem cfg21_ok : CfgOk Try.prog Γ cfg21 := cfgN_ok o23_ok lo18_ok
def hp_a0 : HP := { n := 92, lv := [2, 3, 4, 6, 7, 8, 9], sp := [.ptr 0 0, .ptr 1 0, .ptr 2 0, .ptr 3 0, .ty ity, .ptr 4 0, .ty ity], op := [.cells [.ty ity, .ty (.slice ity), .ty (.slice retT)], .cells [.ty ity, .ty ity, .ty (.slice ity)], .cells [.ci 0, .nl, .nl], .cells [.ty ity, .bz 0, .bz 1], .cells [.ty ity, .ty ity, .ty (.slice ity)]], bp := [.arr ity, .arr retT], bo := [(3, 2, retT)] }
def lve_a0 : Ex → List Nat
 | .normal => [2, 3, 4, 6, 7, 8, 9]
 | .exit 0 => [4, 6, 7]
 | _ => []
theorem bd_a0 : Try.f15.body = some (root 15) := by kernel_rfl
theorem le_a0 : (loops (root 15))[0]? = some (lp 15 0) := by kernel_rfl
theorem li_a0 : Lies (root 15) 1 (lp 15 0) := Lies.of_take (n := 1) (by kernel_rfl)
def st_a0 (c : Int) (ds : List Int) (rs : List (Ty.den retT)) (d n : Int) (v : List Int) (c2 : Int) (j0 j : Nat) (bd bn : Int) (bv : List Int) (er q : Int) (b0 : List Int) (o : List (Ty.den retT)) : St := hp_a0.st ⟨((), (), (), (), er, (), q, ()), ((c, ds, rs, ()), (d, n, v, ()), ((), (), (), ()), (c2, j0, j, ()), (bd, bn, bv, ()), ()), (b0, o, ())⟩
noncomputable def rn_a0 (c : Int) (ds : List Int) (rs : List (Ty.den retT)) (d n : Int) (v : List Int) (c2 : Int) (j0 j : Nat) (bd bn : Int) (bv : List Int) (er q : Int) (b0 : List Int) (o : List (Ty.den retT)) := outa lve_a0 (evCK Try.prog Γ (cfM Try.prog Γ cfg21 30) (cfg21.lo 15) [] 60 1 (lp 15 0) (st_a0 c ds rs d n v c2 j0 j bd bn bv er q b0 o))
theorem rn_a0_eq (c : Int) (ds : List Int) (rs : List (Ty.den retT)) (d n : Int) (v : List Int) (c2 : Int) (j0 j : Nat) (bd bn : Int) (bv : List Int) (er q : Int) (b0 : List Int) (o : List (Ty.den retT)) : (rn_a0 c ds rs d n v c2 j0 j bd bn bv er q b0 o).run = (bif decide (q < (ds.length : Int)) then (bif decide (pre_a1 c ds rs d n v c2 j0 j bd bn bv er q (0 : Int) b0 o) then (bif q == d then (bif decide ((rV (aIn d n v q rs ((bd, bn, bv, ()), o)).fst).length ≤ 1000000) then (bif decide (((aIn d n v q rs ((bd, bn, bv, ()), o)).snd.length + 1) * 2 * 40 ≤ 281474976710656) then (some ((Ex.normal, [V.ptr 0 0, V.ptr 1 0, V.ptr 2 0, V.ptr 3 0, V.si .i64 er, V.ptr 4 0, V.si .i64 (IntKind.i64.wrap (q + (1 : Int)))], [some [V.si .i64 c, V.slst .ro ity ds, V.slst .ro retT rs], some [V.si .i64 d, V.si .i64 n, V.slst .ro ity v], some [V.i .i64 (0 : Int), V.lst .full [], V.lst .full []], some [V.si .i64 c2, V.bs true 0 0 j0, V.bs true 1 0 ((aIn d n v q rs ((bd, bn, bv, ()), o)).snd.length + (1 : Nat))], some [V.si .i64 (rD (aIn d n v q rs ((bd, bn, bv, ()), o)).fst), V.si .i64 (rN (aIn d n v q rs ((bd, bn, bv, ()), o)).fst), V.slst .ro ity (rV (aIn d n v q rs ((bd, bn, bv, ()), o)).fst)]], [some (Bf.live (.arr ity b0)), some (Bf.live (.arr retT (List.take (aIn d n v q rs ((bd, bn, bv, ()), o)).snd.length (List.drop (0) (aIn d n v q rs ((bd, bn, bv, ()), o)).snd) ++ [(aIn d n v q rs ((bd, bn, bv, ()), o)).fst])))], 92, 0, 0))) else none) else none) else (some ((Ex.normal, [V.ptr 0 0, V.ptr 1 0, V.ptr 2 0, V.ptr 3 0, V.si .i64 er, V.ptr 4 0, V.si .i64 (IntKind.i64.wrap (q + (1 : Int)))], [some [V.si .i64 c, V.slst .ro ity ds, V.slst .ro retT rs], some [V.si .i64 d, V.si .i64 n, V.slst .ro ity v], some [V.i .i64 (0 : Int), V.lst .full [], V.lst .full []], some [V.si .i64 c2, V.bs true 0 0 j0, V.bs true 1 0 (aIn d n v q rs ((bd, bn, bv, ()), o)).snd.length], some [V.si .i64 (rD (aIn d n v q rs ((bd, bn, bv, ()), o)).fst), V.si .i64 (rN (aIn d n v q rs ((bd, bn, bv, ()), o)).fst), V.slst .ro ity (rV (aIn d n v q rs ((bd, bn, bv, ()), o)).fst)]], [some (Bf.live (.arr ity b0)), some (Bf.live (.arr retT (aIn d n v q rs ((bd, bn, bv, ()), o)).snd))], 92, 0, 0)))) else none) else (some ((Ex.exit 0, [V.ptr 0 0, V.ptr 1 0, V.si .i64 er], [some [V.i .i64 (0 : Int), V.lst .full [], V.lst .full []], some [V.si .i64 c2, V.bs true 0 0 j0, V.bs true 1 0 j]], [some (Bf.live (.arr ity b0)), some (Bf.live (.arr retT o))], 92, 0, 0)))) := by kernel_rfl
theorem rn_a0_c (c : Int) (ds : List Int) (rs : List (Ty.den retT)) (d n : Int) (v : List Int) (c2 : Int) (j0 j : Nat) (bd bn : Int) (bv : List Int) (er q : Int) (b0 : List Int) (o : List (Ty.den retT)) {e : Ex} {vs : List V} {ob : Ob} {nm : Nm} {n' kh kt : Nat} (h : (rn_a0 c ds rs d n v c2 j0 j bd bn bv er q b0 o).run = some (e, vs, ob, nm, n', kh, kt)) : SemC Try.prog Γ (lp 15 0) (st_a0 c ds rs d n v c2 j0 j bd bn bv er q b0 o) e.to (St.of n' (lve_a0 e) vs ob nm kh kt) := SemC.of_evM cfg21_ok Try.func15 bd_a0 li_a0 h
abbrev six : Ty := .agg [ity, ity, ity, ity, ity, ity]
def sx (y : Ty.den six) (m : Int) : Int := bif decide (m = 0) then y.1 else bif decide (m - 1 = 0) then y.2.1 else bif decide (m - 1 - 1 = 0) then y.2.2.1 else bif decide (m - 1 - 1 - 1 = 0) then y.2.2.2.1 else bif decide (m - 1 - 1 - 1 - 1 = 0) then y.2.2.2.2.1 else y.2.2.2.2.2.1
def hp_al1 : HP := { n := 74, lv := [1, 2, 5, 6, 7, 8, 9], sp := [.ty (.slice six), .ptr 0 0, .bz 0, .ty ity, .ptr 1 0, .ty ity, .ty ity], op := [.cells [.ty ity, .ty (.slice ity)], .cells [.ty ity, .ty ity, .bz 1]], bp := [.arr retT, .arr ity], bo := [(1, 2, ity)] }
def lve_al1 : Ex → List Nat
 | .normal => [1, 2, 5, 6, 7, 8, 9]
 | .exit 2 => [1, 2, 5, 6, 7]
 | _ => []
theorem bd_al1 : Try.f35.body = some (root 35) := by kernel_rfl
theorem le_al1 : (loops (root 35))[1]? = some (lp 35 1) := by kernel_rfl
theorem li_al1 : Lies (root 35) 2 (lp 35 1) := Lies.of_take (n := 0) (by kernel_rfl)
def st_al1 (x : List (Ty.den six)) (c : Int) (ds : List Int) (j : Nat) (i : Int) (d n : Int) (j2 : Nat) (lf k : Int) (o : List (Ty.den retT)) (b : List Int) : St := hp_al1.st ⟨(x, (), j, i, (), lf, k, ()), ((c, ds, ()), (d, n, j2, ()), ()), (o, b, ())⟩
noncomputable def rn_al1 (x : List (Ty.den six)) (c : Int) (ds : List Int) (j : Nat) (i : Int) (d n : Int) (j2 : Nat) (lf k : Int) (o : List (Ty.den retT)) (b : List Int) := outa lve_al1 (evCK Try.prog Γ (cfM Try.prog Γ cfg21 30) (cfg21.lo 35) [] 60 2 (lp 35 1) (st_al1 x c ds j i d n j2 lf k o b))
theorem rn_al1_eq (x : List (Ty.den six)) (c : Int) (ds : List Int) (j : Nat) (i : Int) (d n : Int) (j2 : Nat) (lf k : Int) (o : List (Ty.den retT)) (b : List Int) : (rn_al1 x c ds j i d n j2 lf k o b).run = (bif decide (k < c) then (bif decide ((0 : Int) ≤ i ∧ i < (x.length : Int)) then (bif decide ((0 : Int) ≤ IntKind.i64.wrap ((2 : Int) + k) ∧ IntKind.i64.wrap ((2 : Int) + k) < (6 : Int)) then (bif decide (inr (sx (x.getD i.toNat six.dflt) (IntKind.i64.wrap ((2 : Int) + k))) = true ∧ IntKind.i64.wrap (lf + (1 : Int)) ≠ (0 : Int)) then (bif decide ((j2 + 1) * 2 * 8 ≤ 281474976710656) then (some ((Ex.normal, [V.slst .ro six x, V.ptr 0 0, V.bs true 0 0 j, V.si .i64 i, V.ptr 1 0, V.si .i64 (IntKind.i64.wrap (lf - pickD (sx (x.getD i.toNat six.dflt) (IntKind.i64.wrap ((2 : Int) + k))) (IntKind.i64.wrap (lf + (1 : Int))))), V.si .i64 (IntKind.i64.wrap (k + (1 : Int)))], [some [V.si .i64 c, V.slst .ro ity ds], some [V.si .i64 d, V.si .i64 n, V.bs true 1 0 (j2 + (1 : Nat))]], [some (Bf.live (.arr retT o)), some (Bf.live (.arr ity (List.take j2 (List.drop (0) b) ++ [pickD (sx (x.getD i.toNat six.dflt) (IntKind.i64.wrap ((2 : Int) + k))) (IntKind.i64.wrap (lf + (1 : Int)))])))], 74, 0, 0))) else none) else none) else none) else none) else (some ((Ex.exit 2, [V.slst .ro six x, V.ptr 0 0, V.bs true 0 0 j, V.si .i64 i, V.ptr 1 0], [some [V.si .i64 c, V.slst .ro ity ds], some [V.si .i64 d, V.si .i64 n, V.bs true 1 0 j2]], [some (Bf.live (.arr retT o)), some (Bf.live (.arr ity b))], 74, 0, 0)))) := by kernel_rfl
theorem rn_al1_c (x : List (Ty.den six)) (c : Int) (ds : List Int) (j : Nat) (i : Int) (d n : Int) (j2 : Nat) (lf k : Int) (o : List (Ty.den retT)) (b : List Int) {e : Ex} {vs : List V} {ob : Ob} {nm : Nm} {n' kh kt : Nat} (h : (rn_al1 x c ds j i d n j2 lf k o b).run = some (e, vs, ob, nm, n', kh, kt)) : SemC Try.prog Γ (lp 35 1) (st_al1 x c ds j i d n j2 lf k o b) e.to (St.of n' (lve_al1 e) vs ob nm kh kt) := SemC.of_evM cfg21_ok Try.func35 bd_al1 li_al1 h
def aOut (d n : Int) (v : List Int) (rs : List R1) (q : Int) (p : R1 × List R1) : R1 × List R1 := bif q == d then ((aIn d n v q rs p).1, (aIn d n v q rs p).2 ++ [(aIn d n v q rs p).1]) else aIn d n v q rs p
def aAll (d n : Int) (v : List Int) (rs : List R1) : Nat → R1 × List R1
 | 0 => ((d, n, v, ()), [])
 | q + 1 => aOut d n v rs q (aAll d n v rs q)
theorem aAll_next (d n : Int) (v : List Int) (rs : List R1) (q : Nat) : aAll d n v rs (q + 1) = aOut d n v rs q (aAll d n v rs q) := rfl
theorem aStep_sz {d n : Int} {v : List Int} {q : Int} {p : R1 × List R1} {x : R1} (hx : (rV x).length = v.length) (hp : (rV p.1).length = v.length) : (rV (aStep d n v q p x).1).length = v.length := by
 unfold aStep
 cases rD x != q
 · cases q != d
   · cases decide (cmpD (rN x) (rV x) n v > 0)
     · exact hp
     · exact hx
   · exact hp
 · exact hp
theorem aIn_sz {d n : Int} {v : List Int} {q : Int} : ∀ {rs : List R1} {p : R1 × List R1}, (∀ r ∈ rs, (rV r).length = v.length) → (rV p.1).length = v.length → (rV (aIn d n v q rs p).1).length = v.length
 | [], p, _, hp => hp
 | x :: rs, p, h, hp => aIn_sz (rs := rs) (p := aStep d n v q p x) (fun r hr => h r (by simp [hr])) (aStep_sz (h x (by simp)) hp)
theorem aOut_len {d n : Int} {v : List Int} {rs : List R1} {q : Int} {p : R1 × List R1} : (aOut d n v rs q p).2.length ≤ p.2.length + rs.length + 1 := by
 have h1 := aIn_len (d := d) (n := n) (v := v) (q := q) (rs := rs) (p := p) rs.length (Nat.le_refl _)
 rw [List.take_length] at h1
 unfold aOut
 cases q == d
 · simp only [cond_false]; omega
 · simp only [cond_true, List.length_append, List.length_singleton]; omega
theorem aOut_sz {d n : Int} {v : List Int} {rs : List R1} {q : Int} {p : R1 × List R1} (h : ∀ r ∈ rs, (rV r).length = v.length) (hp : (rV p.1).length = v.length) : (rV (aOut d n v rs q p).1).length = v.length := by
 have := aIn_sz (d := d) (n := n) (q := q) h hp
 unfold aOut
 cases q == d
 · exact this
 · exact this
theorem aAll_ok {d n : Int} {v : List Int} {rs : List R1} (h : ∀ r ∈ rs, (rV r).length = v.length) : ∀ q, (rV (aAll d n v rs q).1).length = v.length ∧ (aAll d n v rs q).2.length ≤ q * (rs.length + 1)
 | 0 => ⟨rfl, Nat.zero_le _⟩
 | q + 1 => by
  obtain ⟨h1, h2⟩ := aAll_ok (d := d) (n := n) h q
  rw [aAll_next]
  refine ⟨aOut_sz h h1, Nat.le_trans aOut_len ?_⟩
  rw [Nat.succ_mul]
  omega
abbrev pre_a0 (c : Int) (ds : List Int) (rs : List (Ty.den retT)) (d n : Int) (v : List Int) (c2 : Int) (j0 j : Nat) (bd bn : Int) (bv : List Int) (er q : Int) (b0 : List Int) (o : List (Ty.den retT)) : Prop := q = 0 ∧ j = 0 ∧ o = [] ∧ (bd = d ∧ bn = n ∧ bv = v) ∧ rs.length ≤ 1000 ∧ ds.length ≤ 100 ∧ v.length ≤ 1000 ∧ ∀ r ∈ rs, (rV r).length = v.length
def rs_a0 (c : Int) (ds : List Int) (rs : List (Ty.den retT)) (d n : Int) (v : List Int) (c2 : Int) (j0 j : Nat) (bd bn : Int) (bv : List Int) (er q : Int) (b0 : List Int) (o : List (Ty.den retT)) : Ex × St := (.exit 0, St.of 92 (lve_a0 (.exit 0)) [.ptr 0 0, .ptr 1 0, .si .i64 er] [some [.i .i64 0, .lst .full [], .lst .full []], some [.si .i64 c2, .bs true 0 0 j0, .bs true 1 0 (aAll d n v rs ds.length).2.length]] [some (.live (.arr ity b0)), some (.live (.arr retT (aAll d n v rs ds.length).2))] hp_a0.kh hp_a0.kt)
def res_a0 (c : Int) (ds : List Int) (rs : List (Ty.den retT)) (d n : Int) (v : List Int) (c2 : Int) (j0 j : Nat) (bd bn : Int) (bv : List Int) (er q : Int) (b0 : List Int) (o : List (Ty.den retT)) : Tr (Ex × St) := .br (decide (pre_a0 c ds rs d n v c2 j0 j bd bn bv er q b0 o)) (.leaf (some (.exit 0, St.of 92 (lve_a0 (.exit 0)) [.ptr 0 0, .ptr 1 0, .si .i64 er] [some [.i .i64 0, .lst .full [], .lst .full []], some [.si .i64 c2, .bs true 0 0 j0, .bs true 1 0 (aAll d n v rs ds.length).2.length]] [some (.live (.arr ity b0)), some (.live (.arr retT (aAll d n v rs ds.length).2))] hp_a0.kh hp_a0.kt))) (.leaf none)
def ent_a0 : LEnt := LEnt.by hp_a0 fun ⟨(_, _, _, _, er, _, q, _), ((c, ds, rs, _), (d, n, v, _), (_, _, _, _), (c2, j0, j, _), (bd, bn, bv, _), _), (b0, o, _)⟩ => res_a0 c ds rs d n v c2 j0 j bd bn bv er q b0 o
theorem ent_a0_ok (hgo : ∀ (c : Int) (ds : List Int) (rs : List (Ty.den retT)) (d n : Int) (v : List Int) (c2 : Int) (j0 j : Nat) (bd bn : Int) (bv : List Int) (er q : Int) (b0 : List Int) (o : List (Ty.den retT)), pre_a0 c ds rs d n v c2 j0 j bd bn bv er q b0 o → SemL Try.prog Γ (lp 15 0) (st_a0 c ds rs d n v c2 j0 j bd bn bv er q b0 o) (rs_a0 c ds rs d n v c2 j0 j bd bn bv er q b0 o).1.to (rs_a0 c ds rs d n v c2 j0 j bd bn bv er q b0 o).2) : EntOk Try.prog Γ (lp 15 0) ent_a0 := LEnt.by_ok fun ⟨(_, _, _, _, er, _, q, _), ((c, ds, rs, _), (d, n, v, _), (_, _, _, _), (c2, j0, j, _), (bd, bn, bv, _), _), (b0, o, _)⟩ _ _ h_ => SemL.br (out := rs_a0 c ds rs d n v c2 j0 j bd bn bv er q b0 o) rfl (hgo c ds rs d n v c2 j0 j bd bn bv er q b0 o) h_
theorem a0_go (c : Int) (ds : List Int) (rs : List (Ty.den retT)) (d n : Int) (v : List Int) (c2 : Int) (j0 j : Nat) (bd bn : Int) (bv : List Int) (er q : Int) (b0 : List Int) (o : List (Ty.den retT)) (h : pre_a0 c ds rs d n v c2 j0 j bd bn bv er q b0 o) :
 SemL Try.prog Γ (lp 15 0) (st_a0 c ds rs d n v c2 j0 j bd bn bv er q b0 o) (rs_a0 c ds rs d n v c2 j0 j bd bn bv er q b0 o).1.to (rs_a0 c ds rs d n v c2 j0 j bd bn bv er q b0 o).2 := by
 obtain ⟨rfl, rfl, rfl, ⟨rfl, rfl, rfl⟩, hr, hd, hv, hl⟩ := h
 refine SemL.scan ds.length 0 (Nat.zero_le _) (fun i => st_a0 c ds rs bd bn bv c2 j0 (aAll bd bn bv rs i).2.length (rD (aAll bd bn bv rs i).1) (rN (aAll bd bn bv rs i).1) (rV (aAll bd bn bv rs i).1) er (i : Nat) b0 (aAll bd bn bv rs i).2) (fun _ => true) _ ?_ ?_ ?_
 · intro i _ hi _ _
   obtain ⟨g1, g2⟩ := aAll_ok (d := bd) (n := bn) hl i
   have g3 : i * (rs.length + 1) ≤ 100 * 1001 := Nat.mul_le_mul (by omega) (by omega)
   refine rn_a0_c c ds rs bd bn bv c2 j0 _ _ _ _ er i b0 _ (e := .normal) ?_
   rw [rn_a0_eq, wrap_succ hi (by omega), decide_eq_true (by omega : (i : Int) < (Nat.cast ds.length : Int)), aAll_next]
   generalize hP : aAll bd bn bv rs i = P at g1 g2 ⊢
   have hpre : pre_a1 c ds rs bd bn bv c2 j0 P.2.length (rD P.1) (rN P.1) (rV P.1) er i 0 b0 P.2 := ⟨rfl, rfl, hr, by omega, by omega, hl⟩
   rw [decide_eq_true hpre]
   have e : ((rD P.1, rN P.1, rV P.1, ()), P.2) = P := rfl
   have h1 := aIn_len (d := bd) (n := bn) (v := bv) (q := (i : Int)) (rs := rs) (p := P) rs.length (Nat.le_refl _)
   rw [List.take_length] at h1
   have h2 := aIn_sz (d := bd) (n := bn) (q := (i : Int)) hl g1
   unfold aOut
   show (bif true then bif true then bif (i : Int) == bd then bif decide ((rV (aIn bd bn bv i rs P).fst).length ≤ 1000000) then bif decide (((aIn bd bn bv i rs P).snd.length + 1) * 2 * 40 ≤ 281474976710656) then _ else none else none else _ else none else _) = _
   rw [decide_eq_true (by omega : (rV (aIn bd bn bv i rs P).fst).length ≤ 1000000), decide_eq_true (by omega : ((aIn bd bn bv i rs P).snd.length + 1) * 2 * 40 ≤ 281474976710656)]
   cases hq : (i : Int) == bd with
   | false => rfl
   | true =>
    show some _ = some _
    rw [List.drop_zero, List.take_length]
    simp only [cond_true, List.length_append, List.length_singleton]
    rfl
 · intro i _ _ _ hp
   cases hp
 · intro _
   unfold rs_a0
   refine ⟨by simp [Ex.to], rn_a0_c c ds rs bd bn bv c2 j0 _ _ _ _ er ds.length b0 _ (e := .exit 0) ?_⟩
   rw [rn_a0_eq, decide_eq_false (by omega)]
   rfl
def lo19 : LOrc := (LOrc.add lo18 15 0 ent_a0)
theorem lo19_ok : LOrcOk Try.prog Γ lo19 := (LOrcOk.add lo18_ok 15 0 Try.func15 bd_a0 le_a0 (ent_a0_ok a0_go))
noncomputable def cfg22 : Cfg := cfgN o23 lo19
theorem cfg22_ok : CfgOk Try.prog Γ cfg22 := cfgN_ok o23_ok lo19_ok
theorem c15_run (c : Int) (ds : List Int) (rs : List (Ty.den retT)) (d n : Int) (v : List Int) : runL cfg22 15 [vT c ds rs, .agg [.si .i64 d, .si .i64 n, .slst .ro ity v]] = .ok (some ((some (decide (szR rs) && (!validT c ds rs || decide (ds.length ≤ 1000000 ∧ v.length ≤ 1000000)))).getD true && ((bif !validT c ds rs then true else !properD c ds d n v) || !!validC c ds && (some (decide (ds.length * 2 * (8 : Nat) ≤ 281474976710656) && true)).getD true && decide (pre_a0 c ds rs d n v c ds.length (0) d n v (0 : Int) (0 : Int) ds [])))) (V.tup [V.agg [V.si .i64 (bif bif !validT c ds rs then true else !properD c ds d n v then (0 : Int) else c), V.slst .ro ity (bif bif !validT c ds rs then true else !properD c ds d n v then [] else List.take ds.length (List.drop (0) ds)), V.slst .ro retT (bif bif !validT c ds rs then true else !properD c ds d n v then [] else List.take (aAll d n v rs ds.length).snd.length (List.drop (0) (aAll d n v rs ds.length).snd))], V.si .i64 (bif bif !validT c ds rs then true else !properD c ds d n v then (270 : Int) else (0 : Int))]) := by kernel_rfl
end T
end Go.Proofs.Ytofbchcclkejgaa

/- Package tally: the reference: Add, New, Contest: contracts. -/
set_option linter.unusedVariables false
set_option linter.unusedSimpArgs false
set_option maxRecDepth 100000
set_option maxHeartbeats 4000000
namespace Go.Proofs.Ytofbchcclkejgaa
open Go
namespace T
def refAdd (d n : Int) (v : List Int) (rs : List R1) (ds : List Int) : List R1 := (aAll d n v rs ds.length).2
theorem c15_ok (c : Int) (ds : List Int) (rs : List (Ty.den retT)) (d n : Int) (v : List Int) (h : szR rs ∧ v.length ≤ 1000000) : SemF Try.prog Γ 15 [vT c ds rs, .agg [.si .i64 d, .si .i64 n, .slst .ro ity v]] [] []
 (.tup [.agg [.si .i64 (bif addOk c ds rs d n v then c else 0), .slst .ro ity (bif addOk c ds rs d n v then ds else []), .slst .ro retT (bif addOk c ds rs d n v then refAdd d n v rs ds else [])], .si .i64 (bif addOk c ds rs d n v then 0 else 270)]) [] [] := by
 have e1 : List.take ds.length (List.drop 0 ds) = ds := by rw [List.drop_zero, List.take_length]
 have e2 : ∀ z : List R1, List.take z.length (List.drop 0 z) = z := fun z => by rw [List.drop_zero, List.take_length]
 refine of_runL cfg22_ok (c15_run c ds rs d n v) ?_ ?_
 · rw [decide_eq_true h.1]
   cases hv : validT c ds rs with
   | false => rfl
   | true =>
    have hC := validC_iff.1 (validT_iff.1 hv).1
    cases hp : properD c ds d n v with
    | false =>
     rw [decide_eq_true (show ds.length ≤ 1000000 ∧ v.length ≤ 1000000 from ⟨by omega, h.2⟩)]
     rfl
    | true =>
     have hP := properD_iff.1 hp
     have hl := validT_len hv
     have hok := validT_ok hv
     have hpre : pre_a0 c ds rs d n v c ds.length 0 d n v 0 0 ds [] := ⟨rfl, rfl, rfl, ⟨rfl, rfl, rfl⟩, by omega, by omega, by omega, fun r hr => by have := (hok r hr).1; omega⟩
     rw [decide_eq_true (show ds.length ≤ 1000000 ∧ v.length ≤ 1000000 from ⟨by omega, h.2⟩), decide_eq_true hpre, (validT_iff.1 hv).1, decide_eq_true (by omega : ds.length * 2 * 8 ≤ 281474976710656)]
     rfl
 · cases ha : addOk c ds rs d n v with
   | true =>
    unfold addOk at ha
    rw [Bool.and_eq_true] at ha
    rw [ha.1, ha.2]
    simp only [Bool.not_true, cond_false, cond_true]
    exact (congrArg (fun a : List Int => V.tup [V.agg [V.si .i64 c, V.slst .ro ity a, V.slst .ro retT (List.take (aAll d n v rs ds.length).2.length (List.drop 0 (aAll d n v rs ds.length).2))], V.si .i64 0]) e1).trans (congrArg (fun b : List R1 => V.tup [V.agg [V.si .i64 c, V.slst .ro ity ds, V.slst .ro retT b], V.si .i64 0]) (e2 _))
   | false =>
    have : (bif !validT c ds rs then true else !properD c ds d n v) = true := by
     unfold addOk at ha
     revert ha
     cases validT c ds rs <;> cases properD c ds d n v <;> simp
    rw [this]
    rfl
theorem c13_ok (c : Int) (ds : List Int) (h : ds.length ≤ 1000000) : SemF Try.prog Γ 13 [.agg [.si .i64 c, .slst .ro ity ds]] [] [] (.tup [.agg [.si .i64 (bif validC c ds then c else 0), .slst .ro ity (bif validC c ds then ds else []), .slst .ro retT []], .si .i64 (bif validC c ds then 0 else 270)]) [] [] :=
 by
  have e1 : List.take ds.length (List.drop 0 ds) = ds := by rw [List.drop_zero, List.take_length]
  have h1 := of_runL cfg19_ok (c13_run c ds) (by rw [decide_eq_true (by omega : ds.length * 2 * 8 ≤ 281474976710656), Bool.or_true]; rfl) rfl
  refine h1.weaken (fun G cv hr => ?_)
  cases hv : validC c ds <;> rw [hv] at hr
  · cases hr with
    | tup hs hr => exact .tup hs (fun j v w a b => by
     match j with
     | 0 => cases a; exact Ty.ofV_ok (t := talT) (x := (((0 : Int), ([] : List Int), ()), ([] : List (Ty.den retT)), ())) (by kernel_rfl) (hr 0 _ _ rfl b)
     | 1 => cases a; exact hr 1 _ _ rfl b
     | j + 2 => cases a)
  · have hr2 := (congrArg (fun z : List Int => VRel G (.tup [.agg [.si .i64 c, .slst .ro ity z, .lst .ro []], .si .i64 0]) cv) e1).mp hr
    revert hr2
    intro hr2
    cases hr2 with
    | tup hs hr3 => exact .tup hs (fun j v w a b => by
     match j with
     | 0 => cases a; exact Ty.ofV_ok (t := talT) (x := ((c, ds, ()), ([] : List (Ty.den retT)), ())) (by kernel_rfl) (hr3 0 _ _ rfl b)
     | 1 => cases a; exact hr3 1 _ _ rfl b
     | j + 2 => cases a)
noncomputable def gg_o15 (c : Int) (ds : List Int) (rs : List (Ty.den retT)) (d n : Int) (v : List Int) : Option Bool × V := (some (decide (szR rs ∧ v.length ≤ 1000000)), .tup [.agg [.si .i64 (bif addOk c ds rs d n v then c else 0), .slst .ro ity (bif addOk c ds rs d n v then ds else []), .slst .ro retT (bif addOk c ds rs d n v then refAdd d n v rs ds else [])], .si .i64 (bif addOk c ds rs d n v then 0 else 270)])
theorem gg_o15_c (c : Int) (ds : List Int) (rs : List (Ty.den retT)) (d n : Int) (v : List Int) (h : (gg_o15 c ds rs d n v).1.getD true = true) : szR rs ∧ v.length ≤ 1000000 := of_decide_eq_true h
noncomputable def o15 : Orc := fun f args => if f = 15 then (Ty.ofVs [talT, retT] args).map (fun x => gg_o15 x.1.1.1 x.1.1.2.1 x.1.2.1 x.2.1.1 x.2.1.2.1 x.2.1.2.2.1) else o23 f args
theorem o15_ok : OrcOk Try.prog Γ o15 := o23_ok.plain 15 [talT, retT] (fun x => gg_o15 x.1.1.1 x.1.1.2.1 x.1.2.1 x.2.1.1 x.2.1.2.1 x.2.1.2.2.1) Try.f15 Try.func15 rfl (by kernel_rfl) (fun x h => c15_ok x.1.1.1 x.1.1.2.1 x.1.2.1 x.2.1.1 x.2.1.2.1 x.2.1.2.2.1 (gg_o15_c x.1.1.1 x.1.1.2.1 x.1.2.1 x.2.1.1 x.2.1.2.1 x.2.1.2.2.1 h))
noncomputable def gg_o13 (c : Int) (ds : List Int) : Option Bool × V := (some (decide (ds.length ≤ 1000000)), .tup [.agg [.si .i64 (bif validC c ds then c else 0), .slst .ro ity (bif validC c ds then ds else []), .slst .ro retT []], .si .i64 (bif validC c ds then 0 else 270)])
theorem gg_o13_c (c : Int) (ds : List Int) (h : (gg_o13 c ds).1.getD true = true) : ds.length ≤ 1000000 := of_decide_eq_true h
noncomputable def o13 : Orc := fun f args => if f = 13 then (Ty.ofVs [conT] args).map (fun x => gg_o13 x.1.1 x.1.2.1) else o15 f args
theorem o13_ok : OrcOk Try.prog Γ o13 := o15_ok.plain 13 [conT] (fun x => gg_o13 x.1.1 x.1.2.1) Try.f13 Try.func13 rfl (by kernel_rfl) (fun x h => c13_ok x.1.1 x.1.2.1 (gg_o13_c x.1.1 x.1.2.1 h))
theorem conD_next {x : List Int} {i : Nat} (hi : i < x.length) : (x.take (i + 1)).map (fun y => pickD y 120) = (x.take i).map (fun y => pickD y 120) ++ [pickD (x.getD i 0) 120] := by
 rw [take_snoc 0 hi, List.map_append]; rfl
abbrev inrL (x : List Int) : Prop := ∀ y ∈ x, inr y = true
def conB (x : List Int) (i : Nat) : List Int := 40 :: (x.take i).map fun y => pickD y 120
theorem conB_next {x : List Int} {i : Nat} (hi : i < x.length) : conB x (i + 1) = conB x i ++ [pickD (x.getD i 0) 120] := by
 unfold conB; rw [conD_next hi]; rfl
theorem conB_len (x : List Int) (i : Nat) : (conB x i).length ≤ i + 1 := by simp [conB]; omega
theorem snoc_len {α : Type} (z : List α) (y : α) : (z ++ [y]).length = z.length + 1 := by simp
def cnX (x : List Int) (c : Int) : St := St.of 33 [4, 5] [.ptr 0 0, .ptr 1 0] [some [.i .i64 0, .lst .full []], some [.si .i64 c, .bs true 0 0 (conB x 8).length]] [some (.live (.arr ity (conB x 8)))]
theorem cn_stop {x : List Int} {i : Nat} (h : i = min x.length 8) : (bif decide ((i : Int) < (Nat.cast x.length : Int)) then decide ((i : Int) < 8) else false) = false ∧ conB x i = conB x 8 := by
 subst h
 constructor
 · by_cases h : x.length < 8
   · rw [decide_eq_false (by omega)]; rfl
   · rw [decide_eq_false (by omega : ¬ ((min x.length 8 : Nat) : Int) < 8)]; cases decide (((min x.length 8 : Nat) : Int) < (Nat.cast x.length : Int)) <;> rfl
 · unfold conB
   have e : x.take (min x.length 8) = x.take 8 := by
    by_cases h : x.length ≤ 8
    · rw [Nat.min_eq_left h, List.take_length, List.take_of_length_le h]
    · rw [Nat.min_eq_right (by omega)]
   rw [e]
theorem cn_go (x : List Int) (c : Int) (h0 : 0 < x.length) (hr : inrL x) : SemL Try.prog Γ (lp 34 0) (st_cn x c (conB x 1).length ((1 : Nat) : Int) (conB x 1)) (.exit 0) (cnX x c) := by
 refine SemL.scan (min x.length 8) 1 (by omega) (fun i => st_cn x c (conB x i).length (i : Nat) (conB x i)) (fun _ => true) (.exit 0, cnX x c) ?_ ?_ ?_
 · intro i _ hi _ _
   have hil : i < x.length := by omega
   refine rn_cn_c x c _ i _ (e := .normal) ?_
   have hln := conB_len x i
   rw [rn_cn_eq, wrap_succ (n := 8) (by omega) (by omega), decide_eq_true (by omega : (i : Int) < (Nat.cast x.length : Int)), decide_eq_true (by omega : (i : Int) < 8), decide_eq_true (by omega : (0 : Int) ≤ (i : Int) ∧ (i : Int) < (Nat.cast x.length : Int)), Int.toNat_natCast, decide_eq_true (show inr (x.getD i 0) = true ∧ (120 : Int) ≠ 0 from ⟨hr _ (getD_mem 0 hil), by omega⟩),
    decide_eq_true (by omega : ((conB x i).length + 1) * 2 * 8 ≤ 281474976710656), List.drop_zero, List.take_length, conB_next hil, snoc_len]
   rfl
 · intro i _ _ _ hp
   cases hp
 · intro _
   refine ⟨by simp [Ex.to], ?_⟩
   obtain ⟨e1, e2⟩ := cn_stop (x := x) rfl
   have := rn_cn_c x c (conB x (min x.length 8)).length ((min x.length 8 : Nat) : Int) (conB x (min x.length 8)) (e := .exit 0) (by rw [rn_cn_eq, e1]; rfl)
   show SemC Try.prog Γ (lp 34 0) (st_cn x c (conB x (min x.length 8)).length ((min x.length 8 : Nat) : Int) (conB x (min x.length 8))) (.exit 0) (cnX x c)
   unfold cnX
   rw [← e2]
   exact this
noncomputable def nA : Code := cA (root 34)
noncomputable def nB : Code := cA (cB (root 34))
noncomputable def nC : Code := cA (cA (cB (cB (root 34))))
noncomputable def nE : Code := cB (cB (cB (root 34)))
theorem bd34 : Try.f34.body = some (root 34) := by kernel_rfl
theorem root34 : root 34 = .seq nA (.seq nB (.seq (.seq nC (.block 0 (.loop (lp 34 0)))) nE)) := by kernel_rfl
noncomputable def cfg23 : Cfg := cfgQ o13 lo19
theorem cfg23_ok : CfgOk Try.prog Γ cfg23 := cfgQ_ok o13_ok lo19_ok
theorem nA_eq (c : Int) (x : List Int) : (pc 34 0 cfg23 nA [0, 1, 4] [] (St.start 33 [.si .i64 c, .slst .ro ity x] [] [])).run = (some ((Ex.normal, [V.si IntKind.i64 c, V.slst Tag.ro ity x, V.ptr (0 : Nat) (0 : Nat)], [some [V.i IntKind.i64 (0 : Int), V.lst Tag.full []]], [], (33 : Nat), (0 : Nat), (0 : Nat)))) := by kernel_rfl
theorem nB_eq (c : Int) (x : List Int) : (pc 34 0 cfg23 nB [1, 4, 5] [] (St.of 33 [0, 1, 4] [.si .i64 c, .slst .ro ity x, .ptr 0 0] [some [z0, .lst .full []]] [])).run = (bif decide (inr c = true ∧ (3 : Int) ≠ (0 : Int)) then (some ((Ex.normal, [V.slst Tag.ro ity x, V.ptr (0 : Nat) (0 : Nat), V.ptr (1 : Nat) (0 : Nat)], [some [V.i IntKind.i64 (0 : Int), V.lst Tag.full []], some [V.si IntKind.i64 (IntKind.i64.wrap ((2 : Int) + pickD c (3 : Int))), V.lst Tag.full [V.i IntKind.i64 (40 : Int)]]], [], (33 : Nat), (0 : Nat), (0 : Nat)))) else none) := by kernel_rfl
theorem nC_eq (c : Int) (x : List Int) : (pc 34 0 cfg23 nC [1, 4, 5, 6] [] (St.of 33 [1, 4, 5] [.slst .ro ity x, .ptr 0 0, .ptr 1 0] [some [z0, .lst .full []], some [.si .i64 c, .lst .full [.i .i64 40]]] [])).run = (some ((Ex.normal, [V.slst Tag.ro ity x, V.ptr (0 : Nat) (0 : Nat), V.ptr (1 : Nat) (0 : Nat), V.i IntKind.i64 (0 : Int)], [some [V.i IntKind.i64 (0 : Int), V.lst Tag.full []], some [V.si IntKind.i64 c, V.lst Tag.full [V.i IntKind.i64 (40 : Int)]]], [], (33 : Nat), (0 : Nat), (0 : Nat)))) := by kernel_rfl
noncomputable def nS (x : List Int) (c : Int) : St := St.of 33 [1, 4, 5, 6] [.slst .ro ity x, .ptr 0 0, .ptr 1 0, .i .i64 0] [some [z0, .lst .full []], some [.si .i64 c, .lst .full [.i .i64 40]]] []
theorem n0_eq (c : Int) (x : List Int) : (pc 34 1 cfg23 (lp 34 0) [1, 4, 5, 6] [4, 5] (nS x c)).run = (bif bif decide ((0 : Int) < (Nat.cast (x.length) : Int)) then true else false then (bif decide ((0 : Int) ≤ (0 : Int) ∧ (0 : Int) < (Nat.cast (x.length) : Int)) then (bif decide (inr (x.getD (0) (0 : Int)) = true ∧ (120 : Int) ≠ (0 : Int)) then (some ((Ex.normal, [V.slst Tag.ro ity x, V.ptr (0 : Nat) (0 : Nat), V.ptr (1 : Nat) (0 : Nat), V.i IntKind.i64 (1 : Int)], [some [V.i IntKind.i64 (0 : Int), V.lst Tag.full []], some [V.si IntKind.i64 c, V.bs false (0 : Nat) (0 : Nat) (2 : Nat)]], [some (Bf.live (BC.cs (1 : Nat) [V.i IntKind.i64 (40 : Int), V.si IntKind.i64 (pickD (x.getD (0 : Nat) (0 : Int)) (120 : Int))]))], (33 : Nat), (0 : Nat), (0 : Nat)))) else none) else none) else (some ((Ex.exit (0 : Nat), [V.ptr (0 : Nat) (0 : Nat), V.ptr (1 : Nat) (0 : Nat)], [some [V.i IntKind.i64 (0 : Int), V.lst Tag.full []], some [V.si IntKind.i64 c, V.lst Tag.full [V.i IntKind.i64 (40 : Int)]]], [], (33 : Nat), (0 : Nat), (0 : Nat))))) := by kernel_rfl
theorem nE_eq (c : Int) (x b : List Int) : (pc 34 1 cfg23 nE [4] [4] (St.of 33 [4, 5] [.ptr 0 0, .ptr 1 0] [some [z0, .lst .full []], some [.si .i64 c, .bs true 0 0 b.length]] [some (.live (.arr ity b))])).run = (some ((Ex.ret, [V.ptr (0 : Nat) (0 : Nat)], [some [V.si IntKind.i64 c, V.bs true (0 : Nat) (0 : Nat) b.length]], [some (Bf.live (BC.arr ity b))], (33 : Nat), (0 : Nat), (0 : Nat)))) := by kernel_rfl
theorem nE0_eq (c : Int) : (pc 34 1 cfg23 nE [4] [4] (St.of 33 [4, 5] [.ptr 0 0, .ptr 1 0] [some [z0, .lst .full []], some [.si .i64 c, .lst .full [.i .i64 40]]] [])).run = (some ((Ex.ret, [V.ptr (0 : Nat) (0 : Nat)], [some [V.si IntKind.i64 c, V.lst Tag.full [V.i IntKind.i64 (40 : Int)]]], [], (33 : Nat), (0 : Nat), (0 : Nat)))) := by kernel_rfl
end T
end Go.Proofs.Ytofbchcclkejgaa

/- Package tally: the reference: Contest; All. -/
set_option linter.unusedVariables false
set_option linter.unusedSimpArgs false
set_option maxRecDepth 100000
set_option maxHeartbeats 4000000
namespace Go.Proofs.Ytofbchcclkejgaa
open Go
namespace T
theorem c34_ok (c : Int) (x : List Int) (h : inr c = true ∧ inrL x) : SemF Try.prog Γ 34 [.si .i64 c, .slst .ro ity x] [] [] (.agg [.si .i64 (2 + pickD c 3), .slst .ro ity (conB x 8)]) [] [] := by
 obtain ⟨hc, hr⟩ := h
 have hp := pickD_lt (k := c) (n := 3) (by omega)
 have hw : IntKind.i64.wrap (2 + pickD c 3) = 2 + pickD c 3 := wrap_in (by omega) (by omega)
 have hA := pc_ok cfg23_ok Try.func34 bd34 (lies0 (by kernel_rfl)) (nA_eq c x)
 have hB := pc_ok cfg23_ok Try.func34 bd34 (lies0 (by kernel_rfl)) ((nB_eq c x).trans (by rw [decide_eq_true (show inr c = true ∧ (3 : Int) ≠ 0 from ⟨hc, by omega⟩), hw]; rfl))
 have hC := pc_ok cfg23_ok Try.func34 bd34 (lies0 (by kernel_rfl)) (nC_eq (2 + pickD c 3) x)
 have liesL : Lies (root 34) 1 (lp 34 0) := Lies.of_take (n := 0) (by kernel_rfl)
 by_cases h0 : 0 < x.length
 · have h1 : SemC Try.prog Γ (lp 34 0) (nS x (2 + pickD c 3)) .normal (St.of 33 [1, 4, 5, 6] [.slst .ro ity x, .ptr 0 0, .ptr 1 0, .i .i64 1] [some [z0, .lst .full []], some [.si .i64 (2 + pickD c 3), .bs false 0 0 2]] [some (.live (.cs 1 [.i .i64 40, .si .i64 (pickD (x.getD 0 0) 120)]))]) :=
    pc_ok (e := .normal) cfg23_ok Try.func34 bd34 liesL ((n0_eq (2 + pickD c 3) x).trans (by
     rw [decide_eq_true (by omega : (0 : Int) < (Nat.cast x.length : Int)), decide_eq_true (by omega : (0 : Int) ≤ 0 ∧ (0 : Int) < (Nat.cast x.length : Int)), decide_eq_true (show inr (x.getD 0 0) = true ∧ (120 : Int) ≠ 0 from ⟨hr _ (getD_mem 0 h0), by omega⟩)]; rfl))
   have e1 : conB x 1 = [40, pickD (x.getD 0 0) 120] := conB_next h0
   have hgo := cn_go x (2 + pickD c 3) h0 hr
   rw [e1] at hgo
   have hL : SemL Try.prog Γ (lp 34 0) (St.of 33 [1, 4, 5, 6] [.slst .ro ity x, .ptr 0 0, .ptr 1 0, .i .i64 1] [some [z0, .lst .full []], some [.si .i64 (2 + pickD c 3), .bs false 0 0 2]] [some (.live (.cs 1 [.i .i64 40, .si .i64 (pickD (x.getD 0 0) 120)]))]) (.exit 0) (cnX x (2 + pickD c 3)) :=
    HP.rd_ok (h := hp_cn) (x := ⟨(x, (), (), (1 : Int), ()), (((), (), ()), ((2 + pickD c 3 : Int), (2 : Nat), ()), ()), (([40, pickD (x.getD 0 0) 120] : List Int), ())⟩) (by kernel_rfl) hgo
   have hE := pc_ok cfg23_ok Try.func34 bd34 (lies0 (by kernel_rfl)) (nE_eq (2 + pickD c 3) x (conB x 8))
   have hc' : SemC Try.prog Γ (root 34) (St.start 33 [.si .i64 c, .slst .ro ity x] [] []) .ret (St.of 33 [4] [.ptr 0 0] [some [.si .i64 (2 + pickD c 3), .bs true 0 0 (conB x 8).length]] [some (.live (.arr ity (conB x 8)))]) := by
    rw [root34]; exact hA.seq (hB.seq ((hC.seq (SemC.block_exit (SemC.loop (SemL.next h1 hL)))).seq hE))
   have hf : SemF Try.prog Γ 34 [.si .i64 c, .slst .ro ity x] [] [] (.agg [.si .i64 (2 + pickD c 3), .bs true 0 0 (conB x 8).length]) [some [.si .i64 (2 + pickD c 3), .bs true 0 0 (conB x 8).length]] [some (.live (.arr ity (conB x 8)))] := SemF.of_body Try.func34 bd34 (.inl rfl) hc' (by kernel_rfl)
   have e : ∀ z : List Int, List.take z.length (List.drop 0 z) = z := fun z => by rw [List.drop_zero, List.take_length]
   exact (congrArg (fun z : List Int => SemF Try.prog Γ 34 [.si .i64 c, .slst .ro ity x] [] [] (.agg [.si .i64 (2 + pickD c 3), .slst .ro ity z]) [] []) (e (conB x 8))).mp (hf.drop (v' := .agg [.si .i64 (2 + pickD c 3), .slst .ro ity (List.take (conB x 8).length (List.drop 0 (conB x 8)))]) (by kernel_rfl))
 · have hx0 : x = [] := List.eq_nil_of_length_eq_zero (by omega)
   subst hx0
   have h1 : SemC Try.prog Γ (lp 34 0) (nS [] (2 + pickD c 3)) (.exit 0) (St.of 33 [4, 5] [.ptr 0 0, .ptr 1 0] [some [z0, .lst .full []], some [.si .i64 (2 + pickD c 3), .lst .full [.i .i64 40]]] []) :=
    pc_ok cfg23_ok Try.func34 bd34 liesL (n0_eq (2 + pickD c 3) [])
   have hE := pc_ok cfg23_ok Try.func34 bd34 (lies0 (by kernel_rfl)) (nE0_eq (2 + pickD c 3))
   have hc' : SemC Try.prog Γ (root 34) (St.start 33 [.si .i64 c, .slst .ro ity []] [] []) .ret (St.of 33 [4] [.ptr 0 0] [some [.si .i64 (2 + pickD c 3), .lst .full [.i .i64 40]]] []) := by
    rw [root34]; exact hA.seq (hB.seq ((hC.seq (SemC.block_exit (SemC.loop (SemL.out (by simp) h1)))).seq hE))
   have hf : SemF Try.prog Γ 34 [.si .i64 c, .slst .ro ity []] [] [] (.agg [.si .i64 (2 + pickD c 3), .lst .full [.i .i64 40]]) [some [.si .i64 (2 + pickD c 3), .lst .full [.i .i64 40]]] [] := SemF.of_body Try.func34 bd34 (.inl rfl) hc' (by kernel_rfl)
   exact (hf.drop (v' := .agg [.si .i64 (2 + pickD c 3), .lst .full [.i .i64 40]]) (by kernel_rfl)).weaken (fun G cv hr => Ty.ofV_ok (t := conT) (x := (2 + pickD c 3, ([40] : List Int), ())) (by kernel_rfl) hr)
noncomputable def gg_o34 (c : Int) (x : List Int) : Option Bool × V := (some (decide (inr c = true ∧ inrL x)), .agg [.si .i64 (2 + pickD c 3), .slst .ro ity (conB x 8)])
theorem gg_o34_c (c : Int) (x : List Int) (h : (gg_o34 c x).1.getD true = true) : inr c = true ∧ inrL x := of_decide_eq_true h
noncomputable def o34 : Orc := fun f args => if f = 34 then (Ty.ofVs [ity, .slice ity] args).map (fun x => gg_o34 x.1 x.2.1) else o13 f args
theorem o34_ok : OrcOk Try.prog Γ o34 := o13_ok.plain 34 [ity, .slice ity] (fun x => gg_o34 x.1 x.2.1) Try.f34 Try.func34 rfl (by kernel_rfl) (fun x h => c34_ok x.1 x.2.1 (gg_o34_c x.1 x.2.1 h))
def okS (y : Ty.den six) : Bool := inr y.1 && (inr y.2.1 && (inr y.2.2.1 && (inr y.2.2.2.1 && (inr y.2.2.2.2.1 && inr y.2.2.2.2.2.1))))
theorem sx_in {y : Ty.den six} (h : okS y = true) (m : Int) : inr (sx y m) = true := by
 unfold okS at h
 simp only [Bool.and_eq_true] at h
 unfold sx
 cases decide (m = 0)
 · cases decide (m - 1 = 0)
   · cases decide (m - 1 - 1 = 0)
     · cases decide (m - 1 - 1 - 1 = 0)
       · cases decide (m - 1 - 1 - 1 - 1 = 0)
         · exact h.2.2.2.2.2
         · exact h.2.2.2.2.1
       · exact h.2.2.2.1
     · exact h.2.2.1
   · exact h.2.1
 · exact h.1
def vtF (y : Ty.den six) (lf : Int) : Nat → List Int × Int
 | 0 => ([], lf)
 | k + 1 => ((vtF y lf k).1 ++ [pickD (sx y (2 + k)) ((vtF y lf k).2 + 1)], (vtF y lf k).2 - pickD (sx y (2 + k)) ((vtF y lf k).2 + 1))
theorem vtF_next (y : Ty.den six) (lf : Int) (k : Nat) : vtF y lf (k + 1) = ((vtF y lf k).1 ++ [pickD (sx y (2 + k)) ((vtF y lf k).2 + 1)], (vtF y lf k).2 - pickD (sx y (2 + k)) ((vtF y lf k).2 + 1)) := rfl
theorem vtF_ok {y : Ty.den six} {lf : Int} (h0 : 0 ≤ lf) : ∀ k, (vtF y lf k).1.length = k ∧ (0 ≤ (vtF y lf k).2 ∧ (vtF y lf k).2 ≤ lf) ∧ (vtF y lf k).1.sum + (vtF y lf k).2 = lf ∧ ∀ z ∈ (vtF y lf k).1, 0 ≤ z ∧ z ≤ lf
 | 0 => ⟨rfl, ⟨h0, Int.le_refl _⟩, by simp [vtF], fun z hz => by simp [vtF] at hz⟩
 | k + 1 => by
  obtain ⟨h1, ⟨h2, h3⟩, h4, h5⟩ := vtF_ok (y := y) h0 k
  have hp := pickD_lt (k := sx y (2 + k)) (n := (vtF y lf k).2 + 1) (by omega)
  rw [vtF_next]
  refine ⟨by rw [snoc_len, h1], ⟨by simp only []; omega, by simp only []; omega⟩, ?_, fun z hz => ?_⟩
  · simp only [List.sum_append, List.sum_cons, List.sum_nil]; omega
  · simp only [List.mem_append, List.mem_singleton] at hz
    rcases hz with hz | rfl
    · exact h5 z hz
    · omega
abbrev pre_al1 (x : List (Ty.den six)) (c : Int) (ds : List Int) (j : Nat) (i : Int) (d n : Int) (j2 : Nat) (lf k : Int) (o : List (Ty.den retT)) (b : List Int) : Prop := k = 0 ∧ j2 = 0 ∧ b = [] ∧ (0 ≤ i ∧ i < (x.length : Int)) ∧ (0 ≤ c ∧ c ≤ 4) ∧ (0 ≤ lf ∧ lf ≤ 100000) ∧ okS (x.getD i.toNat six.dflt) = true
def rs_al1 (x : List (Ty.den six)) (c : Int) (ds : List Int) (j : Nat) (i : Int) (d n : Int) (j2 : Nat) (lf k : Int) (o : List (Ty.den retT)) (b : List Int) : Ex × St := (.exit 2, St.of 74 (lve_al1 (.exit 2)) [.slst .ro six x, .ptr 0 0, .bs true 0 0 j, .si .i64 i, .ptr 1 0] [some [.si .i64 c, .slst .ro ity ds], some [.si .i64 d, .si .i64 n, .bs true 1 0 (vtF (x.getD i.toNat six.dflt) lf c.toNat).1.length]] [some (.live (.arr retT o)), some (.live (.arr ity (vtF (x.getD i.toNat six.dflt) lf c.toNat).1))] hp_al1.kh hp_al1.kt)
def res_al1 (x : List (Ty.den six)) (c : Int) (ds : List Int) (j : Nat) (i : Int) (d n : Int) (j2 : Nat) (lf k : Int) (o : List (Ty.den retT)) (b : List Int) : Tr (Ex × St) := .br (decide (pre_al1 x c ds j i d n j2 lf k o b)) (.leaf (some (.exit 2, St.of 74 (lve_al1 (.exit 2)) [.slst .ro six x, .ptr 0 0, .bs true 0 0 j, .si .i64 i, .ptr 1 0] [some [.si .i64 c, .slst .ro ity ds], some [.si .i64 d, .si .i64 n, .bs true 1 0 (vtF (x.getD i.toNat six.dflt) lf c.toNat).1.length]] [some (.live (.arr retT o)), some (.live (.arr ity (vtF (x.getD i.toNat six.dflt) lf c.toNat).1))] hp_al1.kh hp_al1.kt))) (.leaf none)
def ent_al1 : LEnt := LEnt.by hp_al1 fun ⟨(x, _, j, i, _, lf, k, _), ((c, ds, _), (d, n, j2, _), _), (o, b, _)⟩ => res_al1 x c ds j i d n j2 lf k o b
theorem ent_al1_ok (hgo : ∀ (x : List (Ty.den six)) (c : Int) (ds : List Int) (j : Nat) (i : Int) (d n : Int) (j2 : Nat) (lf k : Int) (o : List (Ty.den retT)) (b : List Int), pre_al1 x c ds j i d n j2 lf k o b → SemL Try.prog Γ (lp 35 1) (st_al1 x c ds j i d n j2 lf k o b) (rs_al1 x c ds j i d n j2 lf k o b).1.to (rs_al1 x c ds j i d n j2 lf k o b).2) : EntOk Try.prog Γ (lp 35 1) ent_al1 := LEnt.by_ok fun ⟨(x, _, j, i, _, lf, k, _), ((c, ds, _), (d, n, j2, _), _), (o, b, _)⟩ _ _ h_ => SemL.br (out := rs_al1 x c ds j i d n j2 lf k o b) rfl (hgo x c ds j i d n j2 lf k o b) h_
theorem al1_go (x : List (Ty.den six)) (c : Int) (ds : List Int) (j : Nat) (i : Int) (d n : Int) (j2 : Nat) (lf k : Int) (o : List (Ty.den retT)) (b : List Int) (h : pre_al1 x c ds j i d n j2 lf k o b) :
 SemL Try.prog Γ (lp 35 1) (st_al1 x c ds j i d n j2 lf k o b) (rs_al1 x c ds j i d n j2 lf k o b).1.to (rs_al1 x c ds j i d n j2 lf k o b).2 := by
 obtain ⟨rfl, rfl, rfl, hi, hc, hlf, hy⟩ := h
 refine SemL.scan c.toNat 0 (Nat.zero_le _) (fun k => st_al1 x c ds j i d n (vtF (x.getD i.toNat six.dflt) lf k).1.length (vtF (x.getD i.toNat six.dflt) lf k).2 (k : Nat) o (vtF (x.getD i.toNat six.dflt) lf k).1) (fun _ => true) _ ?_ ?_ ?_
 · intro k _ hk _ _
   obtain ⟨h1, h2, h3, h4⟩ := vtF_ok (y := x.getD i.toNat six.dflt) hlf.1 k
   refine rn_al1_c x c ds j i d n _ _ k o _ (e := .normal) ?_
   have hp := pickD_lt (k := sx (x.getD i.toNat six.dflt) (2 + k)) (n := (vtF (x.getD i.toNat six.dflt) lf k).2 + 1) (by omega)
   rw [rn_al1_eq, vtF_next]
   generalize hP : vtF (x.getD i.toNat six.dflt) lf k = P at h1 h2 h3 h4 hp ⊢
   rw [wrap_in (n := (2 : Int) + k) (by omega) (by omega), wrap_in (n := P.2 + 1) (by omega) (by omega), wrap_in (n := P.2 - pickD (sx (x.getD i.toNat six.dflt) (2 + k)) (P.2 + 1)) (by omega) (by omega), wrap_succ hk (by omega),
    decide_eq_true (by omega : (k : Int) < c), decide_eq_true hi, decide_eq_true (by omega : (0 : Int) ≤ 2 + k ∧ 2 + (k : Int) < 6), decide_eq_true (show inr (sx (x.getD i.toNat six.dflt) (2 + k)) = true ∧ P.2 + 1 ≠ 0 from ⟨sx_in hy _, by omega⟩), decide_eq_true (by omega : (P.1.length + 1) * 2 * 8 ≤ 281474976710656), List.drop_zero, List.take_length]
   simp only [cond_true, snoc_len]
   rfl
 · intro k _ _ _ hp
   cases hp
 · intro _
   unfold rs_al1
   refine ⟨by simp [Ex.to], rn_al1_c x c ds j i d n _ _ (c.toNat : Nat) o _ (e := .exit 2) ?_⟩
   rw [rn_al1_eq, decide_eq_false (by omega)]
   rfl
def lo21 : LOrc := (LOrc.add lo19 35 1 ent_al1)
theorem lo21_ok : LOrcOk Try.prog Γ lo21 := (LOrcOk.add lo19_ok 35 1 Try.func35 bd_al1 le_al1 (ent_al1_ok al1_go))
noncomputable def cfg24 : Cfg := cfgQ o34 lo21
theorem cfg24_ok : CfgOk Try.prog Γ cfg24 := cfgQ_ok o34_ok lo21_ok
noncomputable def ao : Code := lp 35 0
noncomputable def aoA : Code := cA ao
noncomputable def aoI : Code := cK (cA (cB ao))
noncomputable def aoC : Code := cA aoI
noncomputable def aoD : Code := cA (cB aoI)
noncomputable def aoE : Code := cA (cB (cB aoI))
noncomputable def aoF : Code := cB (cB (cB aoI))
noncomputable def aoK : Code := cB (cB ao)
theorem bd35 : Try.f35.body = some (root 35) := by kernel_rfl
theorem ao_eq : ao = .seq aoA (.seq (.block 1 (.seq aoC (.seq aoD (.seq aoE aoF)))) aoK) := by kernel_rfl
abbrev oC (c : Int) (ds : List Int) : Option (List V) := some [.si .i64 c, .slst .ro ity ds]
abbrev bR (o : List R1) : Option Bf := some (.live (.arr retT o))
def aS (x : List (Ty.den six)) (c : Int) (ds : List Int) (i : Int) (o : List R1) : St := St.of 74 [1, 2, 5, 6] [.slst .ro six x, .ptr 0 0, .bs true 0 0 o.length, .si .i64 i] [oC c ds] [bR o]
theorem aoA_eq (x : List (Ty.den six)) (c : Int) (ds : List Int) (i : Int) (o : List R1) : (pc 35 1 cfg24 aoA [1, 2, 5, 6] [5] (aS x c ds i o)).run = (bif bif decide (i < (Nat.cast (x.length) : Int)) then decide (i < (20 : Int)) else false then (some ((Ex.normal, [V.slst Tag.ro six x, V.ptr (0 : Nat) (0 : Nat), V.bs true (0 : Nat) (0 : Nat) o.length, V.si IntKind.i64 i], [some [V.si IntKind.i64 c, V.slst Tag.ro ity ds]], [some (Bf.live (BC.arr retT o))], (74 : Nat), (0 : Nat), (0 : Nat)))) else (some ((Ex.exit (0 : Nat), [V.bs true (0 : Nat) (0 : Nat) o.length], [], [some (Bf.live (BC.arr retT o))], (74 : Nat), (0 : Nat), (0 : Nat))))) := by kernel_rfl
theorem aoC_eq (x : List (Ty.den six)) (c : Int) (ds : List Int) (i : Int) (o : List R1) : (pc 35 1 cfg24 aoC [1, 2, 5, 6, 7] [] (aS x c ds i o)).run = (bif decide ((0 : Int) ≤ i ∧ i < (Nat.cast (x.length) : Int)) then (bif decide (inr (x.getD i.toNat six.dflt).fst = true ∧ (Nat.cast (ds.length) : Int) ≠ (0 : Int)) then (bif decide ((0 : Int) ≤ i ∧ i < (Nat.cast (x.length) : Int)) then (bif decide (inr (x.getD i.toNat six.dflt).snd.fst = true ∧ (4 : Int) ≠ (0 : Int)) then (some ((Ex.normal, [V.slst Tag.ro six x, V.ptr (0 : Nat) (0 : Nat), V.bs true (0 : Nat) (0 : Nat) o.length, V.si IntKind.i64 i, V.ptr (1 : Nat) (0 : Nat)], [some [V.si IntKind.i64 c, V.slst Tag.ro ity ds], some [V.si IntKind.i64 (pickD (x.getD i.toNat six.dflt).fst (Nat.cast (ds.length) : Int)), V.si IntKind.i64 (IntKind.i64.wrap ((1 : Int) + pickD (x.getD i.toNat six.dflt).snd.fst (4 : Int))), V.lst Tag.full []]], [some (Bf.live (BC.arr retT o))], (74 : Nat), (0 : Nat), (0 : Nat)))) else none) else none) else none) else none) := by kernel_rfl
theorem aoD_eq (x : List (Ty.den six)) (c : Int) (ds : List Int) (i d n : Int) (o : List R1) : (pc 35 1 cfg24 aoD [1, 2, 5, 6, 7, 8] [] (St.of 74 [1, 2, 5, 6, 7] [.slst .ro six x, .ptr 0 0, .bs true 0 0 o.length, .si .i64 i, .ptr 1 0] [oC c ds, some [.si .i64 d, .si .i64 n, .lst .full []]] [bR o])).run = (bif decide ((0 : Int) ≤ d ∧ d < (Nat.cast (ds.length) : Int)) then (some ((Ex.normal, [V.slst Tag.ro six x, V.ptr (0 : Nat) (0 : Nat), V.bs true (0 : Nat) (0 : Nat) o.length, V.si IntKind.i64 i, V.ptr (1 : Nat) (0 : Nat), V.si IntKind.i64 (ds.getD d.toNat (0 : Int))], [some [V.si IntKind.i64 c, V.slst Tag.ro ity ds], some [V.si IntKind.i64 d, V.si IntKind.i64 n, V.lst Tag.full []]], [some (Bf.live (BC.arr retT o))], (74 : Nat), (0 : Nat), (0 : Nat)))) else none) := by kernel_rfl
theorem aoE_eq (x : List (Ty.den six)) (c : Int) (ds : List Int) (i d n lf : Int) (o : List R1) : (pc 35 1 cfg24 aoE [1, 2, 5, 6, 7] [] (St.of 74 [1, 2, 5, 6, 7, 8] [.slst .ro six x, .ptr 0 0, .bs true 0 0 o.length, .si .i64 i, .ptr 1 0, .si .i64 lf] [oC c ds, some [.si .i64 d, .si .i64 n, .lst .full []]] [bR o])).run = (bif decide (pre_al1 x c ds o.length i d n (0) lf (0 : Int) o []) then (some ((Ex.normal, [V.slst Tag.ro six x, V.ptr (0 : Nat) (0 : Nat), V.bs true (0 : Nat) (0 : Nat) o.length, V.si IntKind.i64 i, V.ptr (1 : Nat) (0 : Nat)], [some [V.si IntKind.i64 c, V.slst Tag.ro ity ds], some [V.si IntKind.i64 d, V.si IntKind.i64 n, V.bs true (1 : Nat) (0 : Nat) (vtF (x.getD i.toNat six.dflt) lf c.toNat).fst.length]], [some (Bf.live (BC.arr retT o)), some (Bf.live (BC.arr ity (vtF (x.getD i.toNat six.dflt) lf c.toNat).fst))], (74 : Nat), (0 : Nat), (0 : Nat)))) else none) := by kernel_rfl
theorem aoF_eq (x : List (Ty.den six)) (c : Int) (ds : List Int) (i d n : Int) (v : List Int) (o : List R1) : (pc 35 2 cfg24 aoF [1, 2, 5, 6] [] (St.of 74 [1, 2, 5, 6, 7] [.slst .ro six x, .ptr 0 0, .bs true 0 0 o.length, .si .i64 i, .ptr 1 0] [oC c ds, some [.si .i64 d, .si .i64 n, .slst .ro ity v]] [bR o, some .dead])).run = (bif decide ((o.length + 1) * 2 * 40 ≤ 281474976710656) then (some ((Ex.normal, [V.slst Tag.ro six x, V.ptr (0 : Nat) (0 : Nat), V.bs true (0 : Nat) (0 : Nat) (o.length + (1 : Nat)), V.si IntKind.i64 i], [some [V.si IntKind.i64 c, V.slst Tag.ro ity ds]], [some (Bf.live (BC.arr retT (List.take o.length (List.drop (0) o) ++ ([((d, n, v, ()) : R1)] : List R1))))], (74 : Nat), (0 : Nat), (0 : Nat)))) else none) := by kernel_rfl
theorem aoK_eq (x : List (Ty.den six)) (c : Int) (ds : List Int) (i : Int) (o : List R1) : (pc 35 2 cfg24 aoK [1, 2, 5, 6] [] (aS x c ds i o)).run = (some ((Ex.normal, [V.slst Tag.ro six x, V.ptr (0 : Nat) (0 : Nat), V.bs true (0 : Nat) (0 : Nat) o.length, V.si IntKind.i64 (IntKind.i64.wrap (i + (1 : Int)))], [some [V.si IntKind.i64 c, V.slst Tag.ro ity ds]], [some (Bf.live (BC.arr retT o))], (74 : Nat), (0 : Nat), (0 : Nat)))) := by kernel_rfl
noncomputable def aR0 : Code := cA (root 35)
noncomputable def aR1 : Code := cA (cB (root 35))
noncomputable def aR2 : Code := cA (cA (cB (cB (root 35))))
noncomputable def aR9 : Code := cB (cB (cB (root 35)))
theorem root35 : root 35 = .seq aR0 (.seq aR1 (.seq (.seq aR2 (.block 0 (.loop ao))) aR9)) := by kernel_rfl
theorem aR0_eq (x : List (Ty.den six)) (c : Int) (ds : List Int) : (pc 35 0 cfg24 aR0 [1, 2] [] (St.start 74 [.agg [.si .i64 c, .slst .ro ity ds], .slst .ro six x] [] [])).run = (some ((Ex.normal, [V.slst Tag.ro six x, V.ptr (0 : Nat) (0 : Nat)], [some [V.si IntKind.i64 c, V.slst Tag.ro ity ds]], [], (74 : Nat), (0 : Nat), (0 : Nat)))) := by kernel_rfl
theorem aR1_eq (x : List (Ty.den six)) (c : Int) (ds : List Int) : (pc 35 0 cfg24 aR1 [1, 2, 5] [] (St.of 74 [1, 2] [.slst .ro six x, .ptr 0 0] [oC c ds] [])).run = (some ((Ex.normal, [V.slst Tag.ro six x, V.ptr (0 : Nat) (0 : Nat), V.lst Tag.full []], [some [V.si IntKind.i64 c, V.slst Tag.ro ity ds]], [], (74 : Nat), (0 : Nat), (0 : Nat)))) := by kernel_rfl
theorem aR2_eq (x : List (Ty.den six)) (c : Int) (ds : List Int) : (pc 35 0 cfg24 aR2 [1, 2, 5, 6] [] (St.of 74 [1, 2, 5] [.slst .ro six x, .ptr 0 0, .lst .full []] [oC c ds] [])).run = (some ((Ex.normal, [V.slst Tag.ro six x, V.ptr (0 : Nat) (0 : Nat), V.lst Tag.full [], V.i IntKind.i64 (0 : Int)], [some [V.si IntKind.i64 c, V.slst Tag.ro ity ds]], [], (74 : Nat), (0 : Nat), (0 : Nat)))) := by kernel_rfl
theorem aR9_eq (o : List R1) : (pc 35 2 cfg24 aR9 [4] [4] (St.of 74 [5] [.bs true 0 0 o.length] [] [bR o])).run = (some ((Ex.ret, [V.bs true (0 : Nat) (0 : Nat) o.length], [], [some (Bf.live (BC.arr retT o))], (74 : Nat), (0 : Nat), (0 : Nat)))) := by kernel_rfl
end T
end Go.Proofs.Ytofbchcclkejgaa

/- Package tally: the reference: All: contract; Made's loop. -/
set_option linter.unusedVariables false
set_option linter.unusedSimpArgs false
set_option maxRecDepth 100000
set_option maxHeartbeats 4000000
namespace Go.Proofs.Ytofbchcclkejgaa
open Go
namespace T
def retOf (c : Int) (ds : List Int) (y : Ty.den six) : R1 := (pickD y.1 (ds.length : Int), 1 + pickD y.2.1 4, (vtF y (ds.getD (pickD y.1 (ds.length : Int)).toNat 0) c.toNat).1, ())
def allT (c : Int) (ds : List Int) (x : List (Ty.den six)) (i : Nat) : List R1 := (x.take i).map (retOf c ds)
theorem allT_next {c : Int} {ds : List Int} {x : List (Ty.den six)} {i : Nat} (hi : i < x.length) : allT c ds x (i + 1) = allT c ds x i ++ [retOf c ds (x.getD i six.dflt)] := by
 unfold allT; rw [take_snoc six.dflt hi, List.map_append]; rfl
theorem allT_len (c : Int) (ds : List Int) (x : List (Ty.den six)) (i : Nat) : (allT c ds x i).length ≤ i := by unfold allT; rw [List.length_map, List.length_take]; omega
def allD (c : Int) (ds : List Int) (x : List (Ty.den six)) : List R1 := allT c ds x 20
abbrev okA (c : Int) (ds : List Int) (x : List (Ty.den six)) : Prop := (0 ≤ c ∧ c ≤ 4) ∧ (1 ≤ ds.length ∧ ds.length ≤ 1000) ∧ (∀ d ∈ ds, 0 ≤ d ∧ d ≤ 100000) ∧ ∀ y ∈ x, okS y = true
theorem aS_snoc (x : List (Ty.den six)) (c : Int) (ds : List Int) (i : Int) (o : List R1) (r : R1) : aS x c ds i (o ++ [r]) = St.of 74 [1, 2, 5, 6] [.slst .ro six x, .ptr 0 0, .bs true 0 0 (o.length + 1), .si .i64 i] [oC c ds] [bR (o ++ [r])] := by
 unfold aS; rw [snoc_len]
theorem liesAE : Lies (root 35) 1 aoE := Lies.of_take (n := 1) (by kernel_rfl)
theorem ao_round {c : Int} {ds : List Int} {x : List (Ty.den six)} (h : okA c ds x) {i : Nat} (hi : i < x.length) (h20 : i < 20) : SemC Try.prog Γ ao (aS x c ds i (allT c ds x i)) .normal (aS x c ds ((i + 1 : Nat) : Int) (allT c ds x (i + 1))) := by
 obtain ⟨hc, hd, hds, hy⟩ := h
 have hyi := hy _ (getD_mem six.dflt hi)
 have hln := allT_len c ds x i
 have hb : (0 : Int) ≤ (i : Int) ∧ (i : Int) < (Nat.cast x.length : Int) := by omega
 have hin : inr (x.getD i six.dflt).1 = true ∧ inr (x.getD i six.dflt).2.1 = true := by
  unfold okS at hyi
  simp only [Bool.and_eq_true] at hyi
  exact ⟨hyi.1, hyi.2.1⟩
 have hp := pickD_lt (k := (x.getD i six.dflt).1) (n := (ds.length : Int)) (by omega)
 have hp4 := pickD_lt (k := (x.getD i six.dflt).2.1) (n := 4) (by omega)
 have hdl : (pickD (x.getD i six.dflt).1 (ds.length : Int)).toNat < ds.length := by omega
 have hlf := hds _ (getD_mem 0 hdl)
 have hw1 : IntKind.i64.wrap (1 + pickD (x.getD i six.dflt).2.1 4) = 1 + pickD (x.getD i six.dflt).2.1 4 := wrap_in (by omega) (by omega)
 have hA := pc_ok (e := .normal) cfg24_ok Try.func35 bd35 (lies0 (by kernel_rfl)) ((aoA_eq x c ds i (allT c ds x i)).trans (by rw [decide_eq_true hb.2, decide_eq_true (by omega : (i : Int) < 20)]; rfl))
 have hC := pc_ok (e := .normal) cfg24_ok Try.func35 bd35 (lies0 (by kernel_rfl)) ((aoC_eq x c ds i (allT c ds x i)).trans (by
  rw [decide_eq_true hb, Int.toNat_natCast, decide_eq_true (show inr (x.getD i six.dflt).1 = true ∧ (Nat.cast ds.length : Int) ≠ 0 from ⟨hin.1, by omega⟩), decide_eq_true (show inr (x.getD i six.dflt).2.1 = true ∧ (4 : Int) ≠ 0 from ⟨hin.2, by omega⟩), hw1]; rfl))
 have hD := pc_ok (e := .normal) cfg24_ok Try.func35 bd35 (lies0 (by kernel_rfl)) ((aoD_eq x c ds i (pickD (x.getD i six.dflt).1 (ds.length : Int)) (1 + pickD (x.getD i six.dflt).2.1 4) (allT c ds x i)).trans (by rw [decide_eq_true hp]; rfl))
 have hE := pc_ok (e := .normal) cfg24_ok Try.func35 bd35 liesAE ((aoE_eq x c ds i (pickD (x.getD i six.dflt).1 (ds.length : Int)) (1 + pickD (x.getD i six.dflt).2.1 4) (ds.getD (pickD (x.getD i six.dflt).1 (ds.length : Int)).toNat 0) (allT c ds x i)).trans (by
  rw [decide_eq_true (show pre_al1 x c ds (allT c ds x i).length i (pickD (x.getD i six.dflt).1 (ds.length : Int)) (1 + pickD (x.getD i six.dflt).2.1 4) 0 (ds.getD (pickD (x.getD i six.dflt).1 (ds.length : Int)).toNat 0) 0 (allT c ds x i) [] from ⟨rfl, rfl, rfl, hb, hc, hlf, by rw [Int.toNat_natCast]; exact hyi⟩), Int.toNat_natCast]; rfl))
 have hE2 := hE.postW (St.freezeO (o := 1) (k := 2) (s := 1) (sy := true) (cs := [.si .i64 (pickD (x.getD i six.dflt).1 (ds.length : Int)), .si .i64 (1 + pickD (x.getD i six.dflt).2.1 4), .bs true 1 0 (vtF (x.getD i six.dflt) (ds.getD (pickD (x.getD i six.dflt).1 (ds.length : Int)).toNat 0) c.toNat).1.length]) (ty := ity) (l := (vtF (x.getD i six.dflt) (ds.getD (pickD (x.getD i six.dflt).1 (ds.length : Int)).toNat 0) c.toNat).1) rfl rfl rfl rfl)
 have hF := pc_ok (e := .normal) cfg24_ok Try.func35 bd35 (lies0 (by kernel_rfl)) ((aoF_eq x c ds i (pickD (x.getD i six.dflt).1 (ds.length : Int)) (1 + pickD (x.getD i six.dflt).2.1 4) (vtF (x.getD i six.dflt) (ds.getD (pickD (x.getD i six.dflt).1 (ds.length : Int)).toNat 0) c.toNat).1 (allT c ds x i)).trans (by
  rw [decide_eq_true (by omega : ((allT c ds x i).length + 1) * 2 * 40 ≤ 281474976710656), List.drop_zero, List.take_length]; rfl))
 have hF' := hF.post (y' := aS x c ds i (allT c ds x (i + 1))) (fun G a w h => by rw [allT_next hi, aS_snoc]; exact h)
 have hK := pc_ok (e := .normal) cfg24_ok Try.func35 bd35 (lies0 (by kernel_rfl)) ((aoK_eq x c ds i (allT c ds x (i + 1))).trans (by rw [wrap_succ h20 (by omega)]))
 rw [ao_eq]
 exact hA.seq ((SemC.block (x := .normal) (by simp) (hC.seq (hD.seq (hE2.seq hF')))).seq hK)
theorem allT_min (c : Int) (ds : List Int) (x : List (Ty.den six)) : allT c ds x (min x.length 20) = allD c ds x := by
 unfold allD allT
 have e : x.take (min x.length 20) = x.take 20 := by
  by_cases h : x.length ≤ 20
  · rw [Nat.min_eq_left h, List.take_length, List.take_of_length_le h]
  · rw [Nat.min_eq_right (by omega)]
 rw [e]
theorem al0_go {c : Int} {ds : List Int} {x : List (Ty.den six)} (h : okA c ds x) : SemL Try.prog Γ ao (aS x c ds 0 []) (.exit 0) (St.of 74 [5] [.bs true 0 0 (allD c ds x).length] [] [bR (allD c ds x)]) := by
 refine SemL.scan (min x.length 20) 0 (Nat.zero_le _) (fun i => aS x c ds (i : Nat) (allT c ds x i)) (fun _ => true) (.exit 0, St.of 74 [5] [.bs true 0 0 (allD c ds x).length] [] [bR (allD c ds x)]) ?_ ?_ ?_
 · intro i _ hi _ _
   exact ao_round h (by omega) (by omega)
 · intro i _ _ _ hp
   cases hp
 · intro _
   refine ⟨by simp [Ex.to], ?_⟩
   have e : (bif decide (((min x.length 20 : Nat) : Int) < (Nat.cast x.length : Int)) then decide (((min x.length 20 : Nat) : Int) < 20) else false) = false := by
    by_cases h : x.length < 20
    · rw [decide_eq_false (by omega)]; rfl
    · rw [decide_eq_false (by omega : ¬ ((min x.length 20 : Nat) : Int) < 20)]; cases decide (((min x.length 20 : Nat) : Int) < (Nat.cast x.length : Int)) <;> rfl
   have hA := pc_ok (e := .exit 0) cfg24_ok Try.func35 bd35 (lies0 (by kernel_rfl)) ((aoA_eq x c ds ((min x.length 20 : Nat) : Int) (allT c ds x (min x.length 20))).trans (by rw [e]; rfl))
   rw [ao_eq]
   show SemC Try.prog Γ _ (aS x c ds ((min x.length 20 : Nat) : Int) (allT c ds x (min x.length 20))) (.exit 0) _
   rw [← allT_min c ds x]
   exact SemC.seq_out (by simp [Ex.to]) hA
theorem c35_ok (c : Int) (ds : List Int) (x : List (Ty.den six)) (h : okA c ds x) : SemF Try.prog Γ 35 [.agg [.si .i64 c, .slst .ro ity ds], .slst .ro six x] [] [] (.slst .ro retT (allD c ds x)) [] [] := by
 have h0 := pc_ok (e := .normal) cfg24_ok Try.func35 bd35 (lies0 (by kernel_rfl)) (aR0_eq x c ds)
 have h1 := pc_ok (e := .normal) cfg24_ok Try.func35 bd35 (lies0 (by kernel_rfl)) (aR1_eq x c ds)
 have h2 := (pc_ok (e := .normal) cfg24_ok Try.func35 bd35 (lies0 (by kernel_rfl)) (aR2_eq x c ds)).post (y' := aS x c ds 0 []) (imp_trans (St.of_imps (vs' := [.slst .ro six x, .ptr 0 0, .lst .full [], .si .i64 0]) rfl fun G j v v' h1 h2 cv hr => by
  match j with
  | 0 => cases h1; cases h2; exact hr
  | 1 => cases h1; cases h2; exact hr
  | 2 => cases h1; cases h2; exact hr
  | 3 => cases h1; cases h2; exact si0 hr
  | j + 4 => cases h1) (St.birth 2 (vs' := [.slst .ro six x, .ptr 0 0, .bs true 0 0 0, .si .i64 0]) rfl rfl (c := .arr retT []) rfl rfl rfl))
 have h9 := pc_ok (e := .ret) cfg24_ok Try.func35 bd35 (lies0 (by kernel_rfl)) (aR9_eq (allD c ds x))
 have hc : SemC Try.prog Γ (root 35) (St.start 74 [.agg [.si .i64 c, .slst .ro ity ds], .slst .ro six x] [] []) .ret (St.of 74 [4] [.bs true 0 0 (allD c ds x).length] [] [bR (allD c ds x)]) := by
  rw [root35]; exact h0.seq (h1.seq ((h2.seq (SemC.block_exit (SemC.loop (al0_go h)))).seq h9))
 have hf : SemF Try.prog Γ 35 [.agg [.si .i64 c, .slst .ro ity ds], .slst .ro six x] [] [] (.bs true 0 0 (allD c ds x).length) [] [bR (allD c ds x)] := SemF.of_body Try.func35 bd35 (.inl rfl) hc (by kernel_rfl)
 have e : ∀ z : List R1, List.take z.length (List.drop 0 z) = z := fun z => by rw [List.drop_zero, List.take_length]
 exact (congrArg (fun z : List R1 => SemF Try.prog Γ 35 [.agg [.si .i64 c, .slst .ro ity ds], .slst .ro six x] [] [] (.slst .ro retT z) [] []) (e (allD c ds x))).mp (hf.drop (v' := .slst .ro retT (List.take (allD c ds x).length (List.drop 0 (allD c ds x)))) (by kernel_rfl))
noncomputable def gg_o35 (c : Int) (ds : List Int) (x : List (Ty.den six)) : Option Bool × V := (some (decide (okA c ds x)), .slst .ro retT (allD c ds x))
theorem gg_o35_c (c : Int) (ds : List Int) (x : List (Ty.den six)) (h : (gg_o35 c ds x).1.getD true = true) : okA c ds x := of_decide_eq_true h
noncomputable def o35 : Orc := fun f args => if f = 35 then (Ty.ofVs [conT, .slice six] args).map (fun x => gg_o35 x.1.1 x.1.2.1 x.2.1) else o34 f args
theorem o35_ok : OrcOk Try.prog Γ o35 := o34_ok.plain 35 [conT, .slice six] (fun x => gg_o35 x.1.1 x.1.2.1 x.2.1) Try.f35 Try.func35 rfl (by kernel_rfl) (fun x h => c35_ok x.1.1 x.1.2.1 x.2.1 (gg_o35_c x.1.1 x.1.2.1 x.2.1 h))
noncomputable def cfg25 : Cfg := cfgQ o35 lo21
theorem cfg25_ok : CfgOk Try.prog Γ cfg25 := cfgQ_ok o35_ok lo21_ok
end T
end Go.Proofs.Ytofbchcclkejgaa

/- Package tally: the order of returns; the newest ones. Plain. -/
set_option linter.unusedVariables false
set_option linter.unusedSimpArgs false
namespace Go.Proofs.Ytofbchcclkejgaa
open Go
namespace T
theorem sgn_neg (a b : Int) : sgn b a = - sgn a b := by
 unfold sgn
 by_cases h1 : a < b
 · have : ¬ b < a := by omega
   simp [h1, this]
 · by_cases h2 : b < a <;> simp [h1, h2]
theorem lexC_neg : ∀ (a b : List Int), lexC b a = - lexC a b
 | [], [] => rfl
 | [], _ :: _ => rfl
 | _ :: _, [] => rfl
 | x :: a, y :: b => by
  simp only [lexC, sgn_neg x y]
  by_cases h : sgn x y = 0
  · simp [h, lexC_neg a b]
  · have : ¬ -sgn x y = 0 := by omega
    simp [h, this]
theorem cmpD_neg (n : Int) (v : List Int) (n' : Int) (v' : List Int) : cmpD n' v' n v = - cmpD n v n' v' := by
 unfold cmpD
 rw [sgn_neg n n']
 by_cases h : sgn n n' = 0
 · simp [h, lexC_neg v v']
 · have : ¬ -sgn n n' = 0 := by omega
   simp [h, this]
theorem lexC_trans : ∀ {a b c : List Int}, lexC a b > 0 → lexC b c > 0 → lexC a c > 0
 | [], [], _, h, _ => by simp [lexC] at h
 | [], _ :: _, _, h, _ => by simp [lexC] at h
 | _ :: _, [], [], _, h => by simp [lexC] at h
 | _ :: _, [], _ :: _, _, h => by simp [lexC] at h
 | x :: a, y :: b, [], _, _ => by simp [lexC]
 | x :: a, y :: b, z :: c, h1, h2 => by
  simp only [lexC] at h1 h2 ⊢
  by_cases e1 : sgn x y = 0
  · have exy := sgn_zero.1 e1
    subst exy
    rw [if_neg (fun h => h e1)] at h1
    by_cases e2 : sgn x z = 0
    · rw [if_neg (fun h => h e2)] at h2 ⊢
      exact lexC_trans h1 h2
    · rw [if_pos e2] at h2 ⊢
      exact h2
  · rw [if_pos e1] at h1
    have gxy := sgn_pos.1 h1
    by_cases e2 : sgn y z = 0
    · have eyz := sgn_zero.1 e2
      subst eyz
      rw [if_pos e1]
      exact h1
    · rw [if_pos e2] at h2
      have gyz := sgn_pos.1 h2
      have : sgn x z > 0 := sgn_pos.2 (by omega)
      rw [if_pos (by omega)]
      exact this
theorem cmpD_trans {n n' n'' : Int} {v v' v'' : List Int} (h1 : cmpD n v n' v' > 0) (h2 : cmpD n' v' n'' v'' > 0) : cmpD n v n'' v'' > 0 := by
 unfold cmpD at h1 h2 ⊢
 by_cases e1 : sgn n n' = 0
 · have := sgn_zero.1 e1
   subst this
   rw [if_neg (fun h => h e1)] at h1
   by_cases e2 : sgn n n'' = 0
   · rw [if_neg (fun h => h e2)] at h2 ⊢
     exact lexC_trans h1 h2
   · rw [if_pos e2] at h2 ⊢
     exact h2
 · rw [if_pos e1] at h1
   have g1 := sgn_pos.1 h1
   by_cases e2 : sgn n' n'' = 0
   · have := sgn_zero.1 e2
     subst this
     rw [if_pos e1]
     exact h1
   · rw [if_pos e2] at h2
     have g2 := sgn_pos.1 h2
     have : sgn n n'' > 0 := sgn_pos.2 (by omega)
     rw [if_pos (by omega)]
     exact this
def gt (x y : R1) : Prop := cmpD (rN x) (rV x) (rN y) (rV y) > 0
theorem gt_trans {x y z : R1} (h : gt x y) (k : gt y z) : gt x z := cmpD_trans h k
theorem gt_irr (x : R1) : ¬ gt x x := by unfold gt; rw [cmpD_zero.2 ⟨rfl, rfl⟩]; omega
theorem gt_tri {x y : R1} (h1 : ¬ gt x y) (h2 : ¬ gt y x) : rN x = rN y ∧ rV x = rV y := by
 unfold gt at h1 h2
 rw [cmpD_neg (rN x) (rV x) (rN y) (rV y)] at h2
 exact cmpD_zero.1 (by omega)
theorem r_eta (x : R1) : x = (rD x, rN x, rV x, ()) := rfl
theorem r_ext {x y : R1} (h1 : rD x = rD y) (h2 : rN x = rN y) (h3 : rV x = rV y) : x = y := by rw [r_eta x, r_eta y, h1, h2, h3]
theorem gt_of {x y z : R1} (h1 : ¬ gt y z) (h2 : gt x z) : ¬ gt y x := fun h => h1 (gt_trans h h2)
theorem stepM_gt (m : Nw) (x : R1) (j : Nat) : (rD x = j ∧ gt x (m j) ∧ stepM m x j = x) ∨ (¬ (rD x = j ∧ gt x (m j)) ∧ stepM m x j = m j) := by
 unfold stepM gt
 by_cases h : (j : Int) = rD x ∧ cmpD (rN x) (rV x) (rN (m j)) (rV (m j)) > 0
 · rw [decide_eq_true h.1, decide_eq_true h.2]
   exact .inl ⟨h.1.symm, h.2, rfl⟩
 · refine .inr ⟨fun h2 => h ⟨h2.1.symm, h2.2⟩, ?_⟩
   have : (decide ((j : Int) = rD x) && decide (cmpD (rN x) (rV x) (rN (m j)) (rV (m j)) > 0)) = false := by
    by_cases h1 : (j : Int) = rD x
    · rw [decide_eq_false (fun h2 => h ⟨h1, h2⟩), Bool.and_false]
    · rw [decide_eq_false h1]; rfl
   rw [this]
   rfl
end T
end Go.Proofs.Ytofbchcclkejgaa

/- Package tally: the newest returns of a list. Plain. -/
set_option linter.unusedVariables false
set_option linter.unusedSimpArgs false
namespace Go.Proofs.Ytofbchcclkejgaa
open Go
namespace T
abbrev okP (c : Int) (ds : List Int) (l : List R1) : Prop := ∀ x ∈ l, prR c ds x = true
theorem prR_D {c : Int} {ds : List Int} {x : R1} (h : prR c ds x = true) : 0 ≤ rD x ∧ rD x < (ds.length : Int) := (properD_iff.1 h).1
theorem prR_N {c : Int} {ds : List Int} {x : R1} (h : prR c ds x = true) : 1 ≤ rN x := (properD_iff.1 h).2.1.1
theorem gt_zero {c : Int} {ds : List Int} {x : R1} (h : prR c ds x = true) (j : Nat) : gt x (zeroM j) := by
 have := prR_N h
 show cmpD (rN x) (rV x) 0 [] > 0
 unfold cmpD
 have h1 : sgn (rN x) 0 > 0 := sgn_pos.2 (by omega)
 rw [if_pos (by omega)]
 exact h1
def Best (l : List R1) (m : Nw) : Prop := ∀ j : Nat, ((∀ y ∈ l, rD y ≠ j) ∧ m j = zeroM j) ∨ (m j ∈ l ∧ rD (m j) = j ∧ ∀ y ∈ l, rD y = j → ¬ gt y (m j))
theorem best_step {c : Int} {ds : List Int} {l : List R1} {m : Nw} {x : R1} (hx : prR c ds x = true) (h : Best l m) : Best (l ++ [x]) (stepM m x) := by
 intro j
 rcases stepM_gt m x j with ⟨h1, h2, h3⟩ | ⟨h1, h3⟩
 · rw [h3]
   refine .inr ⟨by simp, h1, fun y hy hj => ?_⟩
   rw [List.mem_append] at hy
   rcases hy with hy | hy
   · rcases h j with ⟨g1, _⟩ | ⟨_, _, g3⟩
     · exact absurd hj (g1 y hy)
     · exact gt_of (g3 y hy hj) h2
   · rw [mem1 hy]; exact gt_irr x
 · rw [h3]
   rcases h j with ⟨g1, g2⟩ | ⟨g1, g2, g3⟩
   · by_cases hj : rD x = j
     · exact absurd ⟨hj, by rw [g2]; exact gt_zero hx j⟩ h1
     · refine .inl ⟨fun y hy => ?_, g2⟩
       rw [List.mem_append] at hy
       rcases hy with hy | hy
       · exact g1 y hy
       · rw [mem1 hy]; exact hj
   · refine .inr ⟨by simp [g1], g2, fun y hy hj => ?_⟩
     rw [List.mem_append] at hy
     rcases hy with hy | hy
     · exact g3 y hy hj
     · rw [mem1 hy] at hj ⊢
       exact fun hg => h1 ⟨hj, hg⟩
theorem best_fold {c : Int} {ds : List Int} : ∀ {l l0 : List R1} {m : Nw}, okP c ds l → Best l0 m → Best (l0 ++ l) (foldM l m)
 | [], l0, m, _, h => by rw [List.append_nil]; exact h
 | x :: l, l0, m, ho, h => by
  have := best_fold (l := l) (l0 := l0 ++ [x]) (m := stepM m x) (fun y hy => ho y (by simp [hy])) (best_step (ho x (by simp)) h)
  rw [List.append_assoc] at this
  exact this
abbrev mapOf (l : List R1) : Nw := foldM l zeroM
theorem best_map {c : Int} {ds : List Int} {l : List R1} (h : okP c ds l) : Best l (mapOf l) := best_fold (l0 := []) h (fun j => .inl ⟨fun y hy => by simp at hy, rfl⟩)
theorem mem_outT {m : Nw} {x : R1} : ∀ {n : Nat}, x ∈ outT m n ↔ ∃ j, j < n ∧ x = m j ∧ rN (m j) > 0
 | 0 => by simp [outT]
 | n + 1 => by
  rw [outT_next]
  by_cases h : rN (m n) > 0
  · rw [decide_eq_true h, cond_true, List.mem_append, mem_outT (n := n)]
    constructor
    · rintro (⟨j, h1, h2, h3⟩ | h1)
      · exact ⟨j, by omega, h2, h3⟩
      · exact ⟨n, by omega, mem1 h1, h⟩
    · rintro ⟨j, h1, h2, h3⟩
      by_cases hj : j = n
      · subst hj; exact .inr (by rw [h2]; simp)
      · exact .inl ⟨j, by omega, h2, h3⟩
  · rw [decide_eq_false h, cond_false, mem_outT (n := n)]
    constructor
    · rintro ⟨j, h1, h2, h3⟩; exact ⟨j, by omega, h2, h3⟩
    · rintro ⟨j, h1, h2, h3⟩
      by_cases hj : j = n
      · subst hj; exact absurd h3 h
      · exact ⟨j, by omega, h2, h3⟩
abbrev Asc (l : List R1) : Prop := l.Pairwise fun x y => rD x < rD y
theorem asc_append {l : List R1} {x : R1} (h : Asc l) (hx : ∀ y ∈ l, rD y < rD x) : Asc (l ++ [x]) := by
 rw [Asc, List.pairwise_append]
 exact ⟨h, List.pairwise_singleton _ _, fun y hy z hz => by rw [mem1 hz]; exact hx y hy⟩
theorem asc_outT {m : Nw} (hm : ∀ j, rN (m j) > 0 → rD (m j) = (j : Int)) : ∀ n, Asc (outT m n)
 | 0 => List.Pairwise.nil
 | n + 1 => by
  rw [outT_next]
  by_cases h : rN (m n) > 0
  · rw [decide_eq_true h, cond_true]
    refine asc_append (asc_outT hm n) (fun y hy => ?_)
    obtain ⟨j, h1, h2, h3⟩ := mem_outT.1 hy
    subst h2
    rw [hm j h3, hm n h]
    omega
  · rw [decide_eq_false h]; exact asc_outT hm n
theorem asc_ext : ∀ {l l' : List R1}, Asc l → Asc l' → (∀ x, x ∈ l ↔ x ∈ l') → l = l'
 | [], [], _, _, _ => rfl
 | [], y :: l', _, _, h => by have := (h y).2 (by simp); simp at this
 | x :: l, [], _, _, h => by have := (h x).1 (by simp); simp at this
 | x :: l, y :: l', h1, h2, h => by
  rw [Asc, List.pairwise_cons] at h1 h2
  have e : x = y := by
   have hx := (h x).1 (by simp)
   have hy := (h y).2 (by simp)
   rw [List.mem_cons] at hx hy
   rcases hx with hx | hx
   · exact hx
   · rcases hy with hy | hy
     · exact hy.symm
     · have := h1.1 y hy
       have := h2.1 x hx
       omega
  subst e
  congr 1
  refine asc_ext h1.2 h2.2 (fun z => ⟨fun hz => ?_, fun hz => ?_⟩)
  · have := (h z).1 (by simp [hz])
    rw [List.mem_cons] at this
    rcases this with rfl | hz'
    · have := h1.1 z hz; omega
    · exact hz'
  · have := (h z).2 (by simp [hz])
    rw [List.mem_cons] at this
    rcases this with rfl | hz'
    · have := h2.1 z hz; omega
    · exact hz'
theorem asc_iff {rs : List R1} : Asc rs ↔ ∀ i, 0 < i → i < rs.length → rD (rs.getD (i - 1) retT.dflt) < rD (rs.getD i retT.dflt) := by
 constructor
 · intro h i h0 hi
   have := List.pairwise_iff_getElem.1 h (i - 1) i (by omega) hi (by omega)
   simpa [List.getD, hi, show i - 1 < rs.length by omega] using this
 · intro h
   have key : ∀ k i, i + k + 1 < rs.length → rD (rs.getD i retT.dflt) < rD (rs.getD (i + k + 1) retT.dflt) := by
    intro k
    induction k with
    | zero => intro i hi; exact h (i + 1) (by omega) (by omega)
    | succ k ih =>
     intro i hi
     have h1 := ih i (by omega)
     have h2 := h (i + (k + 1) + 1) (by omega) hi
     simp only [Nat.add_sub_cancel] at h2
     rw [show i + (k + 1) = i + k + 1 by omega] at h2 ⊢
     omega
   refine List.pairwise_iff_getElem.2 (fun i j hi hj hij => ?_)
   have := key (j - i - 1) i (by omega)
   rw [show i + (j - i - 1) + 1 = j by omega] at this
   simpa [List.getD, hi, hj] using this
theorem validT_asc {c : Int} {ds : List Int} {rs : List R1} : validT c ds rs = true ↔ validC c ds = true ∧ okP c ds rs ∧ Asc rs := by
 rw [validT_iff, asc_iff]
def canon (l : List R1) : List R1 := outT (mapOf l) 12
theorem best_D {c : Int} {ds : List Int} {l : List R1} (h : okP c ds l) (j : Nat) (hj : rN (mapOf l j) > 0) : mapOf l j ∈ l ∧ rD (mapOf l j) = j ∧ ∀ y ∈ l, rD y = j → ¬ gt y (mapOf l j) := by
 rcases best_map h j with ⟨g1, g2⟩ | g
 · rw [g2] at hj; exact absurd hj (by show ¬ (0 : Int) > 0; omega)
 · exact g
theorem mem_canon {c : Int} {ds : List Int} {l : List R1} (hd : ds.length ≤ 12) (h : okP c ds l) {x : R1} : x ∈ canon l ↔ x ∈ l ∧ ∀ y ∈ l, rD y = rD x → ¬ gt y x := by
 unfold canon
 rw [mem_outT]
 constructor
 · rintro ⟨j, h1, rfl, h3⟩
   obtain ⟨g1, g2, g3⟩ := best_D h j h3
   exact ⟨g1, fun y hy hyd => g3 y hy (by rw [hyd, g2])⟩
 · rintro ⟨h1, h2⟩
   have hx := h x h1
   have hD := prR_D hx
   refine ⟨(rD x).toNat, by omega, ?_⟩
   rcases best_map h (rD x).toNat with ⟨g1, _⟩ | ⟨g1, g2, g3⟩
   · exact absurd (show rD x = ((rD x).toNat : Int) by omega) (g1 x h1)
   · have e := gt_tri (x := x) (y := mapOf l (rD x).toNat) (g3 x h1 (by omega)) (h2 _ g1 (by omega))
     have e2 : x = mapOf l (rD x).toNat := r_ext (by omega) e.1 e.2
     exact ⟨e2, by rw [← e2]; have := prR_N hx; omega⟩
theorem canon_asc {c : Int} {ds : List Int} {l : List R1} (h : okP c ds l) : Asc (canon l) := asc_outT (fun j hj => (best_D h j hj).2.1) 12
theorem canon_ok {c : Int} {ds : List Int} {l : List R1} (hd : ds.length ≤ 12) (h : okP c ds l) : okP c ds (canon l) := fun x hx => h x ((mem_canon hd h).1 hx).1
theorem validC_len {c : Int} {ds : List Int} (h : validC c ds = true) : ds.length ≤ 12 := (validC_iff.1 h).2.1.2
theorem canon_valid {c : Int} {ds : List Int} {l : List R1} (hc : validC c ds = true) (h : okP c ds l) : validT c ds (canon l) = true :=
 validT_asc.2 ⟨hc, canon_ok (validC_len hc) h, canon_asc h⟩
theorem asc_D {l : List R1} (h : Asc l) {x y : R1} (hx : x ∈ l) (hy : y ∈ l) (e : rD x = rD y) : x = y := by
 obtain ⟨i, hi, rfl⟩ := List.getElem_of_mem hx
 obtain ⟨j, hj, rfl⟩ := List.getElem_of_mem hy
 rcases Nat.lt_trichotomy i j with hij | hij | hij
 · have := List.pairwise_iff_getElem.1 h i j hi hj hij; omega
 · subst hij; rfl
 · have := List.pairwise_iff_getElem.1 h j i hj hi hij; omega
theorem canon_self {c : Int} {ds : List Int} {rs : List R1} (h : validT c ds rs = true) : canon rs = rs := by
 obtain ⟨h1, h2, h3⟩ := validT_asc.1 h
 refine asc_ext (canon_asc h2) h3 (fun x => ?_)
 rw [mem_canon (validC_len h1) h2]
 exact ⟨fun h => h.1, fun hx => ⟨hx, fun y hy hd => by rw [asc_D h3 hy hx hd]; exact gt_irr x⟩⟩
theorem map_canon {c : Int} {ds : List Int} {l : List R1} (hd : ds.length ≤ 12) (h : okP c ds l) : mapOf (canon l) = mapOf l := by
 have hc := canon_ok hd h
 funext j
 rcases best_map h j with ⟨g1, g2⟩ | ⟨g1, g2, g3⟩
 · rcases best_map hc j with ⟨k1, k2⟩ | ⟨k1, k2, k3⟩
   · rw [g2, k2]
   · exact absurd k2 (g1 _ ((mem_canon hd h).1 k1).1)
 · have hin : mapOf l j ∈ canon l := (mem_canon hd h).2 ⟨g1, fun y hy hyd => g3 y hy (by rw [hyd, g2])⟩
   rcases best_map hc j with ⟨k1, k2⟩ | ⟨k1, k2, k3⟩
   · exact absurd g2 (k1 _ hin)
   · have hk := ((mem_canon hd h).1 k1).1
     have e := gt_tri (x := mapOf (canon l) j) (y := mapOf l j) (g3 _ hk k2) (k3 _ hin g2)
     exact r_ext (k2.trans g2.symm) e.1 e.2
theorem foldM_append (l l' : List R1) (m : Nw) : foldM (l ++ l') m = foldM l' (foldM l m) := by unfold foldM; rw [List.foldl_append]
theorem joinD_eq (rs rs' : List R1) : joinD rs rs' = canon (rs ++ rs') := by unfold joinD canon mapOf; rw [foldM_append]
theorem canon_left {c : Int} {ds : List Int} {l l' : List R1} (hd : ds.length ≤ 12) (h : okP c ds l) : canon (canon l ++ l') = canon (l ++ l') := by
 unfold canon mapOf
 rw [foldM_append, foldM_append]
 have := map_canon hd h
 unfold mapOf canon at this
 rw [this]
theorem okP_app {c : Int} {ds : List Int} {l l' : List R1} (h : okP c ds l) (h' : okP c ds l') : okP c ds (l ++ l') := fun x hx => by
 rw [List.mem_append] at hx
 rcases hx with hx | hx
 · exact h x hx
 · exact h' x hx
end T
end Go.Proofs.Ytofbchcclkejgaa

/- Package tally: what the reference adds is the newest of all. Plain. -/
set_option linter.unusedVariables false
set_option linter.unusedSimpArgs false
namespace Go.Proofs.Ytofbchcclkejgaa
open Go
namespace T
instance (x y : R1) : Decidable (gt x y) := inferInstanceAs (Decidable (cmpD (rN x) (rV x) (rN y) (rV y) > 0))
theorem self1 {α : Type} (x : α) : x ∈ [x] := by simp
abbrev mkR (d n : Int) (v : List Int) : R1 := (d, n, v, ())
section
variable {d n : Int} {v : List Int}
theorem aStep_ne {q : Int} (h : ¬ q = d) (p : R1 × List R1) (x : R1) : aStep d n v q p x = if rD x = q then (p.1, p.2 ++ [x]) else p := by
 unfold aStep
 rw [show (q != d) = true by simpa using h]
 by_cases h1 : rD x = q
 · rw [show (rD x != q) = false by simpa using h1, if_pos h1]; rfl
 · rw [show (rD x != q) = true by simpa using h1, if_neg h1]; rfl
theorem aStep_eq (p : R1 × List R1) (x : R1) : aStep d n v d p x = if rD x = d ∧ gt x (mkR d n v) then (x, p.2) else p := by
 unfold aStep
 rw [show (d != d) = false by simp]
 by_cases h1 : rD x = d
 · rw [show (rD x != d) = false by simpa using h1]
   by_cases h2 : gt x (mkR d n v)
   · rw [if_pos ⟨h1, h2⟩, decide_eq_true (show cmpD (rN x) (rV x) n v > 0 from h2)]; rfl
   · rw [if_neg (fun h => h2 h.2), decide_eq_false (show ¬ cmpD (rN x) (rV x) n v > 0 from h2)]; rfl
 · rw [show (rD x != d) = true by simpa using h1, if_neg (fun h => h1 h.1)]; rfl
theorem aIn_ne {q : Int} (h : ¬ q = d) : ∀ (rs : List R1) (p : R1 × List R1), (aIn d n v q rs p).1 = p.1 ∧ (∀ x, x ∈ (aIn d n v q rs p).2 ↔ x ∈ p.2 ∨ (x ∈ rs ∧ rD x = q)) ∧ (Asc rs → Asc p.2 → (∀ y ∈ p.2, ∀ x ∈ rs, rD x = q → rD y < rD x) → Asc (aIn d n v q rs p).2)
 | [], p => ⟨rfl, fun x => by simp [aIn], fun _ h _ => h⟩
 | x :: rs, p => by
  obtain ⟨h1, h2, h3⟩ := aIn_ne h rs (aStep d n v q p x)
  have e : aIn d n v q (x :: rs) p = aIn d n v q rs (aStep d n v q p x) := rfl
  rw [e]
  rw [aStep_ne h] at h1 h2 h3 ⊢
  by_cases hx : rD x = q
  · rw [if_pos hx] at h1 h2 h3 ⊢
    refine ⟨h1, fun y => ?_, fun ha hp hlt => ?_⟩
    · rw [h2 y]
      rw [List.mem_append]
      constructor
      · rintro ((h | h) | ⟨h, h'⟩)
        · exact .inl h
        · exact .inr ⟨List.mem_cons.2 (.inl (mem1 h)), by rw [mem1 h]; exact hx⟩
        · exact .inr ⟨List.mem_cons.2 (.inr h), h'⟩
      · rintro (h | ⟨h, h'⟩)
        · exact .inl (.inl h)
        · rcases List.mem_cons.1 h with h | h
          · exact .inl (.inr (by rw [h]; exact self1 x))
          · exact .inr ⟨h, h'⟩
    · rw [Asc, List.pairwise_cons] at ha
      refine h3 ha.2 (asc_append hp (fun y hy => hlt y hy x (by simp) hx)) (fun y hy z hz hzq => ?_)
      have hy : y ∈ p.2 ++ [x] := hy
      rw [List.mem_append] at hy
      rcases hy with hy | hy
      · exact hlt y hy z (by simp [hz]) hzq
      · rw [mem1 hy]; exact ha.1 z hz
  · rw [if_neg hx] at h1 h2 h3 ⊢
    refine ⟨h1, fun y => ?_, fun ha hp hlt => ?_⟩
    · rw [h2 y]
      constructor
      · rintro (h | ⟨h, h'⟩)
        · exact .inl h
        · exact .inr ⟨List.mem_cons.2 (.inr h), h'⟩
      · rintro (h | ⟨h, h'⟩)
        · exact .inl h
        · rcases List.mem_cons.1 h with h | h
          · rw [h] at h'; exact absurd h' hx
          · exact .inr ⟨h, h'⟩
    · rw [Asc, List.pairwise_cons] at ha
      exact h3 ha.2 hp (fun y hy z hz hzq => hlt y hy z (by simp [hz]) hzq)
theorem aIn_eq : ∀ (rs : List R1) (p : R1 × List R1), (aIn d n v d rs p).2 = p.2 ∧ (((aIn d n v d rs p).1 = p.1 ∧ ∀ e ∈ rs, rD e = d → ¬ gt e (mkR d n v)) ∨ ((aIn d n v d rs p).1 ∈ rs ∧ rD (aIn d n v d rs p).1 = d ∧ gt (aIn d n v d rs p).1 (mkR d n v)))
 | [], p => ⟨rfl, .inl ⟨rfl, fun e h => by simp at h⟩⟩
 | x :: rs, p => by
  have e : aIn d n v d (x :: rs) p = aIn d n v d rs (aStep d n v d p x) := rfl
  obtain ⟨h1, h2⟩ := aIn_eq rs (aStep d n v d p x)
  rw [e]
  rw [aStep_eq] at h1 h2 ⊢
  by_cases hx : rD x = d ∧ gt x (mkR d n v)
  · rw [if_pos hx] at h1 h2 ⊢
    refine ⟨h1, .inr ?_⟩
    rcases h2 with ⟨g1, _⟩ | ⟨g1, g2, g3⟩
    · have g1 : (aIn d n v d rs (x, p.2)).1 = x := g1
      rw [g1]
      exact ⟨List.mem_cons.2 (.inl rfl), hx⟩
    · exact ⟨List.mem_cons.2 (.inr g1), g2, g3⟩
  · rw [if_neg hx] at h1 h2 ⊢
    refine ⟨h1, ?_⟩
    rcases h2 with ⟨g1, g2⟩ | ⟨g1, g2, g3⟩
    · refine .inl ⟨g1, fun e he hd hg => ?_⟩
      rw [List.mem_cons] at he
      rcases he with rfl | he
      · exact hx ⟨hd, hg⟩
      · exact g2 e he hd hg
    · exact .inr ⟨List.mem_cons.2 (.inr g1), g2, g3⟩
def Bst (d n : Int) (v : List Int) (rs : List R1) (x : R1) : Prop := (x = (mkR d n v) ∧ ∀ e ∈ rs, rD e = d → ¬ gt e (mkR d n v)) ∨ (x ∈ rs ∧ rD x = d ∧ gt x (mkR d n v))
theorem bst_D {rs : List R1} {x : R1} (h : Bst d n v rs x) : rD x = d := by
 rcases h with ⟨rfl, _⟩ | ⟨_, h, _⟩
 · rfl
 · exact h
theorem bst_one {rs : List R1} (ha : Asc rs) {x y : R1} (h : Bst d n v rs x) (k : Bst d n v rs y) : x = y := by
 rcases h with ⟨rfl, h⟩ | ⟨h1, h2, h3⟩ <;> rcases k with ⟨rfl, k⟩ | ⟨k1, k2, k3⟩
 · rfl
 · exact absurd k3 (h y k1 k2)
 · exact absurd h3 (k x h1 h2)
 · exact asc_D ha h1 k1 (h2.trans k2.symm)
theorem aAll_inv {rs : List R1} (ha : Asc rs) : ∀ q : Nat, ((q : Int) ≤ d → (aAll d n v rs q).1 = (mkR d n v)) ∧ Asc (aAll d n v rs q).2 ∧ ∀ x, x ∈ (aAll d n v rs q).2 ↔ (rD x < (q : Int) ∧ ((x ∈ rs ∧ 0 ≤ rD x ∧ rD x ≠ d) ∨ (Bst d n v rs x ∧ 0 ≤ d)))
 | 0 => ⟨fun _ => rfl, List.Pairwise.nil, fun x => by
  constructor
  · intro h; simp [aAll] at h
  · rintro ⟨h1, ⟨_, h2, _⟩ | ⟨h2, h3⟩⟩
    · omega
    · have := bst_D h2; omega⟩
 | q + 1 => by
  obtain ⟨h1, h2, h3⟩ := aAll_inv ha q
  rw [aAll_next]
  unfold aOut
  by_cases hq : (q : Int) = d
  · rw [show ((q : Int) == d) = true by simpa using hq, hq]
    obtain ⟨g1, g2⟩ := aIn_eq (d := d) (n := n) (v := v) rs (aAll d n v rs q)
    have hb : Bst d n v rs (aIn d n v d rs (aAll d n v rs q)).1 := by
     rw [h1 (by omega)] at g2
     exact g2
    simp only [cond_true]
    rw [g1]
    refine ⟨fun h => by omega, asc_append h2 (fun y hy => ?_), fun x => ?_⟩
    · have := ((h3 y).1 hy).1
      rw [bst_D hb]; omega
    · rw [List.mem_append, h3 x]
      constructor
      · rintro (⟨g, k⟩ | g)
        · exact ⟨by omega, k⟩
        · rw [mem1 g]; exact ⟨by rw [bst_D hb]; omega, .inr ⟨hb, by omega⟩⟩
      · rintro ⟨g, k | ⟨k, k0⟩⟩
        · exact .inl ⟨by have := k.2.2; omega, .inl k⟩
        · exact .inr (by rw [bst_one ha k hb]; exact self1 _)
  · rw [show ((q : Int) == d) = false by simpa using hq]
    obtain ⟨g1, g2, g3⟩ := aIn_ne (d := d) (n := n) (v := v) hq rs (aAll d n v rs q)
    simp only [cond_false]
    refine ⟨fun h => by rw [g1]; exact h1 (by omega), g3 ha h2 (fun y hy x hx hxq => ?_), fun x => ?_⟩
    · have := ((h3 y).1 hy).1; omega
    · rw [g2 x, h3 x]
      constructor
      · rintro (⟨g, k⟩ | ⟨g, k⟩)
        · exact ⟨by omega, k⟩
        · exact ⟨by omega, .inl ⟨g, by omega, by omega⟩⟩
      · rintro ⟨g, k⟩
        by_cases hx : rD x = (q : Int)
        · rcases k with k | ⟨k, _⟩
          · exact .inr ⟨k.1, hx⟩
          · have := bst_D k; omega
        · exact .inl ⟨by omega, k⟩
end
theorem gt_asym {x y : R1} (h : gt x y) : ¬ gt y x := fun k => gt_irr x (gt_trans h k)
theorem refAdd_eq {c : Int} {ds : List Int} {rs : List R1} {d n : Int} {v : List Int} (h : addOk c ds rs d n v = true) : refAdd d n v rs ds = canon (rs ++ [mkR d n v]) := by
 unfold addOk at h
 rw [Bool.and_eq_true] at h
 obtain ⟨hv, hp⟩ := h
 obtain ⟨hc, hok, ha⟩ := validT_asc.1 hv
 have hpr : prR c ds ((mkR d n v) : R1) = true := hp
 have hD := prR_D hpr
 have hD : 0 ≤ d ∧ d < (ds.length : Int) := hD
 have hok2 : okP c ds (rs ++ [mkR d n v]) := okP_app hok (fun x hx => by rw [mem1 hx]; exact hpr)
 obtain ⟨_, h2, h3⟩ := aAll_inv (d := d) (n := n) (v := v) ha ds.length
 refine asc_ext h2 (canon_asc hok2) (fun x => ?_)
 unfold refAdd at *
 rw [h3 x, mem_canon (validC_len hc) hok2]
 constructor
 · rintro ⟨g, ⟨k1, k2, k3⟩ | ⟨k, _⟩⟩
   · refine ⟨List.mem_append.2 (.inl k1), fun y hy hyd => ?_⟩
     rw [List.mem_append] at hy
     rcases hy with hy | hy
     · rw [asc_D ha hy k1 hyd]; exact gt_irr x
     · rw [mem1 hy] at hyd
       exact absurd hyd.symm k3
   · rcases k with ⟨rfl, k⟩ | ⟨k1, k2, k3⟩
     · refine ⟨List.mem_append.2 (.inr (self1 _)), fun y hy hyd => ?_⟩
       rw [List.mem_append] at hy
       rcases hy with hy | hy
       · exact k y hy hyd
       · rw [mem1 hy]; exact gt_irr _
     · refine ⟨List.mem_append.2 (.inl k1), fun y hy hyd => ?_⟩
       rw [List.mem_append] at hy
       rcases hy with hy | hy
       · rw [asc_D ha hy k1 hyd]; exact gt_irr x
       · rw [mem1 hy]; exact gt_asym k3
 · rintro ⟨g, k⟩
   have hxp := prR_D (hok2 x g)
   refine ⟨hxp.2, ?_⟩
   rw [List.mem_append] at g
   rcases g with g | g
   · by_cases hd : rD x = d
     · refine .inr ⟨?_, hD.1⟩
       by_cases hg : gt x (mkR d n v)
       · exact .inr ⟨g, hd, hg⟩
       · have e := gt_tri hg (k (mkR d n v) (List.mem_append.2 (.inr (self1 _))) hd.symm)
         have e2 : x = (mkR d n v) := r_ext hd e.1 e.2
         refine .inl ⟨e2, fun y hy hyd => ?_⟩
         rw [asc_D ha hy g (hyd.trans hd.symm)]
         exact hg
     · exact .inl ⟨g, hxp.1, hd⟩
   · rw [mem1 g] at k ⊢
     exact .inr ⟨.inl ⟨rfl, fun y hy hyd => k y (List.mem_append.2 (.inl hy)) hyd⟩, hD.1⟩
end T
end Go.Proofs.Ytofbchcclkejgaa

/- Package tally: Made, added: loops. -/
set_option linter.unusedVariables false
set_option linter.unusedSimpArgs false
set_option maxRecDepth 100000
set_option maxHeartbeats 4000000
namespace Go.Proofs.Ytofbchcclkejgaa
open Go
namespace T
def hp_mk : HP := { n := 46, lv := [6, 7, 8, 9, 10], sp := [.ptr 0 0, .ptr 1 0, .ty ity, .ty (.slice retT), .ty ity], op := [.cells [.ci 0, .nl, .nl], .cells [.ty ity, .ty (.slice ity), .ty (.slice retT)]], bp := [] }
def lve_mk : Ex → List Nat
 | .normal => [6, 7, 8, 9, 10]
 | .exit 0 => [6, 7]
 | _ => []
theorem bd_mk : Try.f11.body = some (root 11) := by kernel_rfl
theorem le_mk : (loops (root 11))[0]? = some (lp 11 0) := by kernel_rfl
theorem li_mk : Lies (root 11) 1 (lp 11 0) := Lies.of_take (n := 0) (by kernel_rfl)
def st_mk (c : Int) (ds : List Int) (rs : List (Ty.den retT)) (er : Int) (l : List (Ty.den retT)) (i : Int) : St := hp_mk.st ⟨((), (), er, l, i, ()), (((), (), (), ()), (c, ds, rs, ()), ()), ()⟩
noncomputable def rn_mk (c : Int) (ds : List Int) (rs : List (Ty.den retT)) (er : Int) (l : List (Ty.den retT)) (i : Int) := outa lve_mk (evCK Try.prog Γ (cfM Try.prog Γ cfg25 30) (cfg25.lo 11) [31] 60 1 (lp 11 0) (st_mk c ds rs er l i))
theorem rn_mk_eq (c : Int) (ds : List Int) (rs : List (Ty.den retT)) (er : Int) (l : List (Ty.den retT)) (i : Int) : (rn_mk c ds rs er l i).run = (bif bif decide (i < (l.length : Int)) then er == (0 : Int) else false then (bif decide ((0 : Int) ≤ i ∧ i < (l.length : Int)) then (bif decide (szR rs ∧ List.length (rV (l.getD i.toNat retT.dflt)) ≤ 1000000) then (some ((Ex.normal, [V.ptr 0 0, V.ptr 1 0, V.si .i64 (bif addOk c ds rs (rD (l.getD i.toNat retT.dflt)) (rN (l.getD i.toNat retT.dflt)) (rV (l.getD i.toNat retT.dflt)) then (0 : Int) else (270 : Int)), V.slst .ro retT l, V.si .i64 (IntKind.i64.wrap (i + (1 : Int)))], [some [V.i .i64 (0 : Int), V.lst .full [], V.lst .full []], some [V.si .i64 (bif addOk c ds rs (rD (l.getD i.toNat retT.dflt)) (rN (l.getD i.toNat retT.dflt)) (rV (l.getD i.toNat retT.dflt)) then c else (0 : Int)), V.slst .ro ity (bif addOk c ds rs (rD (l.getD i.toNat retT.dflt)) (rN (l.getD i.toNat retT.dflt)) (rV (l.getD i.toNat retT.dflt)) then ds else []), V.slst .ro retT (bif addOk c ds rs (rD (l.getD i.toNat retT.dflt)) (rN (l.getD i.toNat retT.dflt)) (rV (l.getD i.toNat retT.dflt)) then refAdd (rD (l.getD i.toNat retT.dflt)) (rN (l.getD i.toNat retT.dflt)) (rV (l.getD i.toNat retT.dflt)) rs ds else [])]], [], 46, 0, 0))) else none) else none) else (some ((Ex.exit 0, [V.ptr 0 0, V.ptr 1 0], [some [V.i .i64 (0 : Int), V.lst .full [], V.lst .full []], some [V.si .i64 c, V.slst .ro ity ds, V.slst .ro retT rs]], [], 46, 0, 0)))) := by kernel_rfl
theorem rn_mk_c (c : Int) (ds : List Int) (rs : List (Ty.den retT)) (er : Int) (l : List (Ty.den retT)) (i : Int) {e : Ex} {vs : List V} {ob : Ob} {nm : Nm} {n' kh kt : Nat} (h : (rn_mk c ds rs er l i).run = some (e, vs, ob, nm, n', kh, kt)) : SemC Try.prog Γ (lp 11 0) (st_mk c ds rs er l i) e.to (St.of n' (lve_mk e) vs ob nm kh kt) := SemC.of_evM cfg25_ok Try.func11 bd_mk li_mk h
def hp_ad : HP := { n := 40, lv := [1, 4, 6, 7, 8], sp := [.ty (.slice retT), .ptr 0 0, .ptr 1 0, .ty ity, .ty ity], op := [.cells [.ci 0, .nl, .nl], .cells [.ty ity, .ty (.slice ity), .ty (.slice retT)]], bp := [] }
def lve_ad : Ex → List Nat
 | .normal => [1, 4, 6, 7, 8]
 | .exit 0 => [4, 6, 7]
 | _ => []
theorem bd_ad : Try.f37.body = some (root 37) := by kernel_rfl
theorem le_ad : (loops (root 37))[0]? = some (lp 37 0) := by kernel_rfl
theorem li_ad : Lies (root 37) 1 (lp 37 0) := Lies.of_take (n := 0) (by kernel_rfl)
def st_ad (c : Int) (ds : List Int) (rs : List (Ty.den retT)) (er : Int) (l : List (Ty.den retT)) (i : Int) : St := hp_ad.st ⟨(l, (), (), er, i, ()), (((), (), (), ()), (c, ds, rs, ()), ()), ()⟩
noncomputable def rn_ad (c : Int) (ds : List Int) (rs : List (Ty.den retT)) (er : Int) (l : List (Ty.den retT)) (i : Int) := outa lve_ad (evCK Try.prog Γ (cfM Try.prog Γ cfg25 30) (cfg25.lo 37) [23] 60 1 (lp 37 0) (st_ad c ds rs er l i))
theorem rn_ad_eq (c : Int) (ds : List Int) (rs : List (Ty.den retT)) (er : Int) (l : List (Ty.den retT)) (i : Int) : (rn_ad c ds rs er l i).run = (bif bif decide (i < (l.length : Int)) then er == (0 : Int) else false then (bif decide ((0 : Int) ≤ i ∧ i < (l.length : Int)) then (bif decide (szR rs ∧ List.length (rV (l.getD i.toNat retT.dflt)) ≤ 1000000) then (some ((Ex.normal, [V.slst .ro retT l, V.ptr 0 0, V.ptr 1 0, V.si .i64 (bif addOk c ds rs (rD (l.getD i.toNat retT.dflt)) (rN (l.getD i.toNat retT.dflt)) (rV (l.getD i.toNat retT.dflt)) then (0 : Int) else (270 : Int)), V.si .i64 (IntKind.i64.wrap (i + (1 : Int)))], [some [V.i .i64 (0 : Int), V.lst .full [], V.lst .full []], some [V.si .i64 (bif addOk c ds rs (rD (l.getD i.toNat retT.dflt)) (rN (l.getD i.toNat retT.dflt)) (rV (l.getD i.toNat retT.dflt)) then c else (0 : Int)), V.slst .ro ity (bif addOk c ds rs (rD (l.getD i.toNat retT.dflt)) (rN (l.getD i.toNat retT.dflt)) (rV (l.getD i.toNat retT.dflt)) then ds else []), V.slst .ro retT (bif addOk c ds rs (rD (l.getD i.toNat retT.dflt)) (rN (l.getD i.toNat retT.dflt)) (rV (l.getD i.toNat retT.dflt)) then joinD rs [(l.getD i.toNat retT.dflt)] else [])]], [], 40, 0, 0))) else none) else none) else (some ((Ex.exit 0, [V.ptr 0 0, V.ptr 1 0, V.si .i64 er], [some [V.i .i64 (0 : Int), V.lst .full [], V.lst .full []], some [V.si .i64 c, V.slst .ro ity ds, V.slst .ro retT rs]], [], 40, 0, 0)))) := by kernel_rfl
theorem rn_ad_c (c : Int) (ds : List Int) (rs : List (Ty.den retT)) (er : Int) (l : List (Ty.den retT)) (i : Int) {e : Ex} {vs : List V} {ob : Ob} {nm : Nm} {n' kh kt : Nat} (h : (rn_ad c ds rs er l i).run = some (e, vs, ob, nm, n', kh, kt)) : SemC Try.prog Γ (lp 37 0) (st_ad c ds rs er l i) e.to (St.of n' (lve_ad e) vs ob nm kh kt) := SemC.of_evM cfg25_ok Try.func37 bd_ad li_ad h
theorem okP_take {c : Int} {ds : List Int} {l : List R1} (h : okP c ds l) (i : Nat) : okP c ds (l.take i) := fun x hx => h x (List.mem_of_mem_take hx)
theorem addOk_of {c : Int} {ds : List Int} {rs : List R1} {r : R1} (hv : validT c ds rs = true) (hr : prR c ds r = true) : addOk c ds rs (rD r) (rN r) (rV r) = true := by
 unfold addOk; rw [hv]; exact hr
theorem canon_next {c : Int} {ds : List Int} {l : List R1} (hc : validC c ds = true) (h : okP c ds l) {i : Nat} (hi : i < l.length) : canon (canon (l.take i) ++ [l.getD i retT.dflt]) = canon (l.take (i + 1)) := by
 rw [canon_left (validC_len hc) (okP_take h i), take_snoc retT.dflt hi]
theorem prR_sz {c : Int} {ds : List Int} {x : R1} (hc : validC c ds = true) (h : prR c ds x = true) : (rV x).length ≤ 1000000 := by
 have h1 := (validC_iff.1 hc).1
 have h2 := (properD_iff.1 h).2.2.1
 omega
abbrev preM (c : Int) (ds : List Int) (rs : List R1) (er : Int) (l : List R1) (i : Int) : Prop := i = 0 ∧ er = 0 ∧ rs = [] ∧ validC c ds = true ∧ okP c ds l ∧ l.length ≤ 1000
abbrev pre_mk (c : Int) (ds : List Int) (rs : List (Ty.den retT)) (er : Int) (l : List (Ty.den retT)) (i : Int) : Prop := preM c ds rs er l i
def rs_mk (c : Int) (ds : List Int) (rs : List (Ty.den retT)) (er : Int) (l : List (Ty.den retT)) (i : Int) : Ex × St := (.exit 0, St.of 46 (lve_mk (.exit 0)) [.ptr 0 0, .ptr 1 0] [some [.i .i64 0, .lst .full [], .lst .full []], some [.si .i64 c, .slst .ro ity ds, .slst .ro retT (canon l)]] [] hp_mk.kh hp_mk.kt)
def res_mk (c : Int) (ds : List Int) (rs : List (Ty.den retT)) (er : Int) (l : List (Ty.den retT)) (i : Int) : Tr (Ex × St) := .br (decide (pre_mk c ds rs er l i)) (.leaf (some (.exit 0, St.of 46 (lve_mk (.exit 0)) [.ptr 0 0, .ptr 1 0] [some [.i .i64 0, .lst .full [], .lst .full []], some [.si .i64 c, .slst .ro ity ds, .slst .ro retT (canon l)]] [] hp_mk.kh hp_mk.kt))) (.leaf none)
def ent_mk : LEnt := LEnt.by hp_mk fun ⟨(_, _, er, l, i, _), ((_, _, _, _), (c, ds, rs, _), _), _⟩ => res_mk c ds rs er l i
theorem ent_mk_ok (hgo : ∀ (c : Int) (ds : List Int) (rs : List (Ty.den retT)) (er : Int) (l : List (Ty.den retT)) (i : Int), pre_mk c ds rs er l i → SemL Try.prog Γ (lp 11 0) (st_mk c ds rs er l i) (rs_mk c ds rs er l i).1.to (rs_mk c ds rs er l i).2) : EntOk Try.prog Γ (lp 11 0) ent_mk := LEnt.by_ok fun ⟨(_, _, er, l, i, _), ((_, _, _, _), (c, ds, rs, _), _), _⟩ _ _ h_ => SemL.br (out := rs_mk c ds rs er l i) rfl (hgo c ds rs er l i) h_
theorem mk_go (c : Int) (ds : List Int) (rs : List (Ty.den retT)) (er : Int) (l : List (Ty.den retT)) (i : Int) (h : pre_mk c ds rs er l i) : SemL Try.prog Γ (lp 11 0) (st_mk c ds rs er l i) (rs_mk c ds rs er l i).1.to (rs_mk c ds rs er l i).2 := by
 obtain ⟨rfl, rfl, rfl, hc, hok, hl⟩ := h
 refine SemL.scan l.length 0 (Nat.zero_le _) (fun i => st_mk c ds (canon (l.take i)) 0 l (i : Nat)) (fun _ => true) _ ?_ ?_ ?_
 · intro i _ hi _ _
   have hv := canon_valid hc (okP_take hok i)
   have hr := hok _ (getD_mem retT.dflt hi)
   refine rn_mk_c c ds _ 0 l i (e := .normal) ?_
   rw [rn_mk_eq, wrap_succ hi (by omega), decide_eq_true (by omega : (i : Int) < (Nat.cast l.length : Int)), decide_eq_true (by omega : (0 : Int) ≤ (i : Int) ∧ (i : Int) < (Nat.cast l.length : Int)), Int.toNat_natCast, decide_eq_true (show szR (canon (l.take i)) ∧ List.length (rV (l.getD i retT.dflt)) ≤ 1000000 from ⟨validT_sz hv, prR_sz hc hr⟩), addOk_of hv hr, refAdd_eq (addOk_of hv hr)]
   rw [show [mkR (rD (l.getD i retT.dflt)) (rN (l.getD i retT.dflt)) (rV (l.getD i retT.dflt))] = [l.getD i retT.dflt] from rfl, canon_next hc hok hi]
   rfl
 · intro i _ _ _ hp
   cases hp
 · intro _
   unfold rs_mk
   refine ⟨by simp [Ex.to], rn_mk_c c ds _ 0 l l.length (e := .exit 0) ?_⟩
   rw [rn_mk_eq, decide_eq_false (by omega), List.take_length]
   rfl
abbrev pre_ad (c : Int) (ds : List Int) (rs : List (Ty.den retT)) (er : Int) (l : List (Ty.den retT)) (i : Int) : Prop := preM c ds rs er l i
def rs_ad (c : Int) (ds : List Int) (rs : List (Ty.den retT)) (er : Int) (l : List (Ty.den retT)) (i : Int) : Ex × St := (.exit 0, St.of 40 (lve_ad (.exit 0)) [.ptr 0 0, .ptr 1 0, .si .i64 0] [some [.i .i64 0, .lst .full [], .lst .full []], some [.si .i64 c, .slst .ro ity ds, .slst .ro retT (canon l)]] [] hp_ad.kh hp_ad.kt)
def res_ad (c : Int) (ds : List Int) (rs : List (Ty.den retT)) (er : Int) (l : List (Ty.den retT)) (i : Int) : Tr (Ex × St) := .br (decide (pre_ad c ds rs er l i)) (.leaf (some (.exit 0, St.of 40 (lve_ad (.exit 0)) [.ptr 0 0, .ptr 1 0, .si .i64 0] [some [.i .i64 0, .lst .full [], .lst .full []], some [.si .i64 c, .slst .ro ity ds, .slst .ro retT (canon l)]] [] hp_ad.kh hp_ad.kt))) (.leaf none)
def ent_ad : LEnt := LEnt.by hp_ad fun ⟨(l, _, _, er, i, _), ((_, _, _, _), (c, ds, rs, _), _), _⟩ => res_ad c ds rs er l i
theorem ent_ad_ok (hgo : ∀ (c : Int) (ds : List Int) (rs : List (Ty.den retT)) (er : Int) (l : List (Ty.den retT)) (i : Int), pre_ad c ds rs er l i → SemL Try.prog Γ (lp 37 0) (st_ad c ds rs er l i) (rs_ad c ds rs er l i).1.to (rs_ad c ds rs er l i).2) : EntOk Try.prog Γ (lp 37 0) ent_ad := LEnt.by_ok fun ⟨(l, _, _, er, i, _), ((_, _, _, _), (c, ds, rs, _), _), _⟩ _ _ h_ => SemL.br (out := rs_ad c ds rs er l i) rfl (hgo c ds rs er l i) h_
theorem ad_go (c : Int) (ds : List Int) (rs : List (Ty.den retT)) (er : Int) (l : List (Ty.den retT)) (i : Int) (h : pre_ad c ds rs er l i) : SemL Try.prog Γ (lp 37 0) (st_ad c ds rs er l i) (rs_ad c ds rs er l i).1.to (rs_ad c ds rs er l i).2 := by
 obtain ⟨rfl, rfl, rfl, hc, hok, hl⟩ := h
 refine SemL.scan l.length 0 (Nat.zero_le _) (fun i => st_ad c ds (canon (l.take i)) 0 l (i : Nat)) (fun _ => true) _ ?_ ?_ ?_
 · intro i _ hi _ _
   have hv := canon_valid hc (okP_take hok i)
   have hr := hok _ (getD_mem retT.dflt hi)
   refine rn_ad_c c ds _ 0 l i (e := .normal) ?_
   rw [rn_ad_eq, wrap_succ hi (by omega), decide_eq_true (by omega : (i : Int) < (Nat.cast l.length : Int)), decide_eq_true (by omega : (0 : Int) ≤ (i : Int) ∧ (i : Int) < (Nat.cast l.length : Int)), Int.toNat_natCast, decide_eq_true (show szR (canon (l.take i)) ∧ List.length (rV (l.getD i retT.dflt)) ≤ 1000000 from ⟨validT_sz hv, prR_sz hc hr⟩), addOk_of hv hr, joinD_eq, canon_next hc hok hi]
   rfl
 · intro i _ _ _ hp
   cases hp
 · intro _
   unfold rs_ad
   refine ⟨by simp [Ex.to], rn_ad_c c ds _ 0 l l.length (e := .exit 0) ?_⟩
   rw [rn_ad_eq, decide_eq_false (by omega), List.take_length]
   rfl
def lo23 : LOrc := (LOrc.add (LOrc.add lo21 11 0 ent_mk) 37 0 ent_ad)
theorem lo23_ok : LOrcOk Try.prog Γ lo23 := (LOrcOk.add (LOrcOk.add lo21_ok 11 0 Try.func11 bd_mk le_mk (ent_mk_ok mk_go)) 37 0 Try.func37 bd_ad le_ad (ent_ad_ok ad_go))
noncomputable def cfg26 : Cfg := cfgQ o35 lo23
theorem cfg26_ok : CfgOk Try.prog Γ cfg26 := cfgQ_ok o35_ok lo23_ok
theorem c11_run (c : Int) (ds : List Int) (x : List (Ty.den six)) : runL cfg26 11 [.si .i64 c, .slst .ro ity ds, .slst .ro six x] = .ok (some (decide (inr c = true ∧ inrL ds) && (decide ((conB ds (8)).length ≤ 1000000) && (decide (okA (bif validC ((2 : Int) + pickD c (3 : Int)) (conB ds (8)) then (2 : Int) + pickD c (3 : Int) else (0 : Int)) (bif validC ((2 : Int) + pickD c (3 : Int)) (conB ds (8)) then conB ds (8) else []) x) && decide (pre_mk (bif validC ((2 : Int) + pickD c (3 : Int)) (conB ds (8)) then (2 : Int) + pickD c (3 : Int) else (0 : Int)) (bif validC ((2 : Int) + pickD c (3 : Int)) (conB ds (8)) then conB ds (8) else []) [] (bif validC ((2 : Int) + pickD c (3 : Int)) (conB ds (8)) then (0 : Int) else (270 : Int)) (allD (bif validC ((2 : Int) + pickD c (3 : Int)) (conB ds (8)) then (2 : Int) + pickD c (3 : Int) else (0 : Int)) (bif validC ((2 : Int) + pickD c (3 : Int)) (conB ds (8)) then conB ds (8) else []) x) (0 : Int)))))) (V.agg [V.si .i64 (bif validC ((2 : Int) + pickD c (3 : Int)) (conB ds (8)) then (2 : Int) + pickD c (3 : Int) else (0 : Int)), V.slst .ro ity (bif validC ((2 : Int) + pickD c (3 : Int)) (conB ds (8)) then conB ds (8) else []), V.slst .ro retT (canon (allD (bif validC ((2 : Int) + pickD c (3 : Int)) (conB ds (8)) then (2 : Int) + pickD c (3 : Int) else (0 : Int)) (bif validC ((2 : Int) + pickD c (3 : Int)) (conB ds (8)) then conB ds (8) else []) x))]) := by kernel_rfl
theorem c37_run (c : Int) (ds : List Int) (l : List (Ty.den retT)) : runL cfg26 37 [.agg [.si .i64 c, .slst .ro ity ds], .slst .ro retT l] = .ok (some (decide (ds.length ≤ 1000000) && decide (pre_ad (bif validC c ds then c else (0 : Int)) (bif validC c ds then ds else []) [] (bif validC c ds then (0 : Int) else (270 : Int)) l (0 : Int)))) (V.tup [V.agg [V.si .i64 (bif validC c ds then c else (0 : Int)), V.slst .ro ity (bif validC c ds then ds else []), V.slst .ro retT (canon l)], V.sb true]) := by kernel_rfl
end T
end Go.Proofs.Ytofbchcclkejgaa

/- Package tally: Made, added: contracts. -/
set_option linter.unusedVariables false
set_option linter.unusedSimpArgs false
set_option maxRecDepth 100000
set_option maxHeartbeats 4000000
namespace Go.Proofs.Ytofbchcclkejgaa
open Go
namespace T
theorem conB_valid (c : Int) (ds : List Int) : validC (2 + pickD c 3) (conB ds 8) = true := by
 have hp := pickD_lt (k := c) (n := 3) (by omega)
 refine validC_iff.2 ⟨by omega, ⟨by simp [conB], by have := conB_len ds 8; omega⟩, fun x hx => ?_⟩
 simp only [conB, List.mem_cons, List.mem_map] at hx
 rcases hx with rfl | ⟨y, _, rfl⟩
 · omega
 · have := pickD_lt (k := y) (n := 120) (by omega); omega
theorem retOf_ok {c : Int} {ds : List Int} (hc : validC c ds = true) (y : Ty.den six) : prR c ds (retOf c ds y) = true := by
 obtain ⟨h1, h2, h3⟩ := validC_iff.1 hc
 have hp := pickD_lt (k := y.1) (n := (ds.length : Int)) (by omega)
 have hq := pickD_lt (k := y.2.1) (n := 4) (by omega)
 have hd : ds.getD (pickD y.1 (ds.length : Int)).toNat 0 ∈ ds := by
  have : (pickD y.1 (ds.length : Int)).toNat < ds.length := by omega
  simp only [List.getD_eq_getElem?_getD, List.getElem?_eq_getElem this, Option.getD_some]
  exact List.getElem_mem this
 have hb := h3 _ hd
 obtain ⟨k1, k2, k3, k4⟩ := vtF_ok (y := y) hb.1 c.toNat
 refine properD_iff.2 ⟨hp, ?_, ?_, ?_, ?_⟩
 · show 1 ≤ 1 + pickD y.2.1 4 ∧ 1 + pickD y.2.1 4 ≤ 1000
   omega
 · show ((vtF y _ c.toNat).1.length : Int) = c
   rw [k1]; omega
 · intro x hx
   have := k4 x hx
   omega
 · show (vtF y (ds.getD (pickD y.1 (ds.length : Int)).toNat 0) c.toNat).1.sum ≤ ds.getD (pickD y.1 (ds.length : Int)).toNat 0
   omega
theorem allD_ok {c : Int} {ds : List Int} (hc : validC c ds = true) (x : List (Ty.den six)) : okP c ds (allD c ds x) := fun r hr => by
 unfold allD allT at hr
 obtain ⟨y, _, rfl⟩ := List.mem_map.1 hr
 exact retOf_ok hc y
theorem allD_len (c : Int) (ds : List Int) (x : List (Ty.den six)) : (allD c ds x).length ≤ 20 := by
 unfold allD allT; simp; omega
theorem okA_of {c : Int} {ds : List Int} (hc : validC c ds = true) {x : List (Ty.den six)} (hs : ∀ y ∈ x, okS y = true) : okA c ds x := by
 obtain ⟨h1, h2, h3⟩ := validC_iff.1 hc
 exact ⟨by omega, by omega, h3, hs⟩
abbrev mC (c : Int) : Int := 2 + pickD c 3
abbrev mD (ds : List Int) : List Int := conB ds 8
abbrev mR (c : Int) (ds : List Int) (x : List (Ty.den six)) : List R1 := canon (allD (mC c) (mD ds) x)
abbrev okMd (c : Int) (ds : List Int) (x : List (Ty.den six)) : Prop := inr c = true ∧ inrL ds ∧ ∀ y ∈ x, okS y = true
theorem mR_valid (c : Int) (ds : List Int) (x : List (Ty.den six)) : validT (mC c) (mD ds) (mR c ds x) = true := canon_valid (conB_valid c ds) (allD_ok (conB_valid c ds) x)
theorem c11_ok (c : Int) (ds : List Int) (x : List (Ty.den six)) (h : okMd c ds x) : SemF Try.prog Γ 11 [.si .i64 c, .slst .ro ity ds, .slst .ro six x] [] [] (.agg [.si .i64 (mC c), .slst .ro ity (mD ds), .slst .ro retT (mR c ds x)]) [] [] := by
 obtain ⟨hc, hr, hs⟩ := h
 have hv := conB_valid c ds
 have hl := conB_len ds 8
 have ha := allD_len (2 + pickD c 3) (conB ds 8) x
 refine of_runL cfg26_ok (c11_run c ds x) ?_ ?_
 · rw [hv, decide_eq_true (show inr c = true ∧ inrL ds from ⟨hc, hr⟩), decide_eq_true (by omega : (conB ds 8).length ≤ 1000000)]
   simp only [cond_true]
   rw [decide_eq_true (okA_of hv hs), decide_eq_true (show pre_mk (2 + pickD c 3) (conB ds 8) [] 0 (allD (2 + pickD c 3) (conB ds 8) x) 0 from ⟨rfl, rfl, rfl, hv, allD_ok hv x, by omega⟩)]
   rfl
 · rw [hv]
   rfl
abbrev okL (c : Int) (ds : List Int) (l : List R1) : Prop := validC c ds = true ∧ okP c ds l ∧ l.length ≤ 1000
theorem c37_ok (c : Int) (ds : List Int) (l : List (Ty.den retT)) (h : okL c ds l) : SemF Try.prog Γ 37 [.agg [.si .i64 c, .slst .ro ity ds], .slst .ro retT l] [] [] (.tup [.agg [.si .i64 c, .slst .ro ity ds, .slst .ro retT (canon l)], .sb true]) [] [] := by
 obtain ⟨hv, hok, hl⟩ := h
 have := validC_len hv
 refine of_runL cfg26_ok (c37_run c ds l) ?_ ?_
 · rw [hv, decide_eq_true (by omega : ds.length ≤ 1000000)]
   simp only [cond_true]
   rw [decide_eq_true (show pre_ad c ds [] 0 l 0 from ⟨rfl, rfl, rfl, hv, hok, hl⟩)]
   rfl
 · rw [hv]
   rfl
noncomputable def gg_o37 (c : Int) (ds : List Int) (l : List (Ty.den retT)) : Option Bool × V := (some (decide (okL c ds l)), .tup [.agg [.si .i64 c, .slst .ro ity ds, .slst .ro retT (canon l)], .sb true])
theorem gg_o37_c (c : Int) (ds : List Int) (l : List (Ty.den retT)) (h : (gg_o37 c ds l).1.getD true = true) : okL c ds l := of_decide_eq_true h
noncomputable def o37 : Orc := fun f args => if f = 37 then (Ty.ofVs [conT, .slice retT] args).map (fun x => gg_o37 x.1.1 x.1.2.1 x.2.1) else o35 f args
theorem o37_ok : OrcOk Try.prog Γ o37 := o35_ok.plain 37 [conT, .slice retT] (fun x => gg_o37 x.1.1 x.1.2.1 x.2.1) Try.f37 Try.func37 rfl (by kernel_rfl) (fun x h => c37_ok x.1.1 x.1.2.1 x.2.1 (gg_o37_c x.1.1 x.1.2.1 x.2.1 h))
noncomputable def gg_o11 (c : Int) (ds : List Int) (x : List (Ty.den six)) : Option Bool × V := (some (decide (okMd c ds x)), .agg [.si .i64 (mC c), .slst .ro ity (mD ds), .slst .ro retT (mR c ds x)])
theorem gg_o11_c (c : Int) (ds : List Int) (x : List (Ty.den six)) (h : (gg_o11 c ds x).1.getD true = true) : okMd c ds x := of_decide_eq_true h
noncomputable def o11 : Orc := fun f args => if f = 11 then (Ty.ofVs [ity, .slice ity, .slice six] args).map (fun x => gg_o11 x.1 x.2.1 x.2.2.1) else o37 f args
theorem o11_ok : OrcOk Try.prog Γ o11 := o37_ok.plain 11 [ity, .slice ity, .slice six] (fun x => gg_o11 x.1 x.2.1 x.2.2.1) Try.f11 Try.func11 rfl (by kernel_rfl) (fun x h => c11_ok x.1 x.2.1 x.2.2.1 (gg_o11_c x.1 x.2.1 x.2.2.1 h))
end T
end Go.Proofs.Ytofbchcclkejgaa

/- A buffer that an object's slice lies in, frozen to a list. -/
set_option linter.unusedVariables false
set_option linter.unusedSimpArgs false
namespace Go.Proofs.Ytofbchcclkejgaa
open Go
section
variable {P : Program} {Γ : Nat → Option V} {ob : Ob} {nm : Nm}
theorem St.freezeL {n : Nat} {lv : List Nat} {vs : List V} {kh kt o k s L : Nat} {cs : List V} {sy : Bool} {c : BC} (ho : ob[o]? = some (some cs)) (hk : cs[k]? = some (.bs sy s 0 L)) (hn : nm[s]? = some (some (.live c))) (hL : L = c.len) :
 St.impW Γ (St.of n lv vs ob nm kh kt) (St.of n lv vs (ob.set o (some (cs.set k (.lst .ro c.els)))) (nm.set s (some .dead)) kh kt) := fun G a w hr => by
 have hw : WRel Γ G ob nm w := hr.wr
 obtain ⟨G2, f1, f2⟩ := hw.freezeO ho hk hn hL
 exact ⟨G2, f1.weak, hr.tm.mono f1, f2, hr.df.mono f1.d f1.kd f1.w0, f1.kh.trans hr.kh, f1.kt.trans hr.kt⟩
end
end Go.Proofs.Ytofbchcclkejgaa

/- Package tally: Decode of a fixed string. -/
set_option linter.unusedVariables false
set_option linter.unusedSimpArgs false
set_option maxRecDepth 100000
set_option maxHeartbeats 4000000
namespace Go.Proofs.Ytofbchcclkejgaa
open Go
namespace T
noncomputable def cfgV : Cfg := cfgM o11 (mems.drop 1) (fun f => Nat.beq f 72) omG
theorem cfgV_ok : CfgOk Try.prog Γ cfgV := cfgM_ok o11_ok omG_ok.1 omG_ok.2
def tlN : Nat → Code → Code | 0, c => c | n + 1, c => tlN n (cB c)
def s6 : ByteArray := strOfNums [120, 0, 4, 4, 60, 100]
def l5 : List V := [.i .i64 0, .i .i64 2, .i .i64 2, .i .i64 30, .i .i64 50]
noncomputable def dB : Code := cB (cB (tlN 3 (root 31)))
theorem root31 : root 31 = .seq (cA (root 31)) (.seq (cA (cB (root 31))) (.seq (cA (tlN 2 (root 31))) (.seq (cA (tlN 3 (root 31))) (.seq (cA (cB (tlN 3 (root 31)))) dB)))) := by kernel_rfl
theorem d0 (u : Unit) : (pc 31 0 cfgV (cA (root 31)) [0,1,2,3,4,5,6] [0] (St.start 46 [.s s6, .i .i64 1] [] [])).run = (some ((Ex.normal, [V.s s6, V.i IntKind.i64 (1 : Int), V.ptr (0 : Nat) (0 : Nat), V.ptr (1 : Nat) (0 : Nat), V.ptr (2 : Nat) (0 : Nat), V.i IntKind.i64 (0 : Int), V.i IntKind.i64 (0 : Int)], [some [V.s s6], some [V.i IntKind.i64 (1 : Int)], some [V.i IntKind.i64 (0 : Int), V.i IntKind.i64 (0 : Int), V.lst Tag.full []]], [], (46 : Nat), (0 : Nat), (0 : Nat)))) := by kernel_rfl
theorem d1 (u : Unit) : (pc 31 0 cfgV (cA (cB (root 31))) [2,3,4,5,6,7] [0] (St.of 46 [0,1,2,3,4,5,6] [V.s s6, V.i IntKind.i64 (1 : Int), V.ptr (0 : Nat) (0 : Nat), V.ptr (1 : Nat) (0 : Nat), V.ptr (2 : Nat) (0 : Nat), V.i IntKind.i64 (0 : Int), V.i IntKind.i64 (0 : Int)] [some [V.s s6], some [V.i IntKind.i64 (1 : Int)], some [V.i IntKind.i64 (0 : Int), V.i IntKind.i64 (0 : Int), V.lst Tag.full []]] [])).run = (some ((Ex.normal, [V.ptr (0 : Nat) (0 : Nat), V.ptr (1 : Nat) (0 : Nat), V.ptr (2 : Nat) (0 : Nat), V.i IntKind.i64 (0 : Int), V.i IntKind.i64 (0 : Int), V.ptr (3 : Nat) (0 : Nat)], [some [V.s s6], some [V.i IntKind.i64 (1 : Int)], some [V.i IntKind.i64 (0 : Int), V.i IntKind.i64 (0 : Int), V.lst Tag.full []], some [V.lst Tag.full []]], [], (46 : Nat), (0 : Nat), (0 : Nat)))) := by kernel_rfl
theorem d2 (u : Unit) : (pc 31 0 cfgV (cA (tlN 2 (root 31))) [2,3,4,5,6,7,8] [0] (St.of 46 [2,3,4,5,6,7] [V.ptr (0 : Nat) (0 : Nat), V.ptr (1 : Nat) (0 : Nat), V.ptr (2 : Nat) (0 : Nat), V.i IntKind.i64 (0 : Int), V.i IntKind.i64 (0 : Int), V.ptr (3 : Nat) (0 : Nat)] [some [V.s s6], some [V.i IntKind.i64 (1 : Int)], some [V.i IntKind.i64 (0 : Int), V.i IntKind.i64 (0 : Int), V.lst Tag.full []], some [V.lst Tag.full []]] [])).run = (some ((Ex.normal, [V.ptr (0 : Nat) (0 : Nat), V.ptr (1 : Nat) (0 : Nat), V.ptr (2 : Nat) (0 : Nat), V.i IntKind.i64 (0 : Int), V.i IntKind.i64 (0 : Int), V.ptr (3 : Nat) (0 : Nat), V.fn (Fn.func (59 : Nat)) [] [V.ptr (0 : Nat) (0 : Nat), V.ptr (1 : Nat) (0 : Nat), V.ptr (3 : Nat) (0 : Nat)]], [some [V.s s6], some [V.i IntKind.i64 (1 : Int)], some [V.i IntKind.i64 (0 : Int), V.i IntKind.i64 (0 : Int), V.lst Tag.full []], some [V.lst Tag.full []]], [], (46 : Nat), (0 : Nat), (0 : Nat)))) := by kernel_rfl
theorem d3 (u : Unit) : (pc 31 0 cfgV (cA (tlN 3 (root 31))) [2,3,4,5,6,7,8] [0] (St.of 46 [2,3,4,5,6,7,8] [V.ptr (0 : Nat) (0 : Nat), V.ptr (1 : Nat) (0 : Nat), V.ptr (2 : Nat) (0 : Nat), V.i IntKind.i64 (0 : Int), V.i IntKind.i64 (0 : Int), V.ptr (3 : Nat) (0 : Nat), V.fn (Fn.func (59 : Nat)) [] [V.ptr (0 : Nat) (0 : Nat), V.ptr (1 : Nat) (0 : Nat), V.ptr (3 : Nat) (0 : Nat)]] [some [V.s s6], some [V.i IntKind.i64 (1 : Int)], some [V.i IntKind.i64 (0 : Int), V.i IntKind.i64 (0 : Int), V.lst Tag.full []], some [V.lst Tag.full []]] [])).run = (some ((Ex.normal, [V.ptr (0 : Nat) (0 : Nat), V.ptr (1 : Nat) (0 : Nat), V.ptr (2 : Nat) (0 : Nat), V.i IntKind.i64 (0 : Int), V.i IntKind.i64 (0 : Int), V.ptr (3 : Nat) (0 : Nat), V.fn (Fn.func (59 : Nat)) [] [V.ptr (0 : Nat) (0 : Nat), V.ptr (1 : Nat) (0 : Nat), V.ptr (3 : Nat) (0 : Nat)]], [some [V.s s6], some [V.i IntKind.i64 (6 : Int)], some [V.i IntKind.i64 (0 : Int), V.i IntKind.i64 (0 : Int), V.lst Tag.full []], some [V.bs false (0 : Nat) (0 : Nat) (5 : Nat)]], [some (Bf.live (BC.cs (1 : Nat) [V.i IntKind.i64 (0 : Int), V.i IntKind.i64 (2 : Int), V.i IntKind.i64 (2 : Int), V.i IntKind.i64 (30 : Int), V.i IntKind.i64 (50 : Int)]))], (46 : Nat), (0 : Nat), (0 : Nat)))) := by kernel_rfl
theorem d4 (u : Unit) : (pc 31 0 cfgV (cA (cB (tlN 3 (root 31)))) [2,3,4,5,6,7,8,9] [0] (St.of 46 [2,3,4,5,6,7,8] [V.ptr (0 : Nat) (0 : Nat), V.ptr (1 : Nat) (0 : Nat), V.ptr (2 : Nat) (0 : Nat), V.i IntKind.i64 (0 : Int), V.i IntKind.i64 (0 : Int), V.ptr (3 : Nat) (0 : Nat), V.fn (Fn.func (59 : Nat)) [] [V.ptr (0 : Nat) (0 : Nat), V.ptr (1 : Nat) (0 : Nat), V.ptr (3 : Nat) (0 : Nat)]] [some [V.s s6], some [V.i IntKind.i64 (6 : Int)], some [V.i IntKind.i64 (0 : Int), V.i IntKind.i64 (0 : Int), V.lst Tag.full []], some [V.lst .ro l5]] [some .dead])).run = (some ((Ex.normal, [V.ptr (0 : Nat) (0 : Nat), V.ptr (1 : Nat) (0 : Nat), V.ptr (2 : Nat) (0 : Nat), V.i IntKind.i64 (0 : Int), V.i IntKind.i64 (0 : Int), V.ptr (3 : Nat) (0 : Nat), V.fn (Fn.func (59 : Nat)) [] [V.ptr (0 : Nat) (0 : Nat), V.ptr (1 : Nat) (0 : Nat), V.ptr (3 : Nat) (0 : Nat)], V.ptr (4 : Nat) (0 : Nat)], [some [V.s s6], some [V.i IntKind.i64 (6 : Int)], some [V.i IntKind.i64 (0 : Int), V.i IntKind.i64 (0 : Int), V.lst Tag.full []], some [V.lst Tag.ro [V.i IntKind.i64 (0 : Int), V.i IntKind.i64 (2 : Int), V.i IntKind.i64 (2 : Int), V.i IntKind.i64 (30 : Int), V.i IntKind.i64 (50 : Int)]], some [V.i IntKind.i64 (0 : Int), V.i IntKind.i64 (2 : Int), V.slst Tag.ro ity [(30 : Int), (50 : Int)]]], [], (46 : Nat), (0 : Nat), (0 : Nat)))) := by kernel_rfl
theorem d5 (u : Unit) : (pc 31 0 cfgV (dB) [0] [4,5,6] (St.of 46 [2,3,4,5,6,7,8,9] [V.ptr (0 : Nat) (0 : Nat), V.ptr (1 : Nat) (0 : Nat), V.ptr (2 : Nat) (0 : Nat), V.i IntKind.i64 (0 : Int), V.i IntKind.i64 (0 : Int), V.ptr (3 : Nat) (0 : Nat), V.fn (Fn.func (59 : Nat)) [] [V.ptr (0 : Nat) (0 : Nat), V.ptr (1 : Nat) (0 : Nat), V.ptr (3 : Nat) (0 : Nat)], V.ptr (4 : Nat) (0 : Nat)] [some [V.s s6], some [V.i IntKind.i64 (6 : Int)], some [V.i IntKind.i64 (0 : Int), V.i IntKind.i64 (0 : Int), V.lst Tag.full []], some [V.lst Tag.ro [V.i IntKind.i64 (0 : Int), V.i IntKind.i64 (2 : Int), V.i IntKind.i64 (2 : Int), V.i IntKind.i64 (30 : Int), V.i IntKind.i64 (50 : Int)]], some [V.i IntKind.i64 (0 : Int), V.i IntKind.i64 (2 : Int), V.slst Tag.ro ity [(30 : Int), (50 : Int)]]] [])).run = (some ((Ex.ret, [V.ptr (0 : Nat) (0 : Nat), V.i IntKind.i64 (6 : Int), V.i IntKind.i64 (0 : Int)], [some [V.i IntKind.i64 (0 : Int), V.i IntKind.i64 (2 : Int), V.slst Tag.ro ity [(30 : Int), (50 : Int)]]], [], (46 : Nat), (0 : Nat), (0 : Nat)))) := by kernel_rfl
theorem bd31 : Try.f31.body = some (root 31) := by kernel_rfl
theorem d31_lit : SemF Try.prog Γ 31 [.s s6, .i .i64 1] [] [] (.tup [.agg [.i .i64 0, .i .i64 2, .slst .ro ity ([30, 50] : List Int)], .i .i64 6, .i .i64 0]) [] [] := by
 have h0 := pc_ok cfgV_ok Try.func31 bd31 (lies0 (by kernel_rfl)) (d0 ())
 have h1 := pc_ok cfgV_ok Try.func31 bd31 (lies0 (by kernel_rfl)) (d1 ())
 have h2 := pc_ok cfgV_ok Try.func31 bd31 (lies0 (by kernel_rfl)) (d2 ())
 have h3 := (pc_ok cfgV_ok Try.func31 bd31 (lies0 (by kernel_rfl)) (d3 ())).postW (St.freezeL (o := 3) (k := 0) (s := 0) (sy := false) (L := 5) (cs := [.bs false 0 0 5]) (c := .cs 1 l5) rfl rfl rfl rfl)
 have h4 := pc_ok cfgV_ok Try.func31 bd31 (lies0 (by kernel_rfl)) (d4 ())
 have h5 := pc_ok cfgV_ok Try.func31 bd31 (lies0 (by kernel_rfl)) (d5 ())
 have hc := SemC.seq h0 (SemC.seq h1 (SemC.seq h2 (SemC.seq h3 (SemC.seq h4 h5))))
 rw [← root31] at hc
 have hf : SemF Try.prog Γ 31 [.s s6, .i .i64 1] [] [] (.tup [.agg [.i .i64 0, .i .i64 2, .slst .ro ity ([30, 50] : List Int)], .i .i64 6, .i .i64 0]) [some [.i .i64 0, .i .i64 2, .slst .ro ity ([30, 50] : List Int)]] [] := SemF.of_body Try.func31 bd31 (.inl rfl) hc (by kernel_rfl)
 exact hf.drop (by kernel_rfl)
theorem c31_lit (s : ByteArray) (k : Int) (h : s = s6 ∧ k = 1) : SemF Try.prog Γ 31 [.ss s, .si .i64 k] [] [] (.tup [.agg [.i .i64 0, .i .i64 2, .slst .ro ity ([30, 50] : List Int)], .i .i64 6, .i .i64 0]) [] [] := by
 obtain ⟨rfl, rfl⟩ := h
 exact d31_lit.args (fun G => Rels.head (fun c h => by cases h; exact .s _) (Rels.head (fun c h => by cases h; exact .i _ _) (fun _ h => h)))
noncomputable def gg_o31 (s : ByteArray) (k : Int) : Option Bool × V := (some (decide (s = s6 ∧ k = 1)), .tup [.agg [.i .i64 0, .i .i64 2, .slst .ro ity ([30, 50] : List Int)], .i .i64 6, .i .i64 0])
theorem gg_o31_c (s : ByteArray) (k : Int) (h : (gg_o31 s k).1.getD true = true) : s = s6 ∧ k = 1 := of_decide_eq_true h
noncomputable def o31 : Orc := fun f args => if f = 31 then (Ty.ofVs [.str, ity] args).map (fun x => gg_o31 x.1 x.2.1) else o11 f args
theorem o31_ok : OrcOk Try.prog Γ o31 := o11_ok.plain 31 [.str, ity] (fun x => gg_o31 x.1 x.2.1) Try.f31 Try.func31 rfl (by kernel_rfl) (fun x h => c31_lit x.1 x.2.1 (gg_o31_c x.1 x.2.1 h))
noncomputable def cfgW : Cfg := cfgM o31 (mems.drop 1) (fun f => Nat.beq f 72) omG
theorem cfgW_ok : CfgOk Try.prog Γ cfgW := cfgM_ok o31_ok omG_ok.1 omG_ok.2
end T
end Go.Proofs.Ytofbchcclkejgaa

/- Package tally: sane. -/
set_option linter.unusedVariables false
set_option linter.unusedSimpArgs false
set_option maxRecDepth 100000
set_option maxHeartbeats 4000000
namespace Go.Proofs.Ytofbchcclkejgaa
open Go
namespace T
def s5 : ByteArray := strOfNums [0, 4, 4, 60, 100]
noncomputable def tl : Code := cB (tlN 9 (root 9))
noncomputable def tR (k : Nat) : Code := cA (tlN k tl)
theorem tl_eq : tl = .seq (tR 0) (.seq (tR 1) (.seq (tR 2) (.seq (tR 3) (.seq (tR 4) (.seq (tR 5) (tlN 6 tl)))))) := by kernel_rfl
noncomputable def hR (k : Nat) : Code := cA (tlN k (root 9))
theorem root9 : root 9 = .seq (hR 0) (.seq (hR 1) (.seq (hR 2) (.seq (hR 3) (.seq (hR 4) (.seq (hR 5) (.seq (hR 6) (.seq (hR 7) (.seq (hR 8) (.seq (.seq (cA (hR 9)) (.block 0 (.loop (lp 9 0)))) tl))))))))) := by kernel_rfl
theorem h0 (u : Unit) : (pc 9 0 cfgW (hR 0) [] [0] (St.start 230 [] [] [])).run = (some ((Ex.normal, [], [], [], (230 : Nat), (0 : Nat), (0 : Nat)))) := by kernel_rfl
theorem h1 (u : Unit) : (pc 9 0 cfgW (hR 1) [1] [0] (St.of 230 [] [] [] [])).run = (some ((Ex.normal, [V.ptr (0 : Nat) (0 : Nat)], [some [V.i IntKind.i64 (2 : Int), V.lst Tag.full [V.i IntKind.i64 (100 : Int), V.i IntKind.i64 (50 : Int)]]], [], (230 : Nat), (0 : Nat), (0 : Nat)))) := by kernel_rfl
theorem h2 (u : Unit) : (pc 9 0 cfgW (hR 2) [1, 2] [0] (St.of 230 [1] [V.ptr (0 : Nat) (0 : Nat)] [some [V.i IntKind.i64 (2 : Int), V.lst Tag.full [V.i IntKind.i64 (100 : Int), V.i IntKind.i64 (50 : Int)]]] [])).run = (some ((Ex.normal, [V.ptr (0 : Nat) (0 : Nat), V.ptr (1 : Nat) (0 : Nat)], [some [V.i IntKind.i64 (2 : Int), V.lst Tag.full [V.i IntKind.i64 (100 : Int), V.i IntKind.i64 (50 : Int)]], some [V.i IntKind.i64 (0 : Int), V.i IntKind.i64 (1 : Int), V.lst Tag.full [V.i IntKind.i64 (60 : Int), V.i IntKind.i64 (20 : Int)]]], [], (230 : Nat), (0 : Nat), (0 : Nat)))) := by kernel_rfl
theorem h3 (u : Unit) : (pc 9 0 cfgW (hR 3) [1, 2, 3] [0] (St.of 230 [1, 2] [V.ptr (0 : Nat) (0 : Nat), V.ptr (1 : Nat) (0 : Nat)] [some [V.i IntKind.i64 (2 : Int), V.lst Tag.full [V.i IntKind.i64 (100 : Int), V.i IntKind.i64 (50 : Int)]], some [V.i IntKind.i64 (0 : Int), V.i IntKind.i64 (1 : Int), V.lst Tag.full [V.i IntKind.i64 (60 : Int), V.i IntKind.i64 (20 : Int)]]] [])).run = (some ((Ex.normal, [V.ptr (0 : Nat) (0 : Nat), V.ptr (1 : Nat) (0 : Nat), V.ptr (2 : Nat) (0 : Nat)], [some [V.i IntKind.i64 (2 : Int), V.lst Tag.full [V.i IntKind.i64 (100 : Int), V.i IntKind.i64 (50 : Int)]], some [V.i IntKind.i64 (0 : Int), V.i IntKind.i64 (1 : Int), V.lst Tag.full [V.i IntKind.i64 (60 : Int), V.i IntKind.i64 (20 : Int)]], some [V.i IntKind.i64 (1 : Int), V.i IntKind.i64 (1 : Int), V.lst Tag.full [V.i IntKind.i64 (20 : Int), V.i IntKind.i64 (10 : Int)]]], [], (230 : Nat), (0 : Nat), (0 : Nat)))) := by kernel_rfl
theorem h4 (u : Unit) : (pc 9 0 cfgW (hR 4) [1, 2, 3, 4] [0] (St.of 230 [1, 2, 3] [V.ptr (0 : Nat) (0 : Nat), V.ptr (1 : Nat) (0 : Nat), V.ptr (2 : Nat) (0 : Nat)] [some [V.i IntKind.i64 (2 : Int), V.lst Tag.full [V.i IntKind.i64 (100 : Int), V.i IntKind.i64 (50 : Int)]], some [V.i IntKind.i64 (0 : Int), V.i IntKind.i64 (1 : Int), V.lst Tag.full [V.i IntKind.i64 (60 : Int), V.i IntKind.i64 (20 : Int)]], some [V.i IntKind.i64 (1 : Int), V.i IntKind.i64 (1 : Int), V.lst Tag.full [V.i IntKind.i64 (20 : Int), V.i IntKind.i64 (10 : Int)]]] [])).run = (some ((Ex.normal, [V.ptr (0 : Nat) (0 : Nat), V.ptr (1 : Nat) (0 : Nat), V.ptr (2 : Nat) (0 : Nat), V.ptr (3 : Nat) (0 : Nat)], [some [V.i IntKind.i64 (2 : Int), V.lst Tag.full [V.i IntKind.i64 (100 : Int), V.i IntKind.i64 (50 : Int)]], some [V.i IntKind.i64 (0 : Int), V.i IntKind.i64 (1 : Int), V.lst Tag.full [V.i IntKind.i64 (60 : Int), V.i IntKind.i64 (20 : Int)]], some [V.i IntKind.i64 (1 : Int), V.i IntKind.i64 (1 : Int), V.lst Tag.full [V.i IntKind.i64 (20 : Int), V.i IntKind.i64 (10 : Int)]], some [V.i IntKind.i64 (0 : Int), V.i IntKind.i64 (2 : Int), V.lst Tag.full [V.i IntKind.i64 (30 : Int), V.i IntKind.i64 (50 : Int)]]], [], (230 : Nat), (0 : Nat), (0 : Nat)))) := by kernel_rfl
theorem h5 (u : Unit) : (pc 9 0 cfgW (hR 5) [1, 2, 3, 4, 5] [0] (St.of 230 [1, 2, 3, 4] [V.ptr (0 : Nat) (0 : Nat), V.ptr (1 : Nat) (0 : Nat), V.ptr (2 : Nat) (0 : Nat), V.ptr (3 : Nat) (0 : Nat)] [some [V.i IntKind.i64 (2 : Int), V.lst Tag.full [V.i IntKind.i64 (100 : Int), V.i IntKind.i64 (50 : Int)]], some [V.i IntKind.i64 (0 : Int), V.i IntKind.i64 (1 : Int), V.lst Tag.full [V.i IntKind.i64 (60 : Int), V.i IntKind.i64 (20 : Int)]], some [V.i IntKind.i64 (1 : Int), V.i IntKind.i64 (1 : Int), V.lst Tag.full [V.i IntKind.i64 (20 : Int), V.i IntKind.i64 (10 : Int)]], some [V.i IntKind.i64 (0 : Int), V.i IntKind.i64 (2 : Int), V.lst Tag.full [V.i IntKind.i64 (30 : Int), V.i IntKind.i64 (50 : Int)]]] [])).run = (some ((Ex.normal, [V.ptr (0 : Nat) (0 : Nat), V.ptr (1 : Nat) (0 : Nat), V.ptr (2 : Nat) (0 : Nat), V.ptr (3 : Nat) (0 : Nat), V.lst Tag.full [V.lst Tag.full [V.i IntKind.i64 (0 : Int), V.i IntKind.i64 (0 : Int)], V.lst Tag.full [V.i IntKind.i64 (60 : Int), V.i IntKind.i64 (20 : Int)], V.lst Tag.full [V.i IntKind.i64 (80 : Int), V.i IntKind.i64 (30 : Int)], V.lst Tag.full [V.i IntKind.i64 (50 : Int), V.i IntKind.i64 (60 : Int)]]], [some [V.i IntKind.i64 (2 : Int), V.lst Tag.full [V.i IntKind.i64 (100 : Int), V.i IntKind.i64 (50 : Int)]], some [V.i IntKind.i64 (0 : Int), V.i IntKind.i64 (1 : Int), V.lst Tag.full [V.i IntKind.i64 (60 : Int), V.i IntKind.i64 (20 : Int)]], some [V.i IntKind.i64 (1 : Int), V.i IntKind.i64 (1 : Int), V.lst Tag.full [V.i IntKind.i64 (20 : Int), V.i IntKind.i64 (10 : Int)]], some [V.i IntKind.i64 (0 : Int), V.i IntKind.i64 (2 : Int), V.lst Tag.full [V.i IntKind.i64 (30 : Int), V.i IntKind.i64 (50 : Int)]]], [], (230 : Nat), (0 : Nat), (0 : Nat)))) := by kernel_rfl
theorem h6 (u : Unit) : (pc 9 0 cfgW (hR 6) [1, 2, 3, 4, 5, 6] [0] (St.of 230 [1, 2, 3, 4, 5] [V.ptr (0 : Nat) (0 : Nat), V.ptr (1 : Nat) (0 : Nat), V.ptr (2 : Nat) (0 : Nat), V.ptr (3 : Nat) (0 : Nat), V.lst Tag.full [V.lst Tag.full [V.i IntKind.i64 (0 : Int), V.i IntKind.i64 (0 : Int)], V.lst Tag.full [V.i IntKind.i64 (60 : Int), V.i IntKind.i64 (20 : Int)], V.lst Tag.full [V.i IntKind.i64 (80 : Int), V.i IntKind.i64 (30 : Int)], V.lst Tag.full [V.i IntKind.i64 (50 : Int), V.i IntKind.i64 (60 : Int)]]] [some [V.i IntKind.i64 (2 : Int), V.lst Tag.full [V.i IntKind.i64 (100 : Int), V.i IntKind.i64 (50 : Int)]], some [V.i IntKind.i64 (0 : Int), V.i IntKind.i64 (1 : Int), V.lst Tag.full [V.i IntKind.i64 (60 : Int), V.i IntKind.i64 (20 : Int)]], some [V.i IntKind.i64 (1 : Int), V.i IntKind.i64 (1 : Int), V.lst Tag.full [V.i IntKind.i64 (20 : Int), V.i IntKind.i64 (10 : Int)]], some [V.i IntKind.i64 (0 : Int), V.i IntKind.i64 (2 : Int), V.lst Tag.full [V.i IntKind.i64 (30 : Int), V.i IntKind.i64 (50 : Int)]]] [])).run = (some ((Ex.normal, [V.ptr (0 : Nat) (0 : Nat), V.ptr (1 : Nat) (0 : Nat), V.ptr (2 : Nat) (0 : Nat), V.ptr (3 : Nat) (0 : Nat), V.lst Tag.full [V.lst Tag.full [V.i IntKind.i64 (0 : Int), V.i IntKind.i64 (0 : Int)], V.lst Tag.full [V.i IntKind.i64 (60 : Int), V.i IntKind.i64 (20 : Int)], V.lst Tag.full [V.i IntKind.i64 (80 : Int), V.i IntKind.i64 (30 : Int)], V.lst Tag.full [V.i IntKind.i64 (50 : Int), V.i IntKind.i64 (60 : Int)]], V.lst Tag.full [V.i IntKind.i64 (150 : Int), V.i IntKind.i64 (70 : Int), V.i IntKind.i64 (40 : Int), V.i IntKind.i64 (40 : Int)]], [some [V.i IntKind.i64 (2 : Int), V.lst Tag.full [V.i IntKind.i64 (100 : Int), V.i IntKind.i64 (50 : Int)]], some [V.i IntKind.i64 (0 : Int), V.i IntKind.i64 (1 : Int), V.lst Tag.full [V.i IntKind.i64 (60 : Int), V.i IntKind.i64 (20 : Int)]], some [V.i IntKind.i64 (1 : Int), V.i IntKind.i64 (1 : Int), V.lst Tag.full [V.i IntKind.i64 (20 : Int), V.i IntKind.i64 (10 : Int)]], some [V.i IntKind.i64 (0 : Int), V.i IntKind.i64 (2 : Int), V.lst Tag.full [V.i IntKind.i64 (30 : Int), V.i IntKind.i64 (50 : Int)]]], [], (230 : Nat), (0 : Nat), (0 : Nat)))) := by kernel_rfl
theorem h7 (u : Unit) : (pc 9 0 cfgW (hR 7) [1, 2, 3, 4, 5, 6, 7] [0] (St.of 230 [1, 2, 3, 4, 5, 6] [V.ptr (0 : Nat) (0 : Nat), V.ptr (1 : Nat) (0 : Nat), V.ptr (2 : Nat) (0 : Nat), V.ptr (3 : Nat) (0 : Nat), V.lst Tag.full [V.lst Tag.full [V.i IntKind.i64 (0 : Int), V.i IntKind.i64 (0 : Int)], V.lst Tag.full [V.i IntKind.i64 (60 : Int), V.i IntKind.i64 (20 : Int)], V.lst Tag.full [V.i IntKind.i64 (80 : Int), V.i IntKind.i64 (30 : Int)], V.lst Tag.full [V.i IntKind.i64 (50 : Int), V.i IntKind.i64 (60 : Int)]], V.lst Tag.full [V.i IntKind.i64 (150 : Int), V.i IntKind.i64 (70 : Int), V.i IntKind.i64 (40 : Int), V.i IntKind.i64 (40 : Int)]] [some [V.i IntKind.i64 (2 : Int), V.lst Tag.full [V.i IntKind.i64 (100 : Int), V.i IntKind.i64 (50 : Int)]], some [V.i IntKind.i64 (0 : Int), V.i IntKind.i64 (1 : Int), V.lst Tag.full [V.i IntKind.i64 (60 : Int), V.i IntKind.i64 (20 : Int)]], some [V.i IntKind.i64 (1 : Int), V.i IntKind.i64 (1 : Int), V.lst Tag.full [V.i IntKind.i64 (20 : Int), V.i IntKind.i64 (10 : Int)]], some [V.i IntKind.i64 (0 : Int), V.i IntKind.i64 (2 : Int), V.lst Tag.full [V.i IntKind.i64 (30 : Int), V.i IntKind.i64 (50 : Int)]]] [])).run = (some ((Ex.normal, [V.ptr (0 : Nat) (0 : Nat), V.ptr (1 : Nat) (0 : Nat), V.ptr (2 : Nat) (0 : Nat), V.ptr (3 : Nat) (0 : Nat), V.lst Tag.full [V.lst Tag.full [V.i IntKind.i64 (0 : Int), V.i IntKind.i64 (0 : Int)], V.lst Tag.full [V.i IntKind.i64 (60 : Int), V.i IntKind.i64 (20 : Int)], V.lst Tag.full [V.i IntKind.i64 (80 : Int), V.i IntKind.i64 (30 : Int)], V.lst Tag.full [V.i IntKind.i64 (50 : Int), V.i IntKind.i64 (60 : Int)]], V.lst Tag.full [V.i IntKind.i64 (150 : Int), V.i IntKind.i64 (70 : Int), V.i IntKind.i64 (40 : Int), V.i IntKind.i64 (40 : Int)], V.lst Tag.full [V.i IntKind.i64 (-1 : Int), V.i IntKind.i64 (-1 : Int), V.i IntKind.i64 (0 : Int), V.i IntKind.i64 (-1 : Int)]], [some [V.i IntKind.i64 (2 : Int), V.lst Tag.full [V.i IntKind.i64 (100 : Int), V.i IntKind.i64 (50 : Int)]], some [V.i IntKind.i64 (0 : Int), V.i IntKind.i64 (1 : Int), V.lst Tag.full [V.i IntKind.i64 (60 : Int), V.i IntKind.i64 (20 : Int)]], some [V.i IntKind.i64 (1 : Int), V.i IntKind.i64 (1 : Int), V.lst Tag.full [V.i IntKind.i64 (20 : Int), V.i IntKind.i64 (10 : Int)]], some [V.i IntKind.i64 (0 : Int), V.i IntKind.i64 (2 : Int), V.lst Tag.full [V.i IntKind.i64 (30 : Int), V.i IntKind.i64 (50 : Int)]]], [], (230 : Nat), (0 : Nat), (0 : Nat)))) := by kernel_rfl
theorem h8 (u : Unit) : (pc 9 0 cfgW (hR 8) [1, 2, 3, 4, 5, 6, 7, 8] [0] (St.of 230 [1, 2, 3, 4, 5, 6, 7] [V.ptr (0 : Nat) (0 : Nat), V.ptr (1 : Nat) (0 : Nat), V.ptr (2 : Nat) (0 : Nat), V.ptr (3 : Nat) (0 : Nat), V.lst Tag.full [V.lst Tag.full [V.i IntKind.i64 (0 : Int), V.i IntKind.i64 (0 : Int)], V.lst Tag.full [V.i IntKind.i64 (60 : Int), V.i IntKind.i64 (20 : Int)], V.lst Tag.full [V.i IntKind.i64 (80 : Int), V.i IntKind.i64 (30 : Int)], V.lst Tag.full [V.i IntKind.i64 (50 : Int), V.i IntKind.i64 (60 : Int)]], V.lst Tag.full [V.i IntKind.i64 (150 : Int), V.i IntKind.i64 (70 : Int), V.i IntKind.i64 (40 : Int), V.i IntKind.i64 (40 : Int)], V.lst Tag.full [V.i IntKind.i64 (-1 : Int), V.i IntKind.i64 (-1 : Int), V.i IntKind.i64 (0 : Int), V.i IntKind.i64 (-1 : Int)]] [some [V.i IntKind.i64 (2 : Int), V.lst Tag.full [V.i IntKind.i64 (100 : Int), V.i IntKind.i64 (50 : Int)]], some [V.i IntKind.i64 (0 : Int), V.i IntKind.i64 (1 : Int), V.lst Tag.full [V.i IntKind.i64 (60 : Int), V.i IntKind.i64 (20 : Int)]], some [V.i IntKind.i64 (1 : Int), V.i IntKind.i64 (1 : Int), V.lst Tag.full [V.i IntKind.i64 (20 : Int), V.i IntKind.i64 (10 : Int)]], some [V.i IntKind.i64 (0 : Int), V.i IntKind.i64 (2 : Int), V.lst Tag.full [V.i IntKind.i64 (30 : Int), V.i IntKind.i64 (50 : Int)]]] [])).run = (some ((Ex.normal, [V.ptr (0 : Nat) (0 : Nat), V.ptr (1 : Nat) (0 : Nat), V.ptr (2 : Nat) (0 : Nat), V.ptr (3 : Nat) (0 : Nat), V.lst Tag.full [V.lst Tag.full [V.i IntKind.i64 (0 : Int), V.i IntKind.i64 (0 : Int)], V.lst Tag.full [V.i IntKind.i64 (60 : Int), V.i IntKind.i64 (20 : Int)], V.lst Tag.full [V.i IntKind.i64 (80 : Int), V.i IntKind.i64 (30 : Int)], V.lst Tag.full [V.i IntKind.i64 (50 : Int), V.i IntKind.i64 (60 : Int)]], V.lst Tag.full [V.i IntKind.i64 (150 : Int), V.i IntKind.i64 (70 : Int), V.i IntKind.i64 (40 : Int), V.i IntKind.i64 (40 : Int)], V.lst Tag.full [V.i IntKind.i64 (-1 : Int), V.i IntKind.i64 (-1 : Int), V.i IntKind.i64 (0 : Int), V.i IntKind.i64 (-1 : Int)], V.lst Tag.full [V.i IntKind.i64 (2 : Int), V.i IntKind.i64 (2 : Int), V.i IntKind.i64 (1 : Int), V.i IntKind.i64 (2 : Int)]], [some [V.i IntKind.i64 (2 : Int), V.lst Tag.full [V.i IntKind.i64 (100 : Int), V.i IntKind.i64 (50 : Int)]], some [V.i IntKind.i64 (0 : Int), V.i IntKind.i64 (1 : Int), V.lst Tag.full [V.i IntKind.i64 (60 : Int), V.i IntKind.i64 (20 : Int)]], some [V.i IntKind.i64 (1 : Int), V.i IntKind.i64 (1 : Int), V.lst Tag.full [V.i IntKind.i64 (20 : Int), V.i IntKind.i64 (10 : Int)]], some [V.i IntKind.i64 (0 : Int), V.i IntKind.i64 (2 : Int), V.lst Tag.full [V.i IntKind.i64 (30 : Int), V.i IntKind.i64 (50 : Int)]]], [], (230 : Nat), (0 : Nat), (0 : Nat)))) := by kernel_rfl
theorem h9 (u : Unit) : (pc 9 0 cfgW (cA (hR 9)) [1, 2, 3, 4, 5, 6, 7, 8, 60, 61, 62] [0] (St.of 230 [1, 2, 3, 4, 5, 6, 7, 8] [V.ptr (0 : Nat) (0 : Nat), V.ptr (1 : Nat) (0 : Nat), V.ptr (2 : Nat) (0 : Nat), V.ptr (3 : Nat) (0 : Nat), V.lst Tag.full [V.lst Tag.full [V.i IntKind.i64 (0 : Int), V.i IntKind.i64 (0 : Int)], V.lst Tag.full [V.i IntKind.i64 (60 : Int), V.i IntKind.i64 (20 : Int)], V.lst Tag.full [V.i IntKind.i64 (80 : Int), V.i IntKind.i64 (30 : Int)], V.lst Tag.full [V.i IntKind.i64 (50 : Int), V.i IntKind.i64 (60 : Int)]], V.lst Tag.full [V.i IntKind.i64 (150 : Int), V.i IntKind.i64 (70 : Int), V.i IntKind.i64 (40 : Int), V.i IntKind.i64 (40 : Int)], V.lst Tag.full [V.i IntKind.i64 (-1 : Int), V.i IntKind.i64 (-1 : Int), V.i IntKind.i64 (0 : Int), V.i IntKind.i64 (-1 : Int)], V.lst Tag.full [V.i IntKind.i64 (2 : Int), V.i IntKind.i64 (2 : Int), V.i IntKind.i64 (1 : Int), V.i IntKind.i64 (2 : Int)]] [some [V.i IntKind.i64 (2 : Int), V.lst Tag.full [V.i IntKind.i64 (100 : Int), V.i IntKind.i64 (50 : Int)]], some [V.i IntKind.i64 (0 : Int), V.i IntKind.i64 (1 : Int), V.lst Tag.full [V.i IntKind.i64 (60 : Int), V.i IntKind.i64 (20 : Int)]], some [V.i IntKind.i64 (1 : Int), V.i IntKind.i64 (1 : Int), V.lst Tag.full [V.i IntKind.i64 (20 : Int), V.i IntKind.i64 (10 : Int)]], some [V.i IntKind.i64 (0 : Int), V.i IntKind.i64 (2 : Int), V.lst Tag.full [V.i IntKind.i64 (30 : Int), V.i IntKind.i64 (50 : Int)]]] [])).run = (some ((Ex.normal, [V.ptr (0 : Nat) (0 : Nat), V.ptr (1 : Nat) (0 : Nat), V.ptr (2 : Nat) (0 : Nat), V.ptr (3 : Nat) (0 : Nat), V.lst Tag.full [V.lst Tag.full [V.i IntKind.i64 (0 : Int), V.i IntKind.i64 (0 : Int)], V.lst Tag.full [V.i IntKind.i64 (60 : Int), V.i IntKind.i64 (20 : Int)], V.lst Tag.full [V.i IntKind.i64 (80 : Int), V.i IntKind.i64 (30 : Int)], V.lst Tag.full [V.i IntKind.i64 (50 : Int), V.i IntKind.i64 (60 : Int)]], V.lst Tag.full [V.i IntKind.i64 (150 : Int), V.i IntKind.i64 (70 : Int), V.i IntKind.i64 (40 : Int), V.i IntKind.i64 (40 : Int)], V.lst Tag.full [V.i IntKind.i64 (-1 : Int), V.i IntKind.i64 (-1 : Int), V.i IntKind.i64 (0 : Int), V.i IntKind.i64 (-1 : Int)], V.lst Tag.full [V.i IntKind.i64 (2 : Int), V.i IntKind.i64 (2 : Int), V.i IntKind.i64 (1 : Int), V.i IntKind.i64 (2 : Int)], V.lst Tag.full [V.lst Tag.full [], V.lst Tag.full [V.agg [V.i IntKind.i64 (0 : Int), V.i IntKind.i64 (1 : Int), V.lst Tag.full [V.i IntKind.i64 (60 : Int), V.i IntKind.i64 (20 : Int)]]], V.lst Tag.full [V.agg [V.i IntKind.i64 (0 : Int), V.i IntKind.i64 (1 : Int), V.lst Tag.full [V.i IntKind.i64 (60 : Int), V.i IntKind.i64 (20 : Int)]], V.agg [V.i IntKind.i64 (1 : Int), V.i IntKind.i64 (1 : Int), V.lst Tag.full [V.i IntKind.i64 (20 : Int), V.i IntKind.i64 (10 : Int)]]], V.lst Tag.full [V.agg [V.i IntKind.i64 (1 : Int), V.i IntKind.i64 (1 : Int), V.lst Tag.full [V.i IntKind.i64 (20 : Int), V.i IntKind.i64 (10 : Int)]], V.agg [V.i IntKind.i64 (0 : Int), V.i IntKind.i64 (1 : Int), V.lst Tag.full [V.i IntKind.i64 (60 : Int), V.i IntKind.i64 (20 : Int)]], V.agg [V.i IntKind.i64 (0 : Int), V.i IntKind.i64 (2 : Int), V.lst Tag.full [V.i IntKind.i64 (30 : Int), V.i IntKind.i64 (50 : Int)]], V.agg [V.i IntKind.i64 (0 : Int), V.i IntKind.i64 (1 : Int), V.lst Tag.full [V.i IntKind.i64 (60 : Int), V.i IntKind.i64 (20 : Int)]]]], V.i IntKind.i64 (4 : Int), V.i IntKind.i64 (0 : Int)], [some [V.i IntKind.i64 (2 : Int), V.lst Tag.full [V.i IntKind.i64 (100 : Int), V.i IntKind.i64 (50 : Int)]], some [V.i IntKind.i64 (0 : Int), V.i IntKind.i64 (1 : Int), V.lst Tag.full [V.i IntKind.i64 (60 : Int), V.i IntKind.i64 (20 : Int)]], some [V.i IntKind.i64 (1 : Int), V.i IntKind.i64 (1 : Int), V.lst Tag.full [V.i IntKind.i64 (20 : Int), V.i IntKind.i64 (10 : Int)]], some [V.i IntKind.i64 (0 : Int), V.i IntKind.i64 (2 : Int), V.lst Tag.full [V.i IntKind.i64 (30 : Int), V.i IntKind.i64 (50 : Int)]]], [], (230 : Nat), (0 : Nat), (0 : Nat)))) := by kernel_rfl
theorem q0 (u : Unit) : (pc 9 1 cfgW (lp 9 0) [1, 2, 3, 4, 5, 6, 7, 8, 60, 61, 62] [1, 2, 3, 4] (St.of 230 [1, 2, 3, 4, 5, 6, 7, 8, 60, 61, 62] [V.ptr (0 : Nat) (0 : Nat), V.ptr (1 : Nat) (0 : Nat), V.ptr (2 : Nat) (0 : Nat), V.ptr (3 : Nat) (0 : Nat), V.lst Tag.full [V.lst Tag.full [V.i IntKind.i64 (0 : Int), V.i IntKind.i64 (0 : Int)], V.lst Tag.full [V.i IntKind.i64 (60 : Int), V.i IntKind.i64 (20 : Int)], V.lst Tag.full [V.i IntKind.i64 (80 : Int), V.i IntKind.i64 (30 : Int)], V.lst Tag.full [V.i IntKind.i64 (50 : Int), V.i IntKind.i64 (60 : Int)]], V.lst Tag.full [V.i IntKind.i64 (150 : Int), V.i IntKind.i64 (70 : Int), V.i IntKind.i64 (40 : Int), V.i IntKind.i64 (40 : Int)], V.lst Tag.full [V.i IntKind.i64 (-1 : Int), V.i IntKind.i64 (-1 : Int), V.i IntKind.i64 (0 : Int), V.i IntKind.i64 (-1 : Int)], V.lst Tag.full [V.i IntKind.i64 (2 : Int), V.i IntKind.i64 (2 : Int), V.i IntKind.i64 (1 : Int), V.i IntKind.i64 (2 : Int)], V.lst Tag.full [V.lst Tag.full [], V.lst Tag.full [V.agg [V.i IntKind.i64 (0 : Int), V.i IntKind.i64 (1 : Int), V.lst Tag.full [V.i IntKind.i64 (60 : Int), V.i IntKind.i64 (20 : Int)]]], V.lst Tag.full [V.agg [V.i IntKind.i64 (0 : Int), V.i IntKind.i64 (1 : Int), V.lst Tag.full [V.i IntKind.i64 (60 : Int), V.i IntKind.i64 (20 : Int)]], V.agg [V.i IntKind.i64 (1 : Int), V.i IntKind.i64 (1 : Int), V.lst Tag.full [V.i IntKind.i64 (20 : Int), V.i IntKind.i64 (10 : Int)]]], V.lst Tag.full [V.agg [V.i IntKind.i64 (1 : Int), V.i IntKind.i64 (1 : Int), V.lst Tag.full [V.i IntKind.i64 (20 : Int), V.i IntKind.i64 (10 : Int)]], V.agg [V.i IntKind.i64 (0 : Int), V.i IntKind.i64 (1 : Int), V.lst Tag.full [V.i IntKind.i64 (60 : Int), V.i IntKind.i64 (20 : Int)]], V.agg [V.i IntKind.i64 (0 : Int), V.i IntKind.i64 (2 : Int), V.lst Tag.full [V.i IntKind.i64 (30 : Int), V.i IntKind.i64 (50 : Int)]], V.agg [V.i IntKind.i64 (0 : Int), V.i IntKind.i64 (1 : Int), V.lst Tag.full [V.i IntKind.i64 (60 : Int), V.i IntKind.i64 (20 : Int)]]]], V.i IntKind.i64 (4 : Int), V.i IntKind.i64 (0 : Int)] [some [V.i IntKind.i64 (2 : Int), V.lst Tag.full [V.i IntKind.i64 (100 : Int), V.i IntKind.i64 (50 : Int)]], some [V.i IntKind.i64 (0 : Int), V.i IntKind.i64 (1 : Int), V.lst Tag.full [V.i IntKind.i64 (60 : Int), V.i IntKind.i64 (20 : Int)]], some [V.i IntKind.i64 (1 : Int), V.i IntKind.i64 (1 : Int), V.lst Tag.full [V.i IntKind.i64 (20 : Int), V.i IntKind.i64 (10 : Int)]], some [V.i IntKind.i64 (0 : Int), V.i IntKind.i64 (2 : Int), V.lst Tag.full [V.i IntKind.i64 (30 : Int), V.i IntKind.i64 (50 : Int)]]] [])).run = (some ((Ex.normal, [V.ptr (0 : Nat) (0 : Nat), V.ptr (1 : Nat) (0 : Nat), V.ptr (2 : Nat) (0 : Nat), V.ptr (3 : Nat) (0 : Nat), V.lst Tag.full [V.lst Tag.full [V.i IntKind.i64 (0 : Int), V.i IntKind.i64 (0 : Int)], V.lst Tag.full [V.i IntKind.i64 (60 : Int), V.i IntKind.i64 (20 : Int)], V.lst Tag.full [V.i IntKind.i64 (80 : Int), V.i IntKind.i64 (30 : Int)], V.lst Tag.full [V.i IntKind.i64 (50 : Int), V.i IntKind.i64 (60 : Int)]], V.lst Tag.full [V.i IntKind.i64 (150 : Int), V.i IntKind.i64 (70 : Int), V.i IntKind.i64 (40 : Int), V.i IntKind.i64 (40 : Int)], V.lst Tag.full [V.i IntKind.i64 (-1 : Int), V.i IntKind.i64 (-1 : Int), V.i IntKind.i64 (0 : Int), V.i IntKind.i64 (-1 : Int)], V.lst Tag.full [V.i IntKind.i64 (2 : Int), V.i IntKind.i64 (2 : Int), V.i IntKind.i64 (1 : Int), V.i IntKind.i64 (2 : Int)], V.lst Tag.full [V.lst Tag.full [], V.lst Tag.full [V.agg [V.i IntKind.i64 (0 : Int), V.i IntKind.i64 (1 : Int), V.lst Tag.full [V.i IntKind.i64 (60 : Int), V.i IntKind.i64 (20 : Int)]]], V.lst Tag.full [V.agg [V.i IntKind.i64 (0 : Int), V.i IntKind.i64 (1 : Int), V.lst Tag.full [V.i IntKind.i64 (60 : Int), V.i IntKind.i64 (20 : Int)]], V.agg [V.i IntKind.i64 (1 : Int), V.i IntKind.i64 (1 : Int), V.lst Tag.full [V.i IntKind.i64 (20 : Int), V.i IntKind.i64 (10 : Int)]]], V.lst Tag.full [V.agg [V.i IntKind.i64 (1 : Int), V.i IntKind.i64 (1 : Int), V.lst Tag.full [V.i IntKind.i64 (20 : Int), V.i IntKind.i64 (10 : Int)]], V.agg [V.i IntKind.i64 (0 : Int), V.i IntKind.i64 (1 : Int), V.lst Tag.full [V.i IntKind.i64 (60 : Int), V.i IntKind.i64 (20 : Int)]], V.agg [V.i IntKind.i64 (0 : Int), V.i IntKind.i64 (2 : Int), V.lst Tag.full [V.i IntKind.i64 (30 : Int), V.i IntKind.i64 (50 : Int)]], V.agg [V.i IntKind.i64 (0 : Int), V.i IntKind.i64 (1 : Int), V.lst Tag.full [V.i IntKind.i64 (60 : Int), V.i IntKind.i64 (20 : Int)]]]], V.i IntKind.i64 (4 : Int), V.i IntKind.i64 (1 : Int)], [some [V.i IntKind.i64 (2 : Int), V.lst Tag.full [V.i IntKind.i64 (100 : Int), V.i IntKind.i64 (50 : Int)]], some [V.i IntKind.i64 (0 : Int), V.i IntKind.i64 (1 : Int), V.lst Tag.full [V.i IntKind.i64 (60 : Int), V.i IntKind.i64 (20 : Int)]], some [V.i IntKind.i64 (1 : Int), V.i IntKind.i64 (1 : Int), V.lst Tag.full [V.i IntKind.i64 (20 : Int), V.i IntKind.i64 (10 : Int)]], some [V.i IntKind.i64 (0 : Int), V.i IntKind.i64 (2 : Int), V.lst Tag.full [V.i IntKind.i64 (30 : Int), V.i IntKind.i64 (50 : Int)]]], [], (230 : Nat), (0 : Nat), (0 : Nat)))) := by kernel_rfl
theorem q1 (u : Unit) : (pc 9 1 cfgW (lp 9 0) [1, 2, 3, 4, 5, 6, 7, 8, 60, 61, 62] [1, 2, 3, 4] (St.of 230 [1, 2, 3, 4, 5, 6, 7, 8, 60, 61, 62] [V.ptr (0 : Nat) (0 : Nat), V.ptr (1 : Nat) (0 : Nat), V.ptr (2 : Nat) (0 : Nat), V.ptr (3 : Nat) (0 : Nat), V.lst Tag.full [V.lst Tag.full [V.i IntKind.i64 (0 : Int), V.i IntKind.i64 (0 : Int)], V.lst Tag.full [V.i IntKind.i64 (60 : Int), V.i IntKind.i64 (20 : Int)], V.lst Tag.full [V.i IntKind.i64 (80 : Int), V.i IntKind.i64 (30 : Int)], V.lst Tag.full [V.i IntKind.i64 (50 : Int), V.i IntKind.i64 (60 : Int)]], V.lst Tag.full [V.i IntKind.i64 (150 : Int), V.i IntKind.i64 (70 : Int), V.i IntKind.i64 (40 : Int), V.i IntKind.i64 (40 : Int)], V.lst Tag.full [V.i IntKind.i64 (-1 : Int), V.i IntKind.i64 (-1 : Int), V.i IntKind.i64 (0 : Int), V.i IntKind.i64 (-1 : Int)], V.lst Tag.full [V.i IntKind.i64 (2 : Int), V.i IntKind.i64 (2 : Int), V.i IntKind.i64 (1 : Int), V.i IntKind.i64 (2 : Int)], V.lst Tag.full [V.lst Tag.full [], V.lst Tag.full [V.agg [V.i IntKind.i64 (0 : Int), V.i IntKind.i64 (1 : Int), V.lst Tag.full [V.i IntKind.i64 (60 : Int), V.i IntKind.i64 (20 : Int)]]], V.lst Tag.full [V.agg [V.i IntKind.i64 (0 : Int), V.i IntKind.i64 (1 : Int), V.lst Tag.full [V.i IntKind.i64 (60 : Int), V.i IntKind.i64 (20 : Int)]], V.agg [V.i IntKind.i64 (1 : Int), V.i IntKind.i64 (1 : Int), V.lst Tag.full [V.i IntKind.i64 (20 : Int), V.i IntKind.i64 (10 : Int)]]], V.lst Tag.full [V.agg [V.i IntKind.i64 (1 : Int), V.i IntKind.i64 (1 : Int), V.lst Tag.full [V.i IntKind.i64 (20 : Int), V.i IntKind.i64 (10 : Int)]], V.agg [V.i IntKind.i64 (0 : Int), V.i IntKind.i64 (1 : Int), V.lst Tag.full [V.i IntKind.i64 (60 : Int), V.i IntKind.i64 (20 : Int)]], V.agg [V.i IntKind.i64 (0 : Int), V.i IntKind.i64 (2 : Int), V.lst Tag.full [V.i IntKind.i64 (30 : Int), V.i IntKind.i64 (50 : Int)]], V.agg [V.i IntKind.i64 (0 : Int), V.i IntKind.i64 (1 : Int), V.lst Tag.full [V.i IntKind.i64 (60 : Int), V.i IntKind.i64 (20 : Int)]]]], V.i IntKind.i64 (4 : Int), V.i IntKind.i64 (1 : Int)] [some [V.i IntKind.i64 (2 : Int), V.lst Tag.full [V.i IntKind.i64 (100 : Int), V.i IntKind.i64 (50 : Int)]], some [V.i IntKind.i64 (0 : Int), V.i IntKind.i64 (1 : Int), V.lst Tag.full [V.i IntKind.i64 (60 : Int), V.i IntKind.i64 (20 : Int)]], some [V.i IntKind.i64 (1 : Int), V.i IntKind.i64 (1 : Int), V.lst Tag.full [V.i IntKind.i64 (20 : Int), V.i IntKind.i64 (10 : Int)]], some [V.i IntKind.i64 (0 : Int), V.i IntKind.i64 (2 : Int), V.lst Tag.full [V.i IntKind.i64 (30 : Int), V.i IntKind.i64 (50 : Int)]]] [])).run = (some ((Ex.normal, [V.ptr (0 : Nat) (0 : Nat), V.ptr (1 : Nat) (0 : Nat), V.ptr (2 : Nat) (0 : Nat), V.ptr (3 : Nat) (0 : Nat), V.lst Tag.full [V.lst Tag.full [V.i IntKind.i64 (0 : Int), V.i IntKind.i64 (0 : Int)], V.lst Tag.full [V.i IntKind.i64 (60 : Int), V.i IntKind.i64 (20 : Int)], V.lst Tag.full [V.i IntKind.i64 (80 : Int), V.i IntKind.i64 (30 : Int)], V.lst Tag.full [V.i IntKind.i64 (50 : Int), V.i IntKind.i64 (60 : Int)]], V.lst Tag.full [V.i IntKind.i64 (150 : Int), V.i IntKind.i64 (70 : Int), V.i IntKind.i64 (40 : Int), V.i IntKind.i64 (40 : Int)], V.lst Tag.full [V.i IntKind.i64 (-1 : Int), V.i IntKind.i64 (-1 : Int), V.i IntKind.i64 (0 : Int), V.i IntKind.i64 (-1 : Int)], V.lst Tag.full [V.i IntKind.i64 (2 : Int), V.i IntKind.i64 (2 : Int), V.i IntKind.i64 (1 : Int), V.i IntKind.i64 (2 : Int)], V.lst Tag.full [V.lst Tag.full [], V.lst Tag.full [V.agg [V.i IntKind.i64 (0 : Int), V.i IntKind.i64 (1 : Int), V.lst Tag.full [V.i IntKind.i64 (60 : Int), V.i IntKind.i64 (20 : Int)]]], V.lst Tag.full [V.agg [V.i IntKind.i64 (0 : Int), V.i IntKind.i64 (1 : Int), V.lst Tag.full [V.i IntKind.i64 (60 : Int), V.i IntKind.i64 (20 : Int)]], V.agg [V.i IntKind.i64 (1 : Int), V.i IntKind.i64 (1 : Int), V.lst Tag.full [V.i IntKind.i64 (20 : Int), V.i IntKind.i64 (10 : Int)]]], V.lst Tag.full [V.agg [V.i IntKind.i64 (1 : Int), V.i IntKind.i64 (1 : Int), V.lst Tag.full [V.i IntKind.i64 (20 : Int), V.i IntKind.i64 (10 : Int)]], V.agg [V.i IntKind.i64 (0 : Int), V.i IntKind.i64 (1 : Int), V.lst Tag.full [V.i IntKind.i64 (60 : Int), V.i IntKind.i64 (20 : Int)]], V.agg [V.i IntKind.i64 (0 : Int), V.i IntKind.i64 (2 : Int), V.lst Tag.full [V.i IntKind.i64 (30 : Int), V.i IntKind.i64 (50 : Int)]], V.agg [V.i IntKind.i64 (0 : Int), V.i IntKind.i64 (1 : Int), V.lst Tag.full [V.i IntKind.i64 (60 : Int), V.i IntKind.i64 (20 : Int)]]]], V.i IntKind.i64 (4 : Int), V.i IntKind.i64 (2 : Int)], [some [V.i IntKind.i64 (2 : Int), V.lst Tag.full [V.i IntKind.i64 (100 : Int), V.i IntKind.i64 (50 : Int)]], some [V.i IntKind.i64 (0 : Int), V.i IntKind.i64 (1 : Int), V.lst Tag.full [V.i IntKind.i64 (60 : Int), V.i IntKind.i64 (20 : Int)]], some [V.i IntKind.i64 (1 : Int), V.i IntKind.i64 (1 : Int), V.lst Tag.full [V.i IntKind.i64 (20 : Int), V.i IntKind.i64 (10 : Int)]], some [V.i IntKind.i64 (0 : Int), V.i IntKind.i64 (2 : Int), V.lst Tag.full [V.i IntKind.i64 (30 : Int), V.i IntKind.i64 (50 : Int)]]], [], (230 : Nat), (0 : Nat), (0 : Nat)))) := by kernel_rfl
theorem q2 (u : Unit) : (pc 9 1 cfgW (lp 9 0) [1, 2, 3, 4, 5, 6, 7, 8, 60, 61, 62] [1, 2, 3, 4] (St.of 230 [1, 2, 3, 4, 5, 6, 7, 8, 60, 61, 62] [V.ptr (0 : Nat) (0 : Nat), V.ptr (1 : Nat) (0 : Nat), V.ptr (2 : Nat) (0 : Nat), V.ptr (3 : Nat) (0 : Nat), V.lst Tag.full [V.lst Tag.full [V.i IntKind.i64 (0 : Int), V.i IntKind.i64 (0 : Int)], V.lst Tag.full [V.i IntKind.i64 (60 : Int), V.i IntKind.i64 (20 : Int)], V.lst Tag.full [V.i IntKind.i64 (80 : Int), V.i IntKind.i64 (30 : Int)], V.lst Tag.full [V.i IntKind.i64 (50 : Int), V.i IntKind.i64 (60 : Int)]], V.lst Tag.full [V.i IntKind.i64 (150 : Int), V.i IntKind.i64 (70 : Int), V.i IntKind.i64 (40 : Int), V.i IntKind.i64 (40 : Int)], V.lst Tag.full [V.i IntKind.i64 (-1 : Int), V.i IntKind.i64 (-1 : Int), V.i IntKind.i64 (0 : Int), V.i IntKind.i64 (-1 : Int)], V.lst Tag.full [V.i IntKind.i64 (2 : Int), V.i IntKind.i64 (2 : Int), V.i IntKind.i64 (1 : Int), V.i IntKind.i64 (2 : Int)], V.lst Tag.full [V.lst Tag.full [], V.lst Tag.full [V.agg [V.i IntKind.i64 (0 : Int), V.i IntKind.i64 (1 : Int), V.lst Tag.full [V.i IntKind.i64 (60 : Int), V.i IntKind.i64 (20 : Int)]]], V.lst Tag.full [V.agg [V.i IntKind.i64 (0 : Int), V.i IntKind.i64 (1 : Int), V.lst Tag.full [V.i IntKind.i64 (60 : Int), V.i IntKind.i64 (20 : Int)]], V.agg [V.i IntKind.i64 (1 : Int), V.i IntKind.i64 (1 : Int), V.lst Tag.full [V.i IntKind.i64 (20 : Int), V.i IntKind.i64 (10 : Int)]]], V.lst Tag.full [V.agg [V.i IntKind.i64 (1 : Int), V.i IntKind.i64 (1 : Int), V.lst Tag.full [V.i IntKind.i64 (20 : Int), V.i IntKind.i64 (10 : Int)]], V.agg [V.i IntKind.i64 (0 : Int), V.i IntKind.i64 (1 : Int), V.lst Tag.full [V.i IntKind.i64 (60 : Int), V.i IntKind.i64 (20 : Int)]], V.agg [V.i IntKind.i64 (0 : Int), V.i IntKind.i64 (2 : Int), V.lst Tag.full [V.i IntKind.i64 (30 : Int), V.i IntKind.i64 (50 : Int)]], V.agg [V.i IntKind.i64 (0 : Int), V.i IntKind.i64 (1 : Int), V.lst Tag.full [V.i IntKind.i64 (60 : Int), V.i IntKind.i64 (20 : Int)]]]], V.i IntKind.i64 (4 : Int), V.i IntKind.i64 (2 : Int)] [some [V.i IntKind.i64 (2 : Int), V.lst Tag.full [V.i IntKind.i64 (100 : Int), V.i IntKind.i64 (50 : Int)]], some [V.i IntKind.i64 (0 : Int), V.i IntKind.i64 (1 : Int), V.lst Tag.full [V.i IntKind.i64 (60 : Int), V.i IntKind.i64 (20 : Int)]], some [V.i IntKind.i64 (1 : Int), V.i IntKind.i64 (1 : Int), V.lst Tag.full [V.i IntKind.i64 (20 : Int), V.i IntKind.i64 (10 : Int)]], some [V.i IntKind.i64 (0 : Int), V.i IntKind.i64 (2 : Int), V.lst Tag.full [V.i IntKind.i64 (30 : Int), V.i IntKind.i64 (50 : Int)]]] [])).run = (some ((Ex.normal, [V.ptr (0 : Nat) (0 : Nat), V.ptr (1 : Nat) (0 : Nat), V.ptr (2 : Nat) (0 : Nat), V.ptr (3 : Nat) (0 : Nat), V.lst Tag.full [V.lst Tag.full [V.i IntKind.i64 (0 : Int), V.i IntKind.i64 (0 : Int)], V.lst Tag.full [V.i IntKind.i64 (60 : Int), V.i IntKind.i64 (20 : Int)], V.lst Tag.full [V.i IntKind.i64 (80 : Int), V.i IntKind.i64 (30 : Int)], V.lst Tag.full [V.i IntKind.i64 (50 : Int), V.i IntKind.i64 (60 : Int)]], V.lst Tag.full [V.i IntKind.i64 (150 : Int), V.i IntKind.i64 (70 : Int), V.i IntKind.i64 (40 : Int), V.i IntKind.i64 (40 : Int)], V.lst Tag.full [V.i IntKind.i64 (-1 : Int), V.i IntKind.i64 (-1 : Int), V.i IntKind.i64 (0 : Int), V.i IntKind.i64 (-1 : Int)], V.lst Tag.full [V.i IntKind.i64 (2 : Int), V.i IntKind.i64 (2 : Int), V.i IntKind.i64 (1 : Int), V.i IntKind.i64 (2 : Int)], V.lst Tag.full [V.lst Tag.full [], V.lst Tag.full [V.agg [V.i IntKind.i64 (0 : Int), V.i IntKind.i64 (1 : Int), V.lst Tag.full [V.i IntKind.i64 (60 : Int), V.i IntKind.i64 (20 : Int)]]], V.lst Tag.full [V.agg [V.i IntKind.i64 (0 : Int), V.i IntKind.i64 (1 : Int), V.lst Tag.full [V.i IntKind.i64 (60 : Int), V.i IntKind.i64 (20 : Int)]], V.agg [V.i IntKind.i64 (1 : Int), V.i IntKind.i64 (1 : Int), V.lst Tag.full [V.i IntKind.i64 (20 : Int), V.i IntKind.i64 (10 : Int)]]], V.lst Tag.full [V.agg [V.i IntKind.i64 (1 : Int), V.i IntKind.i64 (1 : Int), V.lst Tag.full [V.i IntKind.i64 (20 : Int), V.i IntKind.i64 (10 : Int)]], V.agg [V.i IntKind.i64 (0 : Int), V.i IntKind.i64 (1 : Int), V.lst Tag.full [V.i IntKind.i64 (60 : Int), V.i IntKind.i64 (20 : Int)]], V.agg [V.i IntKind.i64 (0 : Int), V.i IntKind.i64 (2 : Int), V.lst Tag.full [V.i IntKind.i64 (30 : Int), V.i IntKind.i64 (50 : Int)]], V.agg [V.i IntKind.i64 (0 : Int), V.i IntKind.i64 (1 : Int), V.lst Tag.full [V.i IntKind.i64 (60 : Int), V.i IntKind.i64 (20 : Int)]]]], V.i IntKind.i64 (4 : Int), V.i IntKind.i64 (3 : Int)], [some [V.i IntKind.i64 (2 : Int), V.lst Tag.full [V.i IntKind.i64 (100 : Int), V.i IntKind.i64 (50 : Int)]], some [V.i IntKind.i64 (0 : Int), V.i IntKind.i64 (1 : Int), V.lst Tag.full [V.i IntKind.i64 (60 : Int), V.i IntKind.i64 (20 : Int)]], some [V.i IntKind.i64 (1 : Int), V.i IntKind.i64 (1 : Int), V.lst Tag.full [V.i IntKind.i64 (20 : Int), V.i IntKind.i64 (10 : Int)]], some [V.i IntKind.i64 (0 : Int), V.i IntKind.i64 (2 : Int), V.lst Tag.full [V.i IntKind.i64 (30 : Int), V.i IntKind.i64 (50 : Int)]]], [], (230 : Nat), (0 : Nat), (0 : Nat)))) := by kernel_rfl
theorem q3 (u : Unit) : (pc 9 1 cfgW (lp 9 0) [1, 2, 3, 4, 5, 6, 7, 8, 60, 61, 62] [1, 2, 3, 4] (St.of 230 [1, 2, 3, 4, 5, 6, 7, 8, 60, 61, 62] [V.ptr (0 : Nat) (0 : Nat), V.ptr (1 : Nat) (0 : Nat), V.ptr (2 : Nat) (0 : Nat), V.ptr (3 : Nat) (0 : Nat), V.lst Tag.full [V.lst Tag.full [V.i IntKind.i64 (0 : Int), V.i IntKind.i64 (0 : Int)], V.lst Tag.full [V.i IntKind.i64 (60 : Int), V.i IntKind.i64 (20 : Int)], V.lst Tag.full [V.i IntKind.i64 (80 : Int), V.i IntKind.i64 (30 : Int)], V.lst Tag.full [V.i IntKind.i64 (50 : Int), V.i IntKind.i64 (60 : Int)]], V.lst Tag.full [V.i IntKind.i64 (150 : Int), V.i IntKind.i64 (70 : Int), V.i IntKind.i64 (40 : Int), V.i IntKind.i64 (40 : Int)], V.lst Tag.full [V.i IntKind.i64 (-1 : Int), V.i IntKind.i64 (-1 : Int), V.i IntKind.i64 (0 : Int), V.i IntKind.i64 (-1 : Int)], V.lst Tag.full [V.i IntKind.i64 (2 : Int), V.i IntKind.i64 (2 : Int), V.i IntKind.i64 (1 : Int), V.i IntKind.i64 (2 : Int)], V.lst Tag.full [V.lst Tag.full [], V.lst Tag.full [V.agg [V.i IntKind.i64 (0 : Int), V.i IntKind.i64 (1 : Int), V.lst Tag.full [V.i IntKind.i64 (60 : Int), V.i IntKind.i64 (20 : Int)]]], V.lst Tag.full [V.agg [V.i IntKind.i64 (0 : Int), V.i IntKind.i64 (1 : Int), V.lst Tag.full [V.i IntKind.i64 (60 : Int), V.i IntKind.i64 (20 : Int)]], V.agg [V.i IntKind.i64 (1 : Int), V.i IntKind.i64 (1 : Int), V.lst Tag.full [V.i IntKind.i64 (20 : Int), V.i IntKind.i64 (10 : Int)]]], V.lst Tag.full [V.agg [V.i IntKind.i64 (1 : Int), V.i IntKind.i64 (1 : Int), V.lst Tag.full [V.i IntKind.i64 (20 : Int), V.i IntKind.i64 (10 : Int)]], V.agg [V.i IntKind.i64 (0 : Int), V.i IntKind.i64 (1 : Int), V.lst Tag.full [V.i IntKind.i64 (60 : Int), V.i IntKind.i64 (20 : Int)]], V.agg [V.i IntKind.i64 (0 : Int), V.i IntKind.i64 (2 : Int), V.lst Tag.full [V.i IntKind.i64 (30 : Int), V.i IntKind.i64 (50 : Int)]], V.agg [V.i IntKind.i64 (0 : Int), V.i IntKind.i64 (1 : Int), V.lst Tag.full [V.i IntKind.i64 (60 : Int), V.i IntKind.i64 (20 : Int)]]]], V.i IntKind.i64 (4 : Int), V.i IntKind.i64 (3 : Int)] [some [V.i IntKind.i64 (2 : Int), V.lst Tag.full [V.i IntKind.i64 (100 : Int), V.i IntKind.i64 (50 : Int)]], some [V.i IntKind.i64 (0 : Int), V.i IntKind.i64 (1 : Int), V.lst Tag.full [V.i IntKind.i64 (60 : Int), V.i IntKind.i64 (20 : Int)]], some [V.i IntKind.i64 (1 : Int), V.i IntKind.i64 (1 : Int), V.lst Tag.full [V.i IntKind.i64 (20 : Int), V.i IntKind.i64 (10 : Int)]], some [V.i IntKind.i64 (0 : Int), V.i IntKind.i64 (2 : Int), V.lst Tag.full [V.i IntKind.i64 (30 : Int), V.i IntKind.i64 (50 : Int)]]] [])).run = (some ((Ex.normal, [V.ptr (0 : Nat) (0 : Nat), V.ptr (1 : Nat) (0 : Nat), V.ptr (2 : Nat) (0 : Nat), V.ptr (3 : Nat) (0 : Nat), V.lst Tag.full [V.lst Tag.full [V.i IntKind.i64 (0 : Int), V.i IntKind.i64 (0 : Int)], V.lst Tag.full [V.i IntKind.i64 (60 : Int), V.i IntKind.i64 (20 : Int)], V.lst Tag.full [V.i IntKind.i64 (80 : Int), V.i IntKind.i64 (30 : Int)], V.lst Tag.full [V.i IntKind.i64 (50 : Int), V.i IntKind.i64 (60 : Int)]], V.lst Tag.full [V.i IntKind.i64 (150 : Int), V.i IntKind.i64 (70 : Int), V.i IntKind.i64 (40 : Int), V.i IntKind.i64 (40 : Int)], V.lst Tag.full [V.i IntKind.i64 (-1 : Int), V.i IntKind.i64 (-1 : Int), V.i IntKind.i64 (0 : Int), V.i IntKind.i64 (-1 : Int)], V.lst Tag.full [V.i IntKind.i64 (2 : Int), V.i IntKind.i64 (2 : Int), V.i IntKind.i64 (1 : Int), V.i IntKind.i64 (2 : Int)], V.lst Tag.full [V.lst Tag.full [], V.lst Tag.full [V.agg [V.i IntKind.i64 (0 : Int), V.i IntKind.i64 (1 : Int), V.lst Tag.full [V.i IntKind.i64 (60 : Int), V.i IntKind.i64 (20 : Int)]]], V.lst Tag.full [V.agg [V.i IntKind.i64 (0 : Int), V.i IntKind.i64 (1 : Int), V.lst Tag.full [V.i IntKind.i64 (60 : Int), V.i IntKind.i64 (20 : Int)]], V.agg [V.i IntKind.i64 (1 : Int), V.i IntKind.i64 (1 : Int), V.lst Tag.full [V.i IntKind.i64 (20 : Int), V.i IntKind.i64 (10 : Int)]]], V.lst Tag.full [V.agg [V.i IntKind.i64 (1 : Int), V.i IntKind.i64 (1 : Int), V.lst Tag.full [V.i IntKind.i64 (20 : Int), V.i IntKind.i64 (10 : Int)]], V.agg [V.i IntKind.i64 (0 : Int), V.i IntKind.i64 (1 : Int), V.lst Tag.full [V.i IntKind.i64 (60 : Int), V.i IntKind.i64 (20 : Int)]], V.agg [V.i IntKind.i64 (0 : Int), V.i IntKind.i64 (2 : Int), V.lst Tag.full [V.i IntKind.i64 (30 : Int), V.i IntKind.i64 (50 : Int)]], V.agg [V.i IntKind.i64 (0 : Int), V.i IntKind.i64 (1 : Int), V.lst Tag.full [V.i IntKind.i64 (60 : Int), V.i IntKind.i64 (20 : Int)]]]], V.i IntKind.i64 (4 : Int), V.i IntKind.i64 (4 : Int)], [some [V.i IntKind.i64 (2 : Int), V.lst Tag.full [V.i IntKind.i64 (100 : Int), V.i IntKind.i64 (50 : Int)]], some [V.i IntKind.i64 (0 : Int), V.i IntKind.i64 (1 : Int), V.lst Tag.full [V.i IntKind.i64 (60 : Int), V.i IntKind.i64 (20 : Int)]], some [V.i IntKind.i64 (1 : Int), V.i IntKind.i64 (1 : Int), V.lst Tag.full [V.i IntKind.i64 (20 : Int), V.i IntKind.i64 (10 : Int)]], some [V.i IntKind.i64 (0 : Int), V.i IntKind.i64 (2 : Int), V.lst Tag.full [V.i IntKind.i64 (30 : Int), V.i IntKind.i64 (50 : Int)]]], [], (230 : Nat), (0 : Nat), (0 : Nat)))) := by kernel_rfl
theorem q4 (u : Unit) : (pc 9 1 cfgW (lp 9 0) [1, 2, 3, 4, 5, 6, 7, 8, 60, 61, 62] [1, 2, 3, 4] (St.of 230 [1, 2, 3, 4, 5, 6, 7, 8, 60, 61, 62] [V.ptr (0 : Nat) (0 : Nat), V.ptr (1 : Nat) (0 : Nat), V.ptr (2 : Nat) (0 : Nat), V.ptr (3 : Nat) (0 : Nat), V.lst Tag.full [V.lst Tag.full [V.i IntKind.i64 (0 : Int), V.i IntKind.i64 (0 : Int)], V.lst Tag.full [V.i IntKind.i64 (60 : Int), V.i IntKind.i64 (20 : Int)], V.lst Tag.full [V.i IntKind.i64 (80 : Int), V.i IntKind.i64 (30 : Int)], V.lst Tag.full [V.i IntKind.i64 (50 : Int), V.i IntKind.i64 (60 : Int)]], V.lst Tag.full [V.i IntKind.i64 (150 : Int), V.i IntKind.i64 (70 : Int), V.i IntKind.i64 (40 : Int), V.i IntKind.i64 (40 : Int)], V.lst Tag.full [V.i IntKind.i64 (-1 : Int), V.i IntKind.i64 (-1 : Int), V.i IntKind.i64 (0 : Int), V.i IntKind.i64 (-1 : Int)], V.lst Tag.full [V.i IntKind.i64 (2 : Int), V.i IntKind.i64 (2 : Int), V.i IntKind.i64 (1 : Int), V.i IntKind.i64 (2 : Int)], V.lst Tag.full [V.lst Tag.full [], V.lst Tag.full [V.agg [V.i IntKind.i64 (0 : Int), V.i IntKind.i64 (1 : Int), V.lst Tag.full [V.i IntKind.i64 (60 : Int), V.i IntKind.i64 (20 : Int)]]], V.lst Tag.full [V.agg [V.i IntKind.i64 (0 : Int), V.i IntKind.i64 (1 : Int), V.lst Tag.full [V.i IntKind.i64 (60 : Int), V.i IntKind.i64 (20 : Int)]], V.agg [V.i IntKind.i64 (1 : Int), V.i IntKind.i64 (1 : Int), V.lst Tag.full [V.i IntKind.i64 (20 : Int), V.i IntKind.i64 (10 : Int)]]], V.lst Tag.full [V.agg [V.i IntKind.i64 (1 : Int), V.i IntKind.i64 (1 : Int), V.lst Tag.full [V.i IntKind.i64 (20 : Int), V.i IntKind.i64 (10 : Int)]], V.agg [V.i IntKind.i64 (0 : Int), V.i IntKind.i64 (1 : Int), V.lst Tag.full [V.i IntKind.i64 (60 : Int), V.i IntKind.i64 (20 : Int)]], V.agg [V.i IntKind.i64 (0 : Int), V.i IntKind.i64 (2 : Int), V.lst Tag.full [V.i IntKind.i64 (30 : Int), V.i IntKind.i64 (50 : Int)]], V.agg [V.i IntKind.i64 (0 : Int), V.i IntKind.i64 (1 : Int), V.lst Tag.full [V.i IntKind.i64 (60 : Int), V.i IntKind.i64 (20 : Int)]]]], V.i IntKind.i64 (4 : Int), V.i IntKind.i64 (4 : Int)] [some [V.i IntKind.i64 (2 : Int), V.lst Tag.full [V.i IntKind.i64 (100 : Int), V.i IntKind.i64 (50 : Int)]], some [V.i IntKind.i64 (0 : Int), V.i IntKind.i64 (1 : Int), V.lst Tag.full [V.i IntKind.i64 (60 : Int), V.i IntKind.i64 (20 : Int)]], some [V.i IntKind.i64 (1 : Int), V.i IntKind.i64 (1 : Int), V.lst Tag.full [V.i IntKind.i64 (20 : Int), V.i IntKind.i64 (10 : Int)]], some [V.i IntKind.i64 (0 : Int), V.i IntKind.i64 (2 : Int), V.lst Tag.full [V.i IntKind.i64 (30 : Int), V.i IntKind.i64 (50 : Int)]]] [])).run = (some ((Ex.exit (0 : Nat), [V.ptr (0 : Nat) (0 : Nat), V.ptr (1 : Nat) (0 : Nat), V.ptr (2 : Nat) (0 : Nat), V.ptr (3 : Nat) (0 : Nat)], [some [V.i IntKind.i64 (2 : Int), V.lst Tag.full [V.i IntKind.i64 (100 : Int), V.i IntKind.i64 (50 : Int)]], some [V.i IntKind.i64 (0 : Int), V.i IntKind.i64 (1 : Int), V.lst Tag.full [V.i IntKind.i64 (60 : Int), V.i IntKind.i64 (20 : Int)]], some [V.i IntKind.i64 (1 : Int), V.i IntKind.i64 (1 : Int), V.lst Tag.full [V.i IntKind.i64 (20 : Int), V.i IntKind.i64 (10 : Int)]], some [V.i IntKind.i64 (0 : Int), V.i IntKind.i64 (2 : Int), V.lst Tag.full [V.i IntKind.i64 (30 : Int), V.i IntKind.i64 (50 : Int)]]], [], (230 : Nat), (0 : Nat), (0 : Nat)))) := by kernel_rfl
theorem x0 (u : Unit) : (pc 9 0 cfgW (tR 0) [1, 3, 4, 20, 21] [0] (St.of 230 [1, 2, 3, 4] [V.ptr (0 : Nat) (0 : Nat), V.ptr (1 : Nat) (0 : Nat), V.ptr (2 : Nat) (0 : Nat), V.ptr (3 : Nat) (0 : Nat)] [some [V.i IntKind.i64 (2 : Int), V.lst Tag.full [V.i IntKind.i64 (100 : Int), V.i IntKind.i64 (50 : Int)]], some [V.i IntKind.i64 (0 : Int), V.i IntKind.i64 (1 : Int), V.lst Tag.full [V.i IntKind.i64 (60 : Int), V.i IntKind.i64 (20 : Int)]], some [V.i IntKind.i64 (1 : Int), V.i IntKind.i64 (1 : Int), V.lst Tag.full [V.i IntKind.i64 (20 : Int), V.i IntKind.i64 (10 : Int)]], some [V.i IntKind.i64 (0 : Int), V.i IntKind.i64 (2 : Int), V.lst Tag.full [V.i IntKind.i64 (30 : Int), V.i IntKind.i64 (50 : Int)]]] [])).run = (some ((Ex.normal, [V.ptr (0 : Nat) (0 : Nat), V.ptr (1 : Nat) (0 : Nat), V.ptr (2 : Nat) (0 : Nat), V.ptr (3 : Nat) (0 : Nat), V.sb true], [some [V.i IntKind.i64 (2 : Int), V.lst Tag.full [V.i IntKind.i64 (100 : Int), V.i IntKind.i64 (50 : Int)]], some [V.i IntKind.i64 (1 : Int), V.i IntKind.i64 (1 : Int), V.lst Tag.full [V.i IntKind.i64 (20 : Int), V.i IntKind.i64 (10 : Int)]], some [V.i IntKind.i64 (0 : Int), V.i IntKind.i64 (2 : Int), V.lst Tag.full [V.i IntKind.i64 (30 : Int), V.i IntKind.i64 (50 : Int)]], some [V.si IntKind.i64 (2 : Int), V.slst Tag.ro ity [(100 : Int), (50 : Int)], V.slst Tag.ro retT (canon [((0 : Int), (1 : Int), [(60 : Int), (20 : Int)], ())])]], [], (230 : Nat), (0 : Nat), (0 : Nat)))) := by kernel_rfl
theorem x1 (u : Unit) : (pc 9 0 cfgW (tR 1) [4, 20, 21, 22, 23] [0] (St.of 230 [1, 3, 4, 20, 21] [V.ptr (0 : Nat) (0 : Nat), V.ptr (1 : Nat) (0 : Nat), V.ptr (2 : Nat) (0 : Nat), V.ptr (3 : Nat) (0 : Nat), V.sb true] [some [V.i IntKind.i64 (2 : Int), V.lst Tag.full [V.i IntKind.i64 (100 : Int), V.i IntKind.i64 (50 : Int)]], some [V.i IntKind.i64 (1 : Int), V.i IntKind.i64 (1 : Int), V.lst Tag.full [V.i IntKind.i64 (20 : Int), V.i IntKind.i64 (10 : Int)]], some [V.i IntKind.i64 (0 : Int), V.i IntKind.i64 (2 : Int), V.lst Tag.full [V.i IntKind.i64 (30 : Int), V.i IntKind.i64 (50 : Int)]], some [V.si IntKind.i64 (2 : Int), V.slst Tag.ro ity [(100 : Int), (50 : Int)], V.slst Tag.ro retT (canon [((0 : Int), (1 : Int), [(60 : Int), (20 : Int)], ())])]] [])).run = (some ((Ex.normal, [V.ptr (0 : Nat) (0 : Nat), V.ptr (1 : Nat) (0 : Nat), V.sb true, V.ptr (2 : Nat) (0 : Nat), V.sb true], [some [V.i IntKind.i64 (0 : Int), V.i IntKind.i64 (2 : Int), V.lst Tag.full [V.i IntKind.i64 (30 : Int), V.i IntKind.i64 (50 : Int)]], some [V.si IntKind.i64 (2 : Int), V.slst Tag.ro ity [(100 : Int), (50 : Int)], V.slst Tag.ro retT (canon [((0 : Int), (1 : Int), [(60 : Int), (20 : Int)], ())])], some [V.si IntKind.i64 (2 : Int), V.slst Tag.ro ity [(100 : Int), (50 : Int)], V.slst Tag.ro retT (canon [((1 : Int), (1 : Int), [(20 : Int), (10 : Int)], ())])]], [], (230 : Nat), (0 : Nat), (0 : Nat)))) := by kernel_rfl
theorem x2 (u : Unit) : (pc 9 0 cfgW (tR 2) [4, 20, 21, 23, 24, 25] [0] (St.of 230 [4, 20, 21, 22, 23] [V.ptr (0 : Nat) (0 : Nat), V.ptr (1 : Nat) (0 : Nat), V.sb true, V.ptr (2 : Nat) (0 : Nat), V.sb true] [some [V.i IntKind.i64 (0 : Int), V.i IntKind.i64 (2 : Int), V.lst Tag.full [V.i IntKind.i64 (30 : Int), V.i IntKind.i64 (50 : Int)]], some [V.si IntKind.i64 (2 : Int), V.slst Tag.ro ity [(100 : Int), (50 : Int)], V.slst Tag.ro retT (canon [((0 : Int), (1 : Int), [(60 : Int), (20 : Int)], ())])], some [V.si IntKind.i64 (2 : Int), V.slst Tag.ro ity [(100 : Int), (50 : Int)], V.slst Tag.ro retT (canon [((1 : Int), (1 : Int), [(20 : Int), (10 : Int)], ())])]] [])).run = (some ((Ex.normal, [V.ptr (0 : Nat) (0 : Nat), V.ptr (1 : Nat) (0 : Nat), V.sb true, V.sb true, V.ptr (2 : Nat) (0 : Nat), V.si IntKind.i64 (0 : Int)], [some [V.i IntKind.i64 (0 : Int), V.i IntKind.i64 (2 : Int), V.lst Tag.full [V.i IntKind.i64 (30 : Int), V.i IntKind.i64 (50 : Int)]], some [V.si IntKind.i64 (2 : Int), V.slst Tag.ro ity [(100 : Int), (50 : Int)], V.slst Tag.ro retT (canon [((0 : Int), (1 : Int), [(60 : Int), (20 : Int)], ())])], some [V.si IntKind.i64 (2 : Int), V.slst Tag.ro ity (bif true then [(100 : Int), (50 : Int)] else []), V.slst Tag.ro retT (bif true then joinD (canon [((0 : Int), (1 : Int), [(60 : Int), (20 : Int)], ())]) (canon [((1 : Int), (1 : Int), [(20 : Int), (10 : Int)], ())]) else [])]], [], (230 : Nat), (0 : Nat), (0 : Nat)))) := by kernel_rfl
theorem x3 (u : Unit) : (pc 9 0 cfgW (tR 3) [4, 20, 21, 23, 24, 25, 26, 27] [0] (St.of 230 [4, 20, 21, 23, 24, 25] [V.ptr (0 : Nat) (0 : Nat), V.ptr (1 : Nat) (0 : Nat), V.sb true, V.sb true, V.ptr (2 : Nat) (0 : Nat), V.si IntKind.i64 (0 : Int)] [some [V.i IntKind.i64 (0 : Int), V.i IntKind.i64 (2 : Int), V.lst Tag.full [V.i IntKind.i64 (30 : Int), V.i IntKind.i64 (50 : Int)]], some [V.si IntKind.i64 (2 : Int), V.slst Tag.ro ity [(100 : Int), (50 : Int)], V.slst Tag.ro retT (canon [((0 : Int), (1 : Int), [(60 : Int), (20 : Int)], ())])], some [V.si IntKind.i64 (2 : Int), V.slst Tag.ro ity (bif true then [(100 : Int), (50 : Int)] else []), V.slst Tag.ro retT (bif true then joinD (canon [((0 : Int), (1 : Int), [(60 : Int), (20 : Int)], ())]) (canon [((1 : Int), (1 : Int), [(20 : Int), (10 : Int)], ())]) else [])]] [])).run = (some ((Ex.normal, [V.ptr (0 : Nat) (0 : Nat), V.ptr (1 : Nat) (0 : Nat), V.sb true, V.sb true, V.ptr (2 : Nat) (0 : Nat), V.si IntKind.i64 (0 : Int), V.ss (bif false then (ByteArray.mk #[]) else strOfNums (List.take (5 : Nat) (List.drop (0) (List.take (4 : Nat) (List.drop (0) (List.take (3 : Nat) (List.drop (0) (List.take (2 : Nat) (List.drop (0) (List.take (1 : Nat) (List.drop (0) (bytesOf (strOfNums [(0 : Int)]))) ++ bytesOf (strOfNums [(4 : Int)]))) ++ bytesOf (strOfNums [(4 : Int)]))) ++ bytesOf (strOfNums [(60 : Int)]))) ++ bytesOf (strOfNums [(100 : Int)]))))), V.si IntKind.i64 (0 : Int)], [some [V.i IntKind.i64 (0 : Int), V.i IntKind.i64 (2 : Int), V.lst Tag.full [V.i IntKind.i64 (30 : Int), V.i IntKind.i64 (50 : Int)]], some [V.si IntKind.i64 (2 : Int), V.slst Tag.ro ity [(100 : Int), (50 : Int)], V.slst Tag.ro retT (canon [((0 : Int), (1 : Int), [(60 : Int), (20 : Int)], ())])], some [V.si IntKind.i64 (2 : Int), V.slst Tag.ro ity (bif true then [(100 : Int), (50 : Int)] else []), V.slst Tag.ro retT (bif true then joinD (canon [((0 : Int), (1 : Int), [(60 : Int), (20 : Int)], ())]) (canon [((1 : Int), (1 : Int), [(20 : Int), (10 : Int)], ())]) else [])]], [], (230 : Nat), (0 : Nat), (0 : Nat)))) := by kernel_rfl
theorem x4 (u : Unit) : (pc 9 0 cfgW (tR 4) [4, 20, 21, 23, 24, 25, 26, 27, 28, 29, 30] [0] (St.of 230 [4, 20, 21, 23, 24, 25, 26, 27] [V.ptr (0 : Nat) (0 : Nat), V.ptr (1 : Nat) (0 : Nat), V.sb true, V.sb true, V.ptr (2 : Nat) (0 : Nat), V.si IntKind.i64 (0 : Int), V.s s5, V.si IntKind.i64 (0 : Int)] [some [V.i IntKind.i64 (0 : Int), V.i IntKind.i64 (2 : Int), V.lst Tag.full [V.i IntKind.i64 (30 : Int), V.i IntKind.i64 (50 : Int)]], some [V.si IntKind.i64 (2 : Int), V.slst Tag.ro ity [(100 : Int), (50 : Int)], V.slst Tag.ro retT (canon [((0 : Int), (1 : Int), [(60 : Int), (20 : Int)], ())])], some [V.si IntKind.i64 (2 : Int), V.slst Tag.ro ity (bif true then [(100 : Int), (50 : Int)] else []), V.slst Tag.ro retT (bif true then joinD (canon [((0 : Int), (1 : Int), [(60 : Int), (20 : Int)], ())]) (canon [((1 : Int), (1 : Int), [(20 : Int), (10 : Int)], ())]) else [])]] [])).run = (some ((Ex.normal, [V.ptr (0 : Nat) (0 : Nat), V.ptr (1 : Nat) (0 : Nat), V.sb true, V.sb true, V.ptr (2 : Nat) (0 : Nat), V.si IntKind.i64 (0 : Int), V.s s5, V.si IntKind.i64 (0 : Int), V.ptr (3 : Nat) (0 : Nat), V.i IntKind.i64 (6 : Int), V.i IntKind.i64 (0 : Int)], [some [V.i IntKind.i64 (0 : Int), V.i IntKind.i64 (2 : Int), V.lst Tag.full [V.i IntKind.i64 (30 : Int), V.i IntKind.i64 (50 : Int)]], some [V.si IntKind.i64 (2 : Int), V.slst Tag.ro ity [(100 : Int), (50 : Int)], V.slst Tag.ro retT (canon [((0 : Int), (1 : Int), [(60 : Int), (20 : Int)], ())])], some [V.si IntKind.i64 (2 : Int), V.slst Tag.ro ity (bif true then [(100 : Int), (50 : Int)] else []), V.slst Tag.ro retT (bif true then joinD (canon [((0 : Int), (1 : Int), [(60 : Int), (20 : Int)], ())]) (canon [((1 : Int), (1 : Int), [(20 : Int), (10 : Int)], ())]) else [])], some [V.i IntKind.i64 (0 : Int), V.i IntKind.i64 (2 : Int), V.slst Tag.ro ity [(30 : Int), (50 : Int)]]], [], (230 : Nat), (0 : Nat), (0 : Nat)))) := by kernel_rfl
theorem x5 (u : Unit) : (pc 9 0 cfgW (tR 5) [4, 20, 21, 23, 24, 25, 26, 27, 28, 29, 30, 32] [0] (St.of 230 [4, 20, 21, 23, 24, 25, 26, 27, 28, 29, 30] [V.ptr (0 : Nat) (0 : Nat), V.ptr (1 : Nat) (0 : Nat), V.sb true, V.sb true, V.ptr (2 : Nat) (0 : Nat), V.si IntKind.i64 (0 : Int), V.s s5, V.si IntKind.i64 (0 : Int), V.ptr (3 : Nat) (0 : Nat), V.i IntKind.i64 (6 : Int), V.i IntKind.i64 (0 : Int)] [some [V.i IntKind.i64 (0 : Int), V.i IntKind.i64 (2 : Int), V.lst Tag.full [V.i IntKind.i64 (30 : Int), V.i IntKind.i64 (50 : Int)]], some [V.si IntKind.i64 (2 : Int), V.slst Tag.ro ity [(100 : Int), (50 : Int)], V.slst Tag.ro retT (canon [((0 : Int), (1 : Int), [(60 : Int), (20 : Int)], ())])], some [V.si IntKind.i64 (2 : Int), V.slst Tag.ro ity (bif true then [(100 : Int), (50 : Int)] else []), V.slst Tag.ro retT (bif true then joinD (canon [((0 : Int), (1 : Int), [(60 : Int), (20 : Int)], ())]) (canon [((1 : Int), (1 : Int), [(20 : Int), (10 : Int)], ())]) else [])], some [V.i IntKind.i64 (0 : Int), V.i IntKind.i64 (2 : Int), V.slst Tag.ro ity [(30 : Int), (50 : Int)]]] [])).run = (some ((Ex.normal, [V.ptr (0 : Nat) (0 : Nat), V.ptr (1 : Nat) (0 : Nat), V.sb true, V.sb true, V.ptr (2 : Nat) (0 : Nat), V.si IntKind.i64 (0 : Int), V.s s5, V.si IntKind.i64 (0 : Int), V.ptr (3 : Nat) (0 : Nat), V.i IntKind.i64 (6 : Int), V.i IntKind.i64 (0 : Int), V.si IntKind.i64 (270 : Int)], [some [V.i IntKind.i64 (0 : Int), V.i IntKind.i64 (2 : Int), V.lst Tag.full [V.i IntKind.i64 (30 : Int), V.i IntKind.i64 (50 : Int)]], some [V.si IntKind.i64 (2 : Int), V.slst Tag.ro ity [(100 : Int), (50 : Int)], V.slst Tag.ro retT (canon [((0 : Int), (1 : Int), [(60 : Int), (20 : Int)], ())])], some [V.si IntKind.i64 (2 : Int), V.slst Tag.ro ity (bif true then [(100 : Int), (50 : Int)] else []), V.slst Tag.ro retT (bif true then joinD (canon [((0 : Int), (1 : Int), [(60 : Int), (20 : Int)], ())]) (canon [((1 : Int), (1 : Int), [(20 : Int), (10 : Int)], ())]) else [])], some [V.i IntKind.i64 (0 : Int), V.i IntKind.i64 (2 : Int), V.slst Tag.ro ity [(30 : Int), (50 : Int)]]], [], (230 : Nat), (0 : Nat), (0 : Nat)))) := by kernel_rfl
theorem x6 (u : Unit) : (pc 9 0 cfgW (tlN 6 tl) [] [0] (St.of 230 [4, 20, 21, 23, 24, 25, 26, 27, 28, 29, 30, 32] [V.ptr (0 : Nat) (0 : Nat), V.ptr (1 : Nat) (0 : Nat), V.sb true, V.sb true, V.ptr (2 : Nat) (0 : Nat), V.si IntKind.i64 (0 : Int), V.s s5, V.si IntKind.i64 (0 : Int), V.ptr (3 : Nat) (0 : Nat), V.i IntKind.i64 (6 : Int), V.i IntKind.i64 (0 : Int), V.si IntKind.i64 (270 : Int)] [some [V.i IntKind.i64 (0 : Int), V.i IntKind.i64 (2 : Int), V.lst Tag.full [V.i IntKind.i64 (30 : Int), V.i IntKind.i64 (50 : Int)]], some [V.si IntKind.i64 (2 : Int), V.slst Tag.ro ity [(100 : Int), (50 : Int)], V.slst Tag.ro retT (canon [((0 : Int), (1 : Int), [(60 : Int), (20 : Int)], ())])], some [V.si IntKind.i64 (2 : Int), V.slst Tag.ro ity (bif true then [(100 : Int), (50 : Int)] else []), V.slst Tag.ro retT (bif true then joinD (canon [((0 : Int), (1 : Int), [(60 : Int), (20 : Int)], ())]) (canon [((1 : Int), (1 : Int), [(20 : Int), (10 : Int)], ())]) else [])], some [V.i IntKind.i64 (0 : Int), V.i IntKind.i64 (2 : Int), V.slst Tag.ro ity [(30 : Int), (50 : Int)]]] [])).run = (some ((Ex.ret, [V.sb true], [], [], (230 : Nat), (0 : Nat), (0 : Nat)))) := by kernel_rfl
theorem bd9 : Try.f9.body = some (root 9) := by kernel_rfl
theorem li9 : Lies (root 9) 1 (lp 9 0) := Lies.of_take (n := 0) (by kernel_rfl)
theorem str_eq : (bif false then (ByteArray.mk #[]) else strOfNums (List.take (5 : Nat) (List.drop (0) (List.take (4 : Nat) (List.drop (0) (List.take (3 : Nat) (List.drop (0) (List.take (2 : Nat) (List.drop (0) (List.take (1 : Nat) (List.drop (0) (bytesOf (strOfNums [(0 : Int)]))) ++ bytesOf (strOfNums [(4 : Int)]))) ++ bytesOf (strOfNums [(4 : Int)]))) ++ bytesOf (strOfNums [(60 : Int)]))) ++ bytesOf (strOfNums [(100 : Int)]))))) = s5 := by decide +kernel
theorem sane_ok : SemF Try.prog Γ 9 [] [] [] (.sb true) [] [] := by
 have k0 := pc_ok cfgW_ok Try.func9 bd9 (lies0 (by kernel_rfl)) (h0 ())
 have k1 := pc_ok cfgW_ok Try.func9 bd9 (lies0 (by kernel_rfl)) (h1 ())
 have k2 := pc_ok cfgW_ok Try.func9 bd9 (lies0 (by kernel_rfl)) (h2 ())
 have k3 := pc_ok cfgW_ok Try.func9 bd9 (lies0 (by kernel_rfl)) (h3 ())
 have k4 := pc_ok cfgW_ok Try.func9 bd9 (lies0 (by kernel_rfl)) (h4 ())
 have k5 := pc_ok cfgW_ok Try.func9 bd9 (lies0 (by kernel_rfl)) (h5 ())
 have k6 := pc_ok cfgW_ok Try.func9 bd9 (lies0 (by kernel_rfl)) (h6 ())
 have k7 := pc_ok cfgW_ok Try.func9 bd9 (lies0 (by kernel_rfl)) (h7 ())
 have k8 := pc_ok cfgW_ok Try.func9 bd9 (lies0 (by kernel_rfl)) (h8 ())
 have k9 := pc_ok cfgW_ok Try.func9 bd9 (lies0 (by kernel_rfl)) (h9 ())
 have r0 := pc_ok cfgW_ok Try.func9 bd9 li9 (q0 ())
 have r1 := pc_ok cfgW_ok Try.func9 bd9 li9 (q1 ())
 have r2 := pc_ok cfgW_ok Try.func9 bd9 li9 (q2 ())
 have r3 := pc_ok cfgW_ok Try.func9 bd9 li9 (q3 ())
 have r4 := pc_ok cfgW_ok Try.func9 bd9 li9 (q4 ())
 have y0 := pc_ok cfgW_ok Try.func9 bd9 (lies0 (by kernel_rfl)) (x0 ())
 have y1 := pc_ok cfgW_ok Try.func9 bd9 (lies0 (by kernel_rfl)) (x1 ())
 have y2 := pc_ok cfgW_ok Try.func9 bd9 (lies0 (by kernel_rfl)) (x2 ())
 have y3 := (pc_ok cfgW_ok Try.func9 bd9 (lies0 (by kernel_rfl)) (x3 ())).post (y' := St.of 230 [4, 20, 21, 23, 24, 25, 26, 27] [V.ptr (0 : Nat) (0 : Nat), V.ptr (1 : Nat) (0 : Nat), V.sb true, V.sb true, V.ptr (2 : Nat) (0 : Nat), V.si IntKind.i64 (0 : Int), V.s s5, V.si IntKind.i64 (0 : Int)] _ _ 0 0) (St.of_imps rfl fun G j v v' h1 h2 cv hr => by
  match j with
  | 0 => cases h1; cases h2; exact hr
  | 1 => cases h1; cases h2; exact hr
  | 2 => cases h1; cases h2; exact hr
  | 3 => cases h1; cases h2; exact hr
  | 4 => cases h1; cases h2; exact hr
  | 5 => cases h1; cases h2; exact hr
  | 6 => cases h1; cases h2; rw [str_eq] at hr; cases hr; exact .s _
  | 7 => cases h1; cases h2; exact hr
  | j + 8 => cases h1)
 have y4 := pc_ok cfgW_ok Try.func9 bd9 (lies0 (by kernel_rfl)) (x4 ())
 have y5 := pc_ok cfgW_ok Try.func9 bd9 (lies0 (by kernel_rfl)) (x5 ())
 have y6 := pc_ok cfgW_ok Try.func9 bd9 (lies0 (by kernel_rfl)) (x6 ())
 have hL := SemL.next r0 (SemL.next r1 (SemL.next r2 (SemL.next r3 (SemL.out (fun h => by cases h) r4))))
 have hT := SemC.seq y0 (SemC.seq y1 (SemC.seq y2 (SemC.seq y3 (SemC.seq y4 (SemC.seq y5 y6)))))
 rw [← tl_eq] at hT
 have hc := SemC.seq k0 (SemC.seq k1 (SemC.seq k2 (SemC.seq k3 (SemC.seq k4 (SemC.seq k5 (SemC.seq k6 (SemC.seq k7 (SemC.seq k8 (SemC.seq (SemC.seq k9 (SemC.block_exit (SemC.loop hL))) hT)))))))))
 rw [← root9] at hc
 exact SemF.of_body Try.func9 bd9 (.inl rfl) hc (by kernel_rfl)
end T
end Go.Proofs.Ytofbchcclkejgaa

/- Package tally: TallyTotals: loops. -/
set_option linter.unusedVariables false
set_option linter.unusedSimpArgs false
set_option maxRecDepth 100000
set_option maxHeartbeats 4000000
namespace Go.Proofs.Ytofbchcclkejgaa
open Go
namespace T
theorem sane_lit : SemF Try.prog Γ 9 [] [] [] (.b true) [] [] := sane_ok.weaken (fun G cv h => by cases h; exact .b _)
noncomputable def gg_oS9  : Option Bool × V := (none, .b true)
noncomputable def oS9 : Orc := fun f args => if f = 9 then (Ty.ofVs [] args).map (fun x => gg_oS9 ) else o11 f args
theorem oS9_ok : OrcOk Try.prog Γ oS9 := o11_ok.plain 9 [] (fun x => gg_oS9 ) Try.f9 Try.func9 rfl (by kernel_rfl) (fun x h => sane_lit )
noncomputable def cfg28 : Cfg := cfgQ oS9 lo23
theorem cfg28_ok : CfgOk Try.prog Γ cfg28 := cfgQ_ok oS9_ok lo23_ok
def hp_tv : HP := { n := 192, lv := [7, 8, 9, 10, 11, 12], sp := [.ptr 0 0, .ptr 1 0, .ty ity, .ptr 2 0, .bz 0, .ty ity], op := [.cells [.ty ity, .ty (.slice ity), .ty (.slice retT)], .cells [.ty ity, .ty (.slice ity), .bz 1], .cells [.ty ity, .ty ity, .ty (.slice ity)]], bp := [.arr ity, .arr retT], bv := [(4, ity)] }
def lve_tv : Ex → List Nat
 | .normal => [7, 8, 9, 10, 11, 12]
 | .exit 2 => [7, 8, 9, 10, 11]
 | _ => []
theorem bd_tv : Try.f7.body = some (root 7) := by kernel_rfl
theorem le_tv : (loops (root 7))[1]? = some (lp 7 1) := by kernel_rfl
theorem li_tv : Lies (root 7) 2 (lp 7 1) := Lies.of_take (n := 0) (by kernel_rfl)
def st_tv (c : Int) (ds : List Int) (rs : List (Ty.den retT)) (c2 : Int) (ds2 : List Int) (j : Nat) (i d n : Int) (v : List Int) (j2 : Nat) (k : Int) (b : List Int) (o : List (Ty.den retT)) : St := hp_tv.st ⟨((), (), i, (), j2, k, ()), ((c, ds, rs, ()), (c2, ds2, j, ()), (d, n, v, ()), ()), (b, o, ())⟩
noncomputable def rn_tv (c : Int) (ds : List Int) (rs : List (Ty.den retT)) (c2 : Int) (ds2 : List Int) (j : Nat) (i d n : Int) (v : List Int) (j2 : Nat) (k : Int) (b : List Int) (o : List (Ty.den retT)) := outa lve_tv (evCK Try.prog Γ (cfM Try.prog Γ cfg28 30) (cfg28.lo 7) [] 60 2 (lp 7 1) (st_tv c ds rs c2 ds2 j i d n v j2 k b o))
theorem rn_tv_eq (c : Int) (ds : List Int) (rs : List (Ty.den retT)) (c2 : Int) (ds2 : List Int) (j : Nat) (i d n : Int) (v : List Int) (j2 : Nat) (k : Int) (b : List Int) (o : List (Ty.den retT)) : (rn_tv c ds rs c2 ds2 j i d n v j2 k b o).run = (bif decide (k ≥ (0 : Int)) then (bif decide ((0 : Int) ≤ k ∧ k < (v.length : Int)) then (bif decide ((j2 + 1) * 2 * 8 ≤ 281474976710656) then (some ((Ex.normal, [V.ptr 0 0, V.ptr 1 0, V.si .i64 i, V.ptr 2 0, V.bs true 0 0 (j2 + (1 : Nat)), V.si .i64 (IntKind.i64.wrap (k - (1 : Int)))], [some [V.si .i64 c, V.slst .ro ity ds, V.slst .ro retT rs], some [V.si .i64 c2, V.slst .ro ity ds2, V.bs true 1 0 j], some [V.si .i64 d, V.si .i64 n, V.slst .ro ity v]], [some (Bf.live (.arr ity (List.take j2 (List.drop (0) b) ++ [v.getD k.toNat (0 : Int)]))), some (Bf.live (.arr retT o))], 192, 0, 0))) else none) else none) else (some ((Ex.exit 2, [V.ptr 0 0, V.ptr 1 0, V.si .i64 i, V.ptr 2 0, V.bs true 0 0 j2], [some [V.si .i64 c, V.slst .ro ity ds, V.slst .ro retT rs], some [V.si .i64 c2, V.slst .ro ity ds2, V.bs true 1 0 j], some [V.si .i64 d, V.si .i64 n, V.slst .ro ity v]], [some (Bf.live (.arr ity b)), some (Bf.live (.arr retT o))], 192, 0, 0)))) := by kernel_rfl
theorem rn_tv_c (c : Int) (ds : List Int) (rs : List (Ty.den retT)) (c2 : Int) (ds2 : List Int) (j : Nat) (i d n : Int) (v : List Int) (j2 : Nat) (k : Int) (b : List Int) (o : List (Ty.den retT)) {e : Ex} {vs : List V} {ob : Ob} {nm : Nm} {n' kh kt : Nat} (h : (rn_tv c ds rs c2 ds2 j i d n v j2 k b o).run = some (e, vs, ob, nm, n', kh, kt)) : SemC Try.prog Γ (lp 7 1) (st_tv c ds rs c2 ds2 j i d n v j2 k b o) e.to (St.of n' (lve_tv e) vs ob nm kh kt) := SemC.of_evM cfg28_ok Try.func7 bd_tv li_tv h
def hp_tt : HP := { n := 192, lv := [7, 13, 16, 19, 21, 23, 24], sp := [.ptr 0 0, .ty (.slice ity), .ty (.slice ity), .ty ity, .ty ity, .ty ity, .ty ity], op := [.cells [.ty ity, .ty (.slice ity), .ty (.slice retT)]], bp := [] }
def lve_tt : Ex → List Nat
 | .normal => [7, 13, 16, 19, 21, 23, 24]
 | .ret => [6]
 | .exit 4 => [7, 13, 19, 21, 23]
 | _ => []
theorem bd_tt : Try.f7.body = some (root 7) := by kernel_rfl
theorem le_tt : (loops (root 7))[2]? = some (lp 7 2) := by kernel_rfl
theorem li_tt : Lies (root 7) 3 (lp 7 2) := Lies.of_take (n := 0) (by kernel_rfl)
def st_tt (c : Int) (ds : List Int) (rs : List (Ty.den retT)) (n m : List Int) (s u a i : Int) : St := hp_tt.st ⟨((), n, m, s, u, a, i, ()), ((c, ds, rs, ()), ()), ()⟩
noncomputable def rn_tt (c : Int) (ds : List Int) (rs : List (Ty.den retT)) (n m : List Int) (s u a i : Int) := outa lve_tt (evCK Try.prog Γ (cfM Try.prog Γ cfg28 30) (cfg28.lo 7) [] 60 3 (lp 7 2) (st_tt c ds rs n m s u a i))
theorem rn_tt_eq (c : Int) (ds : List Int) (rs : List (Ty.den retT)) (n m : List Int) (s u a i : Int) : (rn_tt c ds rs n m s u a i).run = (bif decide (i < (n.length : Int)) then (bif decide ((0 : Int) ≤ i ∧ i < (n.length : Int)) then (bif decide ((0 : Int) ≤ i ∧ i < (n.length : Int)) then (bif decide ((0 : Int) ≤ IntKind.i64.wrap (IntKind.i64.wrap ((n.length : Int) - (1 : Int)) - i) ∧ IntKind.i64.wrap (IntKind.i64.wrap ((n.length : Int) - (1 : Int)) - i) < (m.length : Int)) then (bif n.getD i.toNat (0 : Int) != m.getD (IntKind.i64.wrap (IntKind.i64.wrap ((n.length : Int) - (1 : Int)) - i)).toNat (0 : Int) then (some ((Ex.ret, [V.b false], [], [], 192, 0, 0))) else (some ((Ex.normal, [V.ptr 0 0, V.slst .ro ity n, V.slst .ro ity m, V.si .i64 s, V.si .i64 u, V.si .i64 (IntKind.i64.wrap (a + n.getD i.toNat (0 : Int))), V.si .i64 (IntKind.i64.wrap (i + (1 : Int)))], [some [V.si .i64 c, V.slst .ro ity ds, V.slst .ro retT rs]], [], 192, 0, 0)))) else none) else none) else none) else (some ((Ex.exit 4, [V.ptr 0 0, V.slst .ro ity n, V.si .i64 s, V.si .i64 u, V.si .i64 a], [some [V.si .i64 c, V.slst .ro ity ds, V.slst .ro retT rs]], [], 192, 0, 0)))) := by kernel_rfl
theorem rn_tt_c (c : Int) (ds : List Int) (rs : List (Ty.den retT)) (n m : List Int) (s u a i : Int) {e : Ex} {vs : List V} {ob : Ob} {nm : Nm} {n' kh kt : Nat} (h : (rn_tt c ds rs n m s u a i).run = some (e, vs, ob, nm, n', kh, kt)) : SemC Try.prog Γ (lp 7 2) (st_tt c ds rs n m s u a i) e.to (St.of n' (lve_tt e) vs ob nm kh kt) := SemC.of_evM cfg28_ok Try.func7 bd_tt li_tt h
def hp_td : HP := { n := 192, lv := [7, 13, 19, 21, 23, 25], sp := [.ptr 0 0, .ty (.slice ity), .ty ity, .ty ity, .ty ity, .ty ity], op := [.cells [.ty ity, .ty (.slice ity), .ty (.slice retT)]], bp := [] }
def lve_td : Ex → List Nat
 | .normal => [7, 13, 19, 21, 23, 25]
 | .exit 6 => [13, 19, 21, 23]
 | _ => []
theorem bd_td : Try.f7.body = some (root 7) := by kernel_rfl
theorem le_td : (loops (root 7))[3]? = some (lp 7 3) := by kernel_rfl
theorem li_td : Lies (root 7) 4 (lp 7 3) := Lies.of_take (n := 0) (by kernel_rfl)
def st_td (c : Int) (ds : List Int) (rs : List (Ty.den retT)) (n : List Int) (s u a i : Int) : St := hp_td.st ⟨((), n, s, u, a, i, ()), ((c, ds, rs, ()), ()), ()⟩
noncomputable def rn_td (c : Int) (ds : List Int) (rs : List (Ty.den retT)) (n : List Int) (s u a i : Int) := outa lve_td (evCK Try.prog Γ (cfM Try.prog Γ cfg28 30) (cfg28.lo 7) [] 60 4 (lp 7 3) (st_td c ds rs n s u a i))
theorem rn_td_eq (c : Int) (ds : List Int) (rs : List (Ty.den retT)) (n : List Int) (s u a i : Int) : (rn_td c ds rs n s u a i).run = (bif decide (i < (ds.length : Int)) then (bif decide ((0 : Int) ≤ i ∧ i < (ds.length : Int)) then (some ((Ex.normal, [V.ptr 0 0, V.slst .ro ity n, V.si .i64 s, V.si .i64 u, V.si .i64 (IntKind.i64.wrap (a - ds.getD i.toNat (0 : Int))), V.si .i64 (IntKind.i64.wrap (i + (1 : Int)))], [some [V.si .i64 c, V.slst .ro ity ds, V.slst .ro retT rs]], [], 192, 0, 0))) else none) else (some ((Ex.exit 6, [V.slst .ro ity n, V.si .i64 s, V.si .i64 u, V.si .i64 a], [], [], 192, 0, 0)))) := by kernel_rfl
theorem rn_td_c (c : Int) (ds : List Int) (rs : List (Ty.den retT)) (n : List Int) (s u a i : Int) {e : Ex} {vs : List V} {ob : Ob} {nm : Nm} {n' kh kt : Nat} (h : (rn_td c ds rs n s u a i).run = some (e, vs, ob, nm, n', kh, kt)) : SemC Try.prog Γ (lp 7 3) (st_td c ds rs n s u a i) e.to (St.of n' (lve_td e) vs ob nm kh kt) := SemC.of_evM cfg28_ok Try.func7 bd_td li_td h
theorem rev_next {v : List Int} {j : Nat} (h : j < v.length) : v.reverse.take (j + 1) = v.reverse.take j ++ [v.getD (v.length - 1 - j) 0] := by
 have hr : j < v.reverse.length := by rw [List.length_reverse]; exact h
 rw [take_snoc 0 hr]
 congr 2
 simp only [List.getD_eq_getElem?_getD]
 rw [List.getElem?_reverse h]
abbrev pre_tv0 (v : List Int) (j2 : Nat) (k : Int) (b : List Int) : Prop := j2 = 0 ∧ b = [] ∧ k = (v.length : Int) - 1 ∧ v.length ≤ 1000
abbrev pre_tv (c : Int) (ds : List Int) (rs : List (Ty.den retT)) (c2 : Int) (ds2 : List Int) (j : Nat) (i d n : Int) (v : List Int) (j2 : Nat) (k : Int) (b : List Int) (o : List (Ty.den retT)) : Prop := pre_tv0 v j2 k b
def rs_tv (c : Int) (ds : List Int) (rs : List (Ty.den retT)) (c2 : Int) (ds2 : List Int) (j : Nat) (i d n : Int) (v : List Int) (j2 : Nat) (k : Int) (b : List Int) (o : List (Ty.den retT)) : Ex × St := (.exit 2, St.of 192 (lve_tv (.exit 2)) [.ptr 0 0, .ptr 1 0, .si .i64 i, .ptr 2 0, .bs true 0 0 v.length] [some [.si .i64 c, .slst .ro ity ds, .slst .ro retT rs], some [.si .i64 c2, .slst .ro ity ds2, .bs true 1 0 j], some [.si .i64 d, .si .i64 n, .slst .ro ity v]] [some (.live (.arr ity v.reverse)), some (.live (.arr retT o))] hp_tv.kh hp_tv.kt)
def res_tv (c : Int) (ds : List Int) (rs : List (Ty.den retT)) (c2 : Int) (ds2 : List Int) (j : Nat) (i d n : Int) (v : List Int) (j2 : Nat) (k : Int) (b : List Int) (o : List (Ty.den retT)) : Tr (Ex × St) := .br (decide (pre_tv c ds rs c2 ds2 j i d n v j2 k b o)) (.leaf (some (.exit 2, St.of 192 (lve_tv (.exit 2)) [.ptr 0 0, .ptr 1 0, .si .i64 i, .ptr 2 0, .bs true 0 0 v.length] [some [.si .i64 c, .slst .ro ity ds, .slst .ro retT rs], some [.si .i64 c2, .slst .ro ity ds2, .bs true 1 0 j], some [.si .i64 d, .si .i64 n, .slst .ro ity v]] [some (.live (.arr ity v.reverse)), some (.live (.arr retT o))] hp_tv.kh hp_tv.kt))) (.leaf none)
def ent_tv : LEnt := LEnt.by hp_tv fun ⟨(_, _, i, _, j2, k, _), ((c, ds, rs, _), (c2, ds2, j, _), (d, n, v, _), _), (b, o, _)⟩ => res_tv c ds rs c2 ds2 j i d n v j2 k b o
theorem ent_tv_ok (hgo : ∀ (c : Int) (ds : List Int) (rs : List (Ty.den retT)) (c2 : Int) (ds2 : List Int) (j : Nat) (i d n : Int) (v : List Int) (j2 : Nat) (k : Int) (b : List Int) (o : List (Ty.den retT)), pre_tv c ds rs c2 ds2 j i d n v j2 k b o → SemL Try.prog Γ (lp 7 1) (st_tv c ds rs c2 ds2 j i d n v j2 k b o) (rs_tv c ds rs c2 ds2 j i d n v j2 k b o).1.to (rs_tv c ds rs c2 ds2 j i d n v j2 k b o).2) : EntOk Try.prog Γ (lp 7 1) ent_tv := LEnt.by_ok fun ⟨(_, _, i, _, j2, k, _), ((c, ds, rs, _), (c2, ds2, j, _), (d, n, v, _), _), (b, o, _)⟩ _ _ h_ => SemL.br (out := rs_tv c ds rs c2 ds2 j i d n v j2 k b o) rfl (hgo c ds rs c2 ds2 j i d n v j2 k b o) h_
theorem tv_go (c : Int) (ds : List Int) (rs : List (Ty.den retT)) (c2 : Int) (ds2 : List Int) (j : Nat) (i d n : Int) (v : List Int) (j2 : Nat) (k : Int) (b : List Int) (o : List (Ty.den retT)) (h : pre_tv c ds rs c2 ds2 j i d n v j2 k b o) : SemL Try.prog Γ (lp 7 1) (st_tv c ds rs c2 ds2 j i d n v j2 k b o) (rs_tv c ds rs c2 ds2 j i d n v j2 k b o).1.to (rs_tv c ds rs c2 ds2 j i d n v j2 k b o).2 := by
 obtain ⟨rfl, rfl, rfl, hl⟩ := h
 have e0 : ((v.length : Int) - 1) = (v.length : Int) - 1 - ((0 : Nat) : Int) := by omega
 rw [e0]
 refine SemL.scan v.length 0 (Nat.zero_le _) (fun m => st_tv c ds rs c2 ds2 j i d n v m ((v.length : Int) - 1 - (m : Int)) (v.reverse.take m) o) (fun _ => true) _ ?_ ?_ ?_
 · intro m _ hm _ _
   refine rn_tv_c c ds rs c2 ds2 j i d n v m _ _ o (e := .normal) ?_
   rw [rn_tv_eq, decide_eq_true (by omega : (v.length : Int) - 1 - (m : Int) ≥ 0), decide_eq_true (by omega : (0 : Int) ≤ (v.length : Int) - 1 - (m : Int) ∧ (v.length : Int) - 1 - (m : Int) < (Nat.cast v.length : Int)), decide_eq_true (by omega : (m + 1) * 2 * 8 ≤ 281474976710656), wrap_in (n := (v.length : Int) - 1 - (m : Int) - 1) (by omega) (by omega), List.drop_zero, List.take_of_length_le (l := v.reverse.take m) (i := m) (by rw [List.length_take]; omega),
    show ((v.length : Int) - 1 - (m : Int)).toNat = v.length - 1 - m by omega, ← rev_next hm, show (v.length : Int) - 1 - (m : Int) - 1 = (v.length : Int) - 1 - ((m + 1 : Nat) : Int) by omega]
   rfl
 · intro m _ _ _ hp
   cases hp
 · intro _
   unfold rs_tv
   refine ⟨by simp [Ex.to], rn_tv_c c ds rs c2 ds2 j i d n v v.length _ _ o (e := .exit 2) ?_⟩
   rw [rn_tv_eq, decide_eq_false (by omega), List.take_of_length_le (l := v.reverse) (i := v.length) (by rw [List.length_reverse]; exact Nat.le_refl _)]
   rfl
abbrev pre_tt0 (n m : List Int) (a i : Int) : Prop := i = 0 ∧ m = n.reverse ∧ n.length ≤ 1000 ∧ (∀ x ∈ n, 0 ≤ x ∧ x ≤ 100000000) ∧ (0 ≤ a ∧ a ≤ 100000000)
abbrev pre_tt (c : Int) (ds : List Int) (rs : List (Ty.den retT)) (n m : List Int) (s u a i : Int) : Prop := pre_tt0 n m a i
def rs_tt (c : Int) (ds : List Int) (rs : List (Ty.den retT)) (n m : List Int) (s u a i : Int) : Ex × St := (.exit 4, St.of 192 (lve_tt (.exit 4)) [.ptr 0 0, .slst .ro ity n, .si .i64 s, .si .i64 u, .si .i64 (a + n.sum)] [some [.si .i64 c, .slst .ro ity ds, .slst .ro retT rs]] [] hp_tt.kh hp_tt.kt)
def res_tt (c : Int) (ds : List Int) (rs : List (Ty.den retT)) (n m : List Int) (s u a i : Int) : Tr (Ex × St) := .br (decide (pre_tt c ds rs n m s u a i)) (.leaf (some (.exit 4, St.of 192 (lve_tt (.exit 4)) [.ptr 0 0, .slst .ro ity n, .si .i64 s, .si .i64 u, .si .i64 (a + n.sum)] [some [.si .i64 c, .slst .ro ity ds, .slst .ro retT rs]] [] hp_tt.kh hp_tt.kt))) (.leaf none)
def ent_tt : LEnt := LEnt.by hp_tt fun ⟨(_, n, m, s, u, a, i, _), ((c, ds, rs, _), _), _⟩ => res_tt c ds rs n m s u a i
theorem ent_tt_ok (hgo : ∀ (c : Int) (ds : List Int) (rs : List (Ty.den retT)) (n m : List Int) (s u a i : Int), pre_tt c ds rs n m s u a i → SemL Try.prog Γ (lp 7 2) (st_tt c ds rs n m s u a i) (rs_tt c ds rs n m s u a i).1.to (rs_tt c ds rs n m s u a i).2) : EntOk Try.prog Γ (lp 7 2) ent_tt := LEnt.by_ok fun ⟨(_, n, m, s, u, a, i, _), ((c, ds, rs, _), _), _⟩ _ _ h_ => SemL.br (out := rs_tt c ds rs n m s u a i) rfl (hgo c ds rs n m s u a i) h_
theorem sum_bnd {l : List Int} {B : Int} (h0 : 0 ≤ B) (h : ∀ x ∈ l, 0 ≤ x ∧ x ≤ B) : 0 ≤ l.sum ∧ l.sum ≤ B * (l.length : Int) := by
 induction l with
 | nil => simp
 | cons y t ih =>
  have h1 := h y (by simp)
  have h2 := ih fun x hx => h x (by simp [hx])
  rw [List.sum_cons, List.length_cons]
  have : B * ((t.length + 1 : Nat) : Int) = B * (t.length : Int) + B := by rw [Int.natCast_add, Int.mul_add]; simp
  omega
theorem sum_bnd_take {l : List Int} {B : Int} (h0 : 0 ≤ B) (h : ∀ x ∈ l, 0 ≤ x ∧ x ≤ B) (i : Nat) (hi : i ≤ l.length) : 0 ≤ (l.take i).sum ∧ (l.take i).sum ≤ B * (i : Int) := by
 have := sum_bnd (l := l.take i) h0 (fun x hx => h x (List.mem_of_mem_take hx))
 rwa [List.length_take, Nat.min_eq_left hi] at this
theorem tt_go (c : Int) (ds : List Int) (rs : List (Ty.den retT)) (n m : List Int) (s u a i : Int) (h : pre_tt c ds rs n m s u a i) : SemL Try.prog Γ (lp 7 2) (st_tt c ds rs n m s u a i) (rs_tt c ds rs n m s u a i).1.to (rs_tt c ds rs n m s u a i).2 := by
 obtain ⟨rfl, rfl, hl, hn, ha⟩ := h
 have e0 : a = a + (n.take 0).sum := by simp
 have key : SemL Try.prog Γ (lp 7 2) (st_tt c ds rs n n.reverse s u (a + (n.take 0).sum) ((0 : Nat) : Int)) (rs_tt c ds rs n n.reverse s u a 0).1.to (rs_tt c ds rs n n.reverse s u a 0).2 := by
  refine SemL.scan n.length 0 (Nat.zero_le _) (fun i => st_tt c ds rs n n.reverse s u (a + (n.take i).sum) (i : Nat)) (fun _ => true) _ ?_ ?_ ?_
  · intro i _ hi _ _
    have h1 := sum_bnd_take (by omega) hn i (by omega)
    have h2 := hn _ (getD_mem 0 hi)
    refine rn_tt_c c ds rs n n.reverse s u _ i (e := .normal) ?_
    have hw : IntKind.i64.wrap (IntKind.i64.wrap ((Nat.cast (n.length) : Int) - 1) - (i : Int)) = (Nat.cast (n.length) : Int) - 1 - (i : Int) := by
     rw [wrap_in (n := (Nat.cast (n.length) : Int) - 1) (by omega) (by omega), wrap_in (by omega) (by omega)]
    have hg : n.reverse.getD ((Nat.cast (n.length) : Int) - 1 - (i : Int)).toNat 0 = n.getD i 0 := by
     rw [show ((Nat.cast (n.length) : Int) - 1 - (i : Int)).toNat = n.length - 1 - i by omega]
     simp only [List.getD_eq_getElem?_getD]
     rw [List.getElem?_reverse (by omega), show n.length - 1 - (n.length - 1 - i) = i by omega]
    rw [rn_tt_eq, hw, hg, wrap_succ hi (by omega), decide_eq_true (by omega : (i : Int) < (Nat.cast n.length : Int)), decide_eq_true (by omega : (0 : Int) ≤ (i : Int) ∧ (i : Int) < (Nat.cast n.length : Int)), List.length_reverse, decide_eq_true (by omega : (0 : Int) ≤ (Nat.cast n.length : Int) - 1 - (i : Int) ∧ (Nat.cast n.length : Int) - 1 - (i : Int) < (Nat.cast n.length : Int)), Int.toNat_natCast, bne_self_eq_false, wrap_in (n := a + (n.take i).sum + n.getD i 0) (by omega) (by omega), Int.add_assoc, ← sum_take hi]
    rfl
  · intro i _ _ _ hp
    cases hp
  · intro _
    unfold rs_tt
    refine ⟨by simp [Ex.to], rn_tt_c c ds rs n n.reverse s u _ n.length (e := .exit 4) ?_⟩
    rw [rn_tt_eq, decide_eq_false (by omega), List.take_length]
    rfl
 rwa [← e0] at key
abbrev pre_td0 (ds : List Int) (a i : Int) : Prop := i = 0 ∧ ds.length ≤ 1000 ∧ (∀ x ∈ ds, 0 ≤ x ∧ x ≤ 100000000) ∧ (0 ≤ a ∧ a ≤ 100000000000000)
abbrev pre_td (c : Int) (ds : List Int) (rs : List (Ty.den retT)) (n : List Int) (s u a i : Int) : Prop := pre_td0 ds a i
def rs_td (c : Int) (ds : List Int) (rs : List (Ty.den retT)) (n : List Int) (s u a i : Int) : Ex × St := (.exit 6, St.of 192 (lve_td (.exit 6)) [.slst .ro ity n, .si .i64 s, .si .i64 u, .si .i64 (a - ds.sum)] [] [] hp_td.kh hp_td.kt)
def res_td (c : Int) (ds : List Int) (rs : List (Ty.den retT)) (n : List Int) (s u a i : Int) : Tr (Ex × St) := .br (decide (pre_td c ds rs n s u a i)) (.leaf (some (.exit 6, St.of 192 (lve_td (.exit 6)) [.slst .ro ity n, .si .i64 s, .si .i64 u, .si .i64 (a - ds.sum)] [] [] hp_td.kh hp_td.kt))) (.leaf none)
def ent_td : LEnt := LEnt.by hp_td fun ⟨(_, n, s, u, a, i, _), ((c, ds, rs, _), _), _⟩ => res_td c ds rs n s u a i
theorem ent_td_ok (hgo : ∀ (c : Int) (ds : List Int) (rs : List (Ty.den retT)) (n : List Int) (s u a i : Int), pre_td c ds rs n s u a i → SemL Try.prog Γ (lp 7 3) (st_td c ds rs n s u a i) (rs_td c ds rs n s u a i).1.to (rs_td c ds rs n s u a i).2) : EntOk Try.prog Γ (lp 7 3) ent_td := LEnt.by_ok fun ⟨(_, n, s, u, a, i, _), ((c, ds, rs, _), _), _⟩ _ _ h_ => SemL.br (out := rs_td c ds rs n s u a i) rfl (hgo c ds rs n s u a i) h_
theorem td_go (c : Int) (ds : List Int) (rs : List (Ty.den retT)) (n : List Int) (s u a i : Int) (h : pre_td c ds rs n s u a i) : SemL Try.prog Γ (lp 7 3) (st_td c ds rs n s u a i) (rs_td c ds rs n s u a i).1.to (rs_td c ds rs n s u a i).2 := by
 obtain ⟨rfl, hl, hn, ha⟩ := h
 have e0 : a = a - (ds.take 0).sum := by simp
 have key : SemL Try.prog Γ (lp 7 3) (st_td c ds rs n s u (a - (ds.take 0).sum) ((0 : Nat) : Int)) (rs_td c ds rs n s u a 0).1.to (rs_td c ds rs n s u a 0).2 := by
  refine SemL.scan ds.length 0 (Nat.zero_le _) (fun i => st_td c ds rs n s u (a - (ds.take i).sum) (i : Nat)) (fun _ => true) _ ?_ ?_ ?_
  · intro i _ hi _ _
    have h1 := sum_bnd_take (by omega) hn i (by omega)
    have h2 := hn _ (getD_mem 0 hi)
    refine rn_td_c c ds rs n s u _ i (e := .normal) ?_
    rw [rn_td_eq, wrap_succ hi (by omega), decide_eq_true (by omega : (i : Int) < (Nat.cast ds.length : Int)), decide_eq_true (by omega : (0 : Int) ≤ (i : Int) ∧ (i : Int) < (Nat.cast ds.length : Int)), Int.toNat_natCast, wrap_in (n := a - (ds.take i).sum - ds.getD i 0) (by omega) (by omega), show a - (ds.take i).sum - ds.getD i 0 = a - (ds.take (i + 1)).sum by rw [sum_take hi]; omega]
    rfl
  · intro i _ _ _ hp
    cases hp
  · intro _
    unfold rs_td
    refine ⟨by simp [Ex.to], rn_td_c c ds rs n s u _ ds.length (e := .exit 6) ?_⟩
    rw [rn_td_eq, decide_eq_false (by omega), List.take_length]
    rfl
 rwa [← e0] at key
def lo28 : LOrc := (LOrc.add (LOrc.add (LOrc.add lo23 7 1 ent_tv) 7 2 ent_tt) 7 3 ent_td)
theorem lo28_ok : LOrcOk Try.prog Γ lo28 := (LOrcOk.add (LOrcOk.add (LOrcOk.add lo23_ok 7 1 Try.func7 bd_tv le_tv (ent_tv_ok tv_go)) 7 2 Try.func7 bd_tt le_tt (ent_tt_ok tt_go)) 7 3 Try.func7 bd_td le_td (ent_td_ok td_go))
noncomputable def cfg29 : Cfg := cfgQ oS9 lo28
theorem cfg29_ok : CfgOk Try.prog Γ cfg29 := cfgQ_ok oS9_ok lo28_ok
end T
end Go.Proofs.Ytofbchcclkejgaa

/- Package tally: TallyTotals: pieces. -/
set_option linter.unusedVariables false
set_option linter.unusedSimpArgs false
set_option maxRecDepth 100000
set_option maxHeartbeats 4000000
namespace Go.Proofs.Ytofbchcclkejgaa
open Go
namespace T
noncomputable def to : Code := lp 7 0
abbrev oT3 (c : Int) (ds : List Int) (rs : List R1) : Option (List V) := some [.si .i64 c, .slst .ro ity ds, .slst .ro retT rs]
end T
end Go.Proofs.Ytofbchcclkejgaa

