/- Parts of the library of texts, one after the other: L59, L60, L61, L62, L63, L64, L65. -/
import Derived.Test.YthjiodeaepigmaaDoorLrm
/- Package label: the reference's Join as a contract. -/
set_option linter.unusedVariables false
set_option linter.unusedSimpArgs false
set_option maxRecDepth 100000
set_option maxHeartbeats 4000000
namespace Go.Proofs.YthjiodeaepigmaaDoor
open Go
namespace L
theorem Ord.ext {α : Type} {cmp : α → α → Int} {cb : α → α → α} (h : Ord cmp cb) : ∀ (a b : List α), a.Pairwise (fun x y => cmp x y < 0) → b.Pairwise (fun x y => cmp x y < 0) → (∀ x, x ∈ a ↔ x ∈ b) → a = b
 | [], [], _, _, _ => rfl
 | [], y :: b, _, _, hm => by have := (hm y).2 (List.mem_cons_self ..); cases this
 | x :: a, [], _, _, hm => by have := (hm x).1 (List.mem_cons_self ..); cases this
 | x :: a, y :: b, ha, hb, hm => by
  obtain ⟨a1, a2⟩ := List.pairwise_cons.1 ha
  obtain ⟨b1, b2⟩ := List.pairwise_cons.1 hb
  have e : x = y := by
   rcases List.mem_cons.1 ((hm x).1 (List.mem_cons_self ..)) with e | h1
   · exact e
   · rcases List.mem_cons.1 ((hm y).2 (List.mem_cons_self ..)) with e | h2
     · exact e.symm
     · have k1 := b1 x h1
       have k2 := a1 y h2
       have := h.sy.2 k2
       omega
  subst e
  have r := h.refl x
  rw [h.ext a b a2 b2 fun z => ?_]
  constructor
  · intro hz
    rcases List.mem_cons.1 ((hm z).1 (List.mem_cons_of_mem _ hz)) with e | h1
    · subst e; have := a1 z hz; omega
    · exact h1
  · intro hz
    rcases List.mem_cons.1 ((hm z).2 (List.mem_cons_of_mem _ hz)) with e | h1
    · subst e; have := b1 z hz; omega
    · exact h1
theorem mem_unI {a b : List Int} {w : Int} : w ∈ unD sgn cbI a b ↔ w ∈ a ∨ w ∈ b := by
 constructor
 · exact un_all (cmp := sgn) (cb := cbI) (p := fun w => w ∈ a ∨ w ∈ b) (fun x y hx _ => hx) (fun x hx => .inl hx) (fun x hx => .inr hx) w
 · have := (ordI.all (p := fun q => q ∈ unD sgn cbI a b) (fun u v e => by rw [sgn_zero.1 e]; simp [cbI]) _ a b (Nat.le_refl _)).1 (fun w hw => hw)
   rintro (h | h)
   · exact this.1 w h
   · exact this.2 w h
theorem evJ_un {a b : List Int} (ha : risingD a 19 = true) (hb : risingD b 19 = true) : evJ a b 20 = unD sgn cbI a b := by
 refine ordI.ext _ _ (pw_sgn.2 ?_) (pw_sgn.2 (rising_iff.1 (un_rising ha hb)).2) fun x => ?_
 · unfold evJ
   rw [List.pairwise_map]
   refine (List.Pairwise.filter _ List.pairwise_lt_range).imp fun h => ?_
   omega
 · rw [mem_unI]
   unfold evJ
   rw [List.mem_map]
   constructor
   · rintro ⟨i, hi, rfl⟩
     rw [List.mem_filter, Bool.or_eq_true, hasD_iff, hasD_iff] at hi
     exact hi.2
   · intro h
     have h1 : 0 ≤ x ∧ x ≤ 19 := by
      rcases h with h | h
      · exact (rising_iff.1 ha).1 x h
      · exact (rising_iff.1 hb).1 x h
     have h2 : ((x.toNat : Nat) : Int) = x := by omega
     refine ⟨x.toNat, ?_, h2⟩
     rw [List.mem_filter, List.mem_range, Bool.or_eq_true, hasD_iff, hasD_iff, h2]
     exact ⟨by omega, h⟩
theorem cntR_un {a b : List (Ty.den conf)} (ha : countsD a 1 = true) (hb : countsD b 1 = true) (f m : Int) (hm : 1 ≤ m) : m ≤ cntR (unD cmpC cbC a b) f ↔ m ≤ maxI (cntR a f) (cntR b f) := by
 have k : ∀ l : List (Ty.den conf), countsD l 1 = true → (m ≤ cntR l f ↔ ∃ z ∈ l, cF z = f ∧ m ≤ cC z) := fun l hl => cntR_le (y := mkC f m) (counts_out hl).2 hm
 have e : m ≤ maxI (cntR a f) (cntR b f) ↔ m ≤ cntR a f ∨ m ≤ cntR b f := by unfold maxI; split <;> omega
 rw [e, k _ (un_counts ha hb), k _ ha, k _ hb]
 have := ordC.all (p := fun z => ¬ (cF z = f ∧ m ≤ cC z)) (fun u v e => by
  have e : cF u = cF v := sgn_zero.1 e
  have ef : cF (cbC u v) = cF u := rfl
  have ec := cbC_c (x := u) (y := v)
  omega) _ a b (Nat.le_refl _)
 constructor
 · rintro ⟨z, hz, h⟩
   apply Classical.byContradiction
   intro hn
   refine this.2 ⟨fun w hw h' => hn (.inl ⟨w, hw, h'⟩), fun w hw h' => hn (.inr ⟨w, hw, h'⟩)⟩ z hz h
 · intro h
   apply Classical.byContradiction
   intro hn
   have h2 := this.1 fun w hw h' => hn ⟨w, hw, h'⟩
   rcases h with ⟨z, hz, h⟩ | ⟨z, hz, h⟩
   · exact h2.1 z hz h
   · exact h2.2 z hz h
theorem cntR_nn {l : List (Ty.den conf)} (h : countsD l 1 = true) (f : Int) : 0 ≤ cntR l f := by
 obtain ⟨c1, c2⟩ := counts_out h
 by_cases e : ∃ z ∈ l, cF z = f
 · obtain ⟨z, hz, e⟩ := e
   rw [cntR_some c2 hz e]
   have := c1 z hz
   omega
 · rw [cntR_none fun z hz e' => e ⟨z, hz, e'⟩]
   omega
theorem coJ_un {a b : List (Ty.den conf)} (ha : countsD a 1 = true) (hb : countsD b 1 = true) : coJ a b 16 = unD cmpC cbC a b := by
 obtain ⟨c1, c2⟩ := counts_out (un_counts ha hb)
 have na := cntR_nn ha
 have nb := cntR_nn hb
 have nu := cntR_nn (un_counts ha hb)
 have key : ∀ f, cntR (unD cmpC cbC a b) f = maxI (cntR a f) (cntR b f) := fun f => by
  have h0 := nu f
  have h1 : 0 ≤ maxI (cntR a f) (cntR b f) := Int.le_trans (na f) maxI_ge.1
  by_cases e1 : 1 ≤ cntR (unD cmpC cbC a b) f
  · have := (cntR_un ha hb f _ e1).1 (Int.le_refl _)
    have h2 : 1 ≤ maxI (cntR a f) (cntR b f) := by omega
    have := (cntR_un ha hb f _ h2).2 (Int.le_refl _)
    omega
  · by_cases e2 : 1 ≤ maxI (cntR a f) (cntR b f)
    · have := (cntR_un ha hb f _ e2).2 (Int.le_refl _)
      omega
    · omega
 refine ordC.ext _ _ (pw_cmpC.2 ?_) (pw_cmpC.2 c2) fun w => ?_
 · unfold coJ
   rw [List.pairwise_map]
   refine (List.Pairwise.filter _ List.pairwise_lt_range).imp fun h => ?_
   exact Int.ofNat_lt.2 h
 · unfold coJ
   rw [List.mem_map]
   constructor
   · rintro ⟨i, hi, rfl⟩
     rw [List.mem_filter, decide_eq_true_eq, ← key] at hi
     obtain ⟨_, hi⟩ := hi
     by_cases e : ∃ z ∈ unD cmpC cbC a b, cF z = i
     · obtain ⟨z, hz, e⟩ := e
       have : cntR (unD cmpC cbC a b) i = cC z := cntR_some c2 hz e
       have h : mkC i (maxI (cntR a i) (cntR b i)) = z := (conf_ext _ _).2 ⟨e.symm, by rw [← this, key]; rfl⟩
       rw [h]
       exact hz
     · rw [cntR_none fun z hz e' => e ⟨z, hz, e'⟩] at hi
       omega
   · intro hw
     obtain ⟨w1, w2, w3, w4⟩ := c1 w hw
     have h2 : (((cF w).toNat : Nat) : Int) = cF w := by omega
     have h3 : maxI (cntR a (cF w)) (cntR b (cF w)) = cC w := by rw [← key]; exact cntR_some c2 hw rfl
     refine ⟨(cF w).toNat, ?_, ?_⟩
     · rw [List.mem_filter, List.mem_range, decide_eq_true_eq, h2, h3]
       exact ⟨by omega, by omega⟩
     · rw [h2, h3]
       exact (conf_ext _ _).2 ⟨rfl, rfl⟩
def e17 (x y : Ty.den labT) : Option Bool × V := (some (decide (szX x ∧ szX y)), .tup [labT.val (joinV x y), .si .i64 (joinN x y)])
theorem mkJ_join {x y : Ty.den labT} (hx : vX x = true) (hy : vX y = true) : mkJ (aU x) (aE x) (aC x) (aT x) (aK x) (aL x) (aU y) (aE y) (aC y) (aT y) (aK y) (aL y) = joinT x y := by
 obtain ⟨x1, x2, x3, x4, x5, x6, x7⟩ := valid_all hx
 obtain ⟨y1, y2, y3, y4, y5, y6, y7⟩ := valid_all hy
 refine (lab_ext _ _).2 ⟨rfl, ?_, ?_, rfl, rfl, ?_⟩
 · show List.take (evJ (aE x) (aE y) 20).length (List.drop 0 (evJ (aE x) (aE y) 20)) = unD sgn cbI (aE x) (aE y)
   rw [List.drop_zero, List.take_length, evJ_un x6 y6]
 · show List.take (coJ (aC x) (aC y) 16).length (List.drop 0 (coJ (aC x) (aC y) 16)) = unD cmpC cbC (aC x) (aC y)
   rw [List.drop_zero, List.take_length, coJ_un x7 y7]
 · show List.take (unD cmpL cbL (aL x) (aL y)).length (List.drop 0 (unD cmpL cbL (aL x) (aL y))) = unD cmpL cbL (aL x) (aL y)
   rw [List.drop_zero, List.take_length]
theorem joinT_v {x y : Ty.den labT} (hx : vX x = true) (hy : vX y = true) : vX (joinT x y) = decide ((unL x y).length ≤ 4) := by
 by_cases h : (unL x y).length ≤ 4
 · rw [join_valid hx hy h, decide_eq_true h]
 · rw [decide_eq_false h]
   cases hv : vX (joinT x y) with
   | false => rfl
   | true => exact absurd (valid_all hv).2.2.2.1 h
theorem e17_of (x y : Ty.den labT) (h : (e17 x y).1.getD true = true) : SemF Tryd.prog Γ 17 [labT.val x, labT.val y] [] [] (e17 x y).2 [] [] := by
 obtain ⟨sx, sy⟩ := of_decide_eq_true h
 have sx' : szE (aE x) (aC x) (aL x) := sx
 have sy' : szE (aE y) (aC y) (aL y) := sy
 obtain ⟨s1, s2, s3⟩ := sx'
 obtain ⟨r1, r2, r3⟩ := sy'
 have eq := c17_run (aU x) (aE x) (aC x) (aT x) (aK x) (aL x) (aU y) (aE y) (aC y) (aT y) (aK y) (aL y)
 rw [mkL_eta, mkL_eta, decide_eq_true sx, decide_eq_true sy] at eq
 cases hx : vX x with
 | false =>
  rw [hx] at eq
  refine of_runL cfg58_ok eq rfl ?_
  show _ = V.tup [labT.val (joinV x y), .si .i64 (joinN x y)]
  unfold joinV joinN joinB
  rw [hx]
  rfl
 | true =>
  cases hy : vX y with
  | false =>
   rw [hx, hy] at eq
   refine of_runL cfg58_ok eq rfl ?_
   show _ = V.tup [labT.val (joinV x y), .si .i64 (joinN x y)]
   unfold joinV joinN joinB
   rw [hx, hy]
   rfl
  | true =>
   obtain ⟨x1, x2, x3, x4, x5, x6, x7⟩ := valid_all hx
   obtain ⟨y1, y2, y3, y4, y5, y6, y7⟩ := valid_all hy
   rw [hx, hy, mkJ_join hx hy, joinT_v hx hy, decide_eq_true (And.intro x2 y2), decide_eq_true (And.intro x3 y3), decide_eq_true (join_sz hx hy)] at eq
   have p0 : ∀ u t c, decide (pre_rJ0 0 (aU x) (aE x) (aC x) (aT x) (aK x) (aL x) (aU y) (aE y) (aC y) (aT y) (aK y) (aL y) u t c 0 []) = true := fun u t c => decide_eq_true ⟨rfl, rfl, rfl, s1, r1⟩
   have p1 : ∀ u t c j0 l0, decide (pre_rJ1 0 (aU x) (aE x) (aC x) (aT x) (aK x) (aL x) (aU y) (aE y) (aC y) (aT y) (aK y) (aL y) u t c j0 0 l0 []) = true := fun u t c j0 l0 => decide_eq_true ⟨rfl, rfl, rfl, s2, r2⟩
   have p2 : ∀ u t c j0 j1 l0 l1, decide (pre_rJ2 0 0 (aU x) (aE x) (aC x) (aT x) (aK x) (aL x) (aU y) (aE y) (aC y) (aT y) (aK y) (aL y) u t c j0 j1 0 l0 l1 []) = true := fun u t c j0 j1 l0 l1 => decide_eq_true ⟨rfl, rfl, rfl, rfl, s3, r3, x5, y5⟩
   rw [p0, p1, p2] at eq
   refine of_runL cfg58_ok eq rfl ?_
   show _ = V.tup [labT.val (joinV x y), .si .i64 (joinN x y)]
   have t1 : List.take (evJ (aE x) (aE y) 20).length (List.drop 0 (evJ (aE x) (aE y) 20)) = unD sgn cbI (aE x) (aE y) := by rw [List.drop_zero, List.take_length, evJ_un x6 y6]
   have t2 : List.take (coJ (aC x) (aC y) 16).length (List.drop 0 (coJ (aC x) (aC y) 16)) = unD cmpC cbC (aC x) (aC y) := by rw [List.drop_zero, List.take_length, coJ_un x7 y7]
   have t3 : List.take (unD cmpL cbL (aL x) (aL y)).length (List.drop 0 (unD cmpL cbL (aL x) (aL y))) = unD cmpL cbL (aL x) (aL y) := by rw [List.drop_zero, List.take_length]
   unfold joinV joinN joinB
   rw [hx, hy]
   cases decide ((unL x y).length ≤ 4) with
   | false => rfl
   | true =>
    have go : ∀ (l1 : List Int) (l2 : List (Ty.den conf)) (l3 : List (Ty.den lockT)), l1 = unD sgn cbI (aE x) (aE y) → l2 = unD cmpC cbC (aC x) (aC y) → l3 = unD cmpL cbL (aL x) (aL y) → V.tup [V.agg [.si .i64 (maxI (aU x) (aU y)), .slst .ro ity l1, .slst .ro conf l2, .si .i64 (andI (aT x) (aT y)), .si .i64 (andI (aK x) (aK y)), .slst .ro lockT l3], .si .i64 0] = V.tup [labT.val (joinT x y), .si .i64 0] := fun l1 l2 l3 a b c => by
     subst a; subst b; subst c; rfl
    exact go _ _ _ t1 t2 t3
end L
end Go.Proofs.YthjiodeaepigmaaDoor

/- Package label: few's loop, printed. -/
set_option linter.unusedVariables false
set_option linter.unusedSimpArgs false
set_option maxRecDepth 100000
set_option maxHeartbeats 4000000
namespace Go.Proofs.YthjiodeaepigmaaDoor
open Go
namespace L
noncomputable def o60a : Orc := fun f args => if f = 17 then (Ty.ofVs [labT, labT] args).map (fun x => e17 x.1 x.2.1) else orc57 f args
theorem o60a_ok : OrcOk Tryd.prog Γ o60a := orc57_ok.plain 17 [labT, labT] (fun x => e17 x.1 x.2.1) Tryd.f17 Tryd.func17 rfl (by kernel_rfl) (fun x h => e17_of _ _ h)
noncomputable def o60b : Orc := fun f args => if f = 20 then (Ty.ofVs [labT, labT] args).map (fun x => e20 x.1 x.2.1) else o60a f args
theorem o60b_ok : OrcOk Tryd.prog Γ o60b := o60a_ok.plain 20 [labT, labT] (fun x => e20 x.1 x.2.1) Tryd.f20 Tryd.func20 rfl (by kernel_rfl) (fun x h => e20_of _ _ h)
noncomputable def orc60 : Orc := fun f args => if f = 25 then (Ty.ofVs [labT, .agg [ity, ity], momT] args).map (fun x => e25 x.1 x.2.1 x.2.2.1) else o60b f args
theorem orc60_ok : OrcOk Tryd.prog Γ orc60 := o60b_ok.plain 25 [labT, .agg [ity, ity], momT] (fun x => e25 x.1 x.2.1 x.2.2.1) Tryd.f25 Tryd.func25 rfl (by kernel_rfl) (fun x h => e25_of _ _ _ h)
noncomputable def cfg60 : Cfg := cfgT T36 isT36 orc60 lo54
theorem cfg60_ok : CfgOk Tryd.prog Γ cfg60 := cfgT_ok T36_ok orc60_ok lo54_ok
def min5 (n : Nat) : Int := if (5 : Int) < (n : Int) then 5 else (n : Int)
def fewQ (q : Ty.den lockT) : Ty.den lockT := (kN q, List.drop 0 (List.take (min5 (kK q).length).toNat (kK q)), ())
theorem min5_in (n : Nat) : 0 ≤ min5 n ∧ min5 n ≤ n ∧ min5 n ≤ 5 := by unfold min5; split <;> omega
def hp_fw : HP := { n := 60, lv := [1, 2, 3, 4], sp := [.ptr 0 0, .ptr 1 0, .bz 0, .ty ity], op := [.cells [.ty ity, .ty (.slice ity), .ty (.slice conf), .ty ity, .ty ity, .ty (.slice lockT)], .cells [.ci 0, .nl, .nl, .ci 0, .ci 0, .nl]], bp := [.arr lockT], bv := [(2, lockT)] }
def lve_fw : Ex → List Nat
 | .normal => [1, 2, 3, 4]
 | .exit 0 => [1, 2, 3]
 | _ => []
theorem bd_fw : Tryd.f13.body = some (root 13) := by kernel_rfl
theorem le_fw : (loops (root 13))[0]? = some (lp 13 0) := by kernel_rfl
theorem li_fw : Lies (root 13) 1 (lp 13 0) := Lies.of_take (n := 0) (by kernel_rfl)
def st_fw (j : Nat) (i : Int) (xu : Int) (xe : List Int) (xc : List (Ty.den conf)) (xt xk : Int) (xl : List (Ty.den lockT)) (l : List (Ty.den lockT)) : St := hp_fw.st ⟨((), (), j, i, ()), ((xu, xe, xc, xt, xk, xl, ()), ((), (), (), (), (), (), ()), ()), (l, ())⟩
noncomputable def rn_fw (j : Nat) (i : Int) (xu : Int) (xe : List Int) (xc : List (Ty.den conf)) (xt xk : Int) (xl : List (Ty.den lockT)) (l : List (Ty.den lockT)) := outa lve_fw (evCK Tryd.prog Γ (cfM Tryd.prog Γ cfg60 30) (cfg60.lo 13) [] 60 1 (lp 13 0) (st_fw j i xu xe xc xt xk xl l))
theorem rn_fw_eq (j : Nat) (i : Int) (xu : Int) (xe : List Int) (xc : List (Ty.den conf)) (xt xk : Int) (xl : List (Ty.den lockT)) (l : List (Ty.den lockT)) : (rn_fw j i xu xe xc xt xk xl l).run = (bif decide (i < (xl.length : Int)) then (bif decide (i < (5 : Int)) then (bif decide ((0 : Int) ≤ i ∧ i < (xl.length : Int)) then (bif decide ((0 : Int) ≤ i ∧ i < (xl.length : Int)) then (bif decide ((0 : Int) ≤ i ∧ i < (xl.length : Int)) then (bif decide ((0 : Int) ≤ (0 : Int) ∧ ((0 : Int) ≤ min5 (kK (xl.getD i.toNat lockT.dflt)).length) ∧ (min5 (kK (xl.getD i.toNat lockT.dflt)).length) ≤ (Nat.cast ((List.length (kK (xl.getD i.toNat lockT.dflt)))) : Int)) then (bif decide ((j + 1) * 2 * 32 ≤ 281474976710656) then (some ((Ex.normal, [V.ptr 0 0, V.ptr 1 0, V.bs true 0 0 (j + (1 : Nat)), V.si .i64 (IntKind.i64.wrap (i + (1 : Int)))], [some [V.si .i64 xu, V.slst .ro ity xe, V.slst .ro conf xc, V.si .i64 xt, V.si .i64 xk, V.slst .ro lockT xl], some [V.i .i64 (0 : Int), V.lst .full [], V.lst .full [], V.i .i64 (0 : Int), V.i .i64 (0 : Int), V.lst .full []]], [some (Bf.live (.arr lockT (List.take j (List.drop (0) l) ++ [(fewQ (xl.getD i.toNat lockT.dflt))])))], 60, 0, 0))) else none) else none) else none) else none) else none) else (some ((Ex.exit 0, [V.ptr 0 0, V.ptr 1 0, V.bs true 0 0 j], [some [V.si .i64 xu, V.slst .ro ity xe, V.slst .ro conf xc, V.si .i64 xt, V.si .i64 xk, V.slst .ro lockT xl], some [V.i .i64 (0 : Int), V.lst .full [], V.lst .full [], V.i .i64 (0 : Int), V.i .i64 (0 : Int), V.lst .full []]], [some (Bf.live (.arr lockT l))], 60, 0, 0)))) else (some ((Ex.exit 0, [V.ptr 0 0, V.ptr 1 0, V.bs true 0 0 j], [some [V.si .i64 xu, V.slst .ro ity xe, V.slst .ro conf xc, V.si .i64 xt, V.si .i64 xk, V.slst .ro lockT xl], some [V.i .i64 (0 : Int), V.lst .full [], V.lst .full [], V.i .i64 (0 : Int), V.i .i64 (0 : Int), V.lst .full []]], [some (Bf.live (.arr lockT l))], 60, 0, 0)))) := by kernel_rfl
theorem rn_fw_c (j : Nat) (i : Int) (xu : Int) (xe : List Int) (xc : List (Ty.den conf)) (xt xk : Int) (xl : List (Ty.den lockT)) (l : List (Ty.den lockT)) {e : Ex} {vs : List V} {ob : Ob} {nm : Nm} {n' kh kt : Nat} (h : (rn_fw j i xu xe xc xt xk xl l).run = some (e, vs, ob, nm, n', kh, kt)) : SemC Tryd.prog Γ (lp 13 0) (st_fw j i xu xe xc xt xk xl l) e.to (St.of n' (lve_fw e) vs ob nm kh kt) := SemC.of_evM cfg60_ok Tryd.func13 bd_fw li_fw h
def fewN (l : List (Ty.den lockT)) (n : Nat) : List (Ty.den lockT) := (l.take n).map fewQ
theorem fewN_succ {l : List (Ty.den lockT)} {n : Nat} (h : n < l.length) : fewN l (n + 1) = fewN l n ++ [fewQ (l.getD n lockT.dflt)] := by
 unfold fewN
 rw [List.take_succ_eq_append_getElem h, List.map_append, getD_eq h lockT.dflt]
 rfl
theorem fewN_len (l : List (Ty.den lockT)) (n : Nat) : (fewN l n).length ≤ n := by
 unfold fewN
 rw [List.length_map, List.length_take]
 omega
def fewK (l : List (Ty.den lockT)) : Nat := min l.length 5
abbrev pre_fw (j : Nat) (i : Int) (xu : Int) (xe : List Int) (xc : List (Ty.den conf)) (xt xk : Int) (xl : List (Ty.den lockT)) (l : List (Ty.den lockT)) : Prop := i = 0 ∧ j = 0 ∧ l = []
def rs_fw (j : Nat) (i : Int) (xu : Int) (xe : List Int) (xc : List (Ty.den conf)) (xt xk : Int) (xl : List (Ty.den lockT)) (l : List (Ty.den lockT)) : Ex × St := (.exit 0, St.of 60 (lve_fw (.exit 0)) [.ptr 0 0, .ptr 1 0, .bs true 0 0 (fewN xl (fewK xl)).length] [some [.si .i64 xu, .slst .ro ity xe, .slst .ro conf xc, .si .i64 xt, .si .i64 xk, .slst .ro lockT xl], some [.i .i64 0, .lst .full [], .lst .full [], .i .i64 0, .i .i64 0, .lst .full []]] [some (.live (.arr lockT (fewN xl (fewK xl))))] hp_fw.kh hp_fw.kt)
def res_fw (j : Nat) (i : Int) (xu : Int) (xe : List Int) (xc : List (Ty.den conf)) (xt xk : Int) (xl : List (Ty.den lockT)) (l : List (Ty.den lockT)) : Tr (Ex × St) := .br (decide (pre_fw j i xu xe xc xt xk xl l)) (.leaf (some (.exit 0, St.of 60 (lve_fw (.exit 0)) [.ptr 0 0, .ptr 1 0, .bs true 0 0 (fewN xl (fewK xl)).length] [some [.si .i64 xu, .slst .ro ity xe, .slst .ro conf xc, .si .i64 xt, .si .i64 xk, .slst .ro lockT xl], some [.i .i64 0, .lst .full [], .lst .full [], .i .i64 0, .i .i64 0, .lst .full []]] [some (.live (.arr lockT (fewN xl (fewK xl))))] hp_fw.kh hp_fw.kt))) (.leaf none)
def ent_fw : LEnt := LEnt.by hp_fw fun ⟨(_, _, j, i, _), ((xu, xe, xc, xt, xk, xl, _), (_, _, _, _, _, _, _), _), (l, _)⟩ => res_fw j i xu xe xc xt xk xl l
theorem ent_fw_ok (hgo : ∀ (j : Nat) (i : Int) (xu : Int) (xe : List Int) (xc : List (Ty.den conf)) (xt xk : Int) (xl : List (Ty.den lockT)) (l : List (Ty.den lockT)), pre_fw j i xu xe xc xt xk xl l → SemL Tryd.prog Γ (lp 13 0) (st_fw j i xu xe xc xt xk xl l) (rs_fw j i xu xe xc xt xk xl l).1.to (rs_fw j i xu xe xc xt xk xl l).2) : EntOk Tryd.prog Γ (lp 13 0) ent_fw := LEnt.by_ok fun ⟨(_, _, j, i, _), ((xu, xe, xc, xt, xk, xl, _), (_, _, _, _, _, _, _), _), (l, _)⟩ _ _ h_ => SemL.br (out := rs_fw j i xu xe xc xt xk xl l) rfl (hgo j i xu xe xc xt xk xl l) h_
theorem fw_go (j : Nat) (i : Int) (xu : Int) (xe : List Int) (xc : List (Ty.den conf)) (xt xk : Int) (xl : List (Ty.den lockT)) (l : List (Ty.den lockT)) (h : pre_fw j i xu xe xc xt xk xl l) : SemL Tryd.prog Γ (lp 13 0) (st_fw j i xu xe xc xt xk xl l) (rs_fw j i xu xe xc xt xk xl l).1.to (rs_fw j i xu xe xc xt xk xl l).2 := by
 obtain ⟨rfl, rfl, rfl⟩ := h
 have hk : fewK xl = min xl.length 5 := rfl
 refine SemL.scan (fewK xl) 0 (Nat.zero_le _) (fun i => st_fw (fewN xl i).length (i : Nat) xu xe xc xt xk xl (fewN xl i)) (fun _ => true) _ ?_ ?_ ?_
 · intro i _ hi _ _
   have hw : IntKind.i64.wrap ((i : Int) + 1) = ((i + 1 : Nat) : Int) := by rw [wrap_in (by omega) (by omega)]; rfl
   have eq := rn_fw_eq (fewN xl i).length i xu xe xc xt xk xl (fewN xl i)
   have hl := fewN_len xl i
   have hm := min5_in (kK (xl.getD i lockT.dflt)).length
   rw [hw, decide_eq_true (by omega : (i : Int) < (xl.length : Int)), decide_eq_true (by omega : (i : Int) < (5 : Int)), decide_eq_true (by omega : (0 : Int) ≤ (i : Int) ∧ (i : Int) < (xl.length : Int)), Int.toNat_natCast, decide_eq_true (show (0 : Int) ≤ 0 ∧ (0 ≤ min5 (kK (xl.getD i lockT.dflt)).length) ∧ min5 (kK (xl.getD i lockT.dflt)).length ≤ ((kK (xl.getD i lockT.dflt)).length : Int) from ⟨by omega, hm.1, hm.2.1⟩), decide_eq_true (by omega : ((fewN xl i).length + 1) * 2 * 32 ≤ 281474976710656), List.drop_zero, List.take_length] at eq
   have hs := fewN_succ (l := xl) (n := i) (by omega)
   show SemC Tryd.prog Γ (lp 13 0) _ .normal (st_fw (fewN xl (i + 1)).length ((i + 1 : Nat) : Int) xu xe xc xt xk xl (fewN xl (i + 1)))
   rw [hs, List.length_append]
   exact rn_fw_c _ i xu xe xc xt xk xl _ (eq.trans rfl)
 · intro i _ _ _ h; cases h
 · intro _
   refine ⟨by simp [rs_fw, Ex.to], ?_⟩
   have eq := rn_fw_eq (fewN xl (fewK xl)).length (fewK xl : Nat) xu xe xc xt xk xl (fewN xl (fewK xl))
   by_cases h : ((fewK xl : Nat) : Int) < (xl.length : Int)
   · rw [decide_eq_true h, decide_eq_false (by omega)] at eq
     exact rn_fw_c _ (fewK xl : Nat) xu xe xc xt xk xl _ (eq.trans rfl)
   · rw [decide_eq_false h] at eq
     exact rn_fw_c _ (fewK xl : Nat) xu xe xc xt xk xl _ (eq.trans rfl)
def lo60 : LOrc := (LOrc.add lo54 13 0 ent_fw)
theorem lo60_ok : LOrcOk Tryd.prog Γ lo60 := (LOrcOk.add lo54_ok 13 0 Tryd.func13 bd_fw le_fw (ent_fw_ok fw_go))
noncomputable def cfg61 : Cfg := cfgT T36 isT36 orc60 lo60
theorem cfg61_ok : CfgOk Tryd.prog Γ cfg61 := cfgT_ok T36_ok orc60_ok lo60_ok
theorem c13_run (xu : Int) (xe : List Int) (xc : List (Ty.den conf)) (xt xk : Int) (xl : List (Ty.den lockT)) : runL cfg61 13 [.agg [.si .i64 xu, .slst .ro ity xe, .slst .ro conf xc, .si .i64 xt, .si .i64 xk, .slst .ro lockT xl]] = .ok (some (decide ((0 : Int) ≤ (0 : Int) ∧ ((0 : Int) ≤ if (5 : Int) < (xe.length : Int) then (5 : Int) else (xe.length : Int)) ∧ (if (5 : Int) < (xe.length : Int) then (5 : Int) else (xe.length : Int)) ≤ (xe.length : Int)) && (decide ((0 : Int) ≤ (0 : Int) ∧ ((0 : Int) ≤ if (5 : Int) < (xc.length : Int) then (5 : Int) else (xc.length : Int)) ∧ (if (5 : Int) < (xc.length : Int) then (5 : Int) else (xc.length : Int)) ≤ (xc.length : Int)) && decide (pre_fw (0) (0 : Int) xu (List.drop (0 : Nat) (List.take (if (5 : Int) < (xe.length : Int) then (5 : Int) else (xe.length : Int)).toNat xe)) (List.drop (0 : Nat) (List.take (if (5 : Int) < (xc.length : Int) then (5 : Int) else (xc.length : Int)).toNat xc)) xt xk xl [])))) (V.agg [V.si .i64 xu, V.slst .ro ity (List.drop (0) (List.take (if (5 : Int) < (xe.length : Int) then (5 : Int) else (xe.length : Int)).toNat xe)), V.slst .ro conf (List.drop (0) (List.take (if (5 : Int) < (xc.length : Int) then (5 : Int) else (xc.length : Int)).toNat xc)), V.si .i64 xt, V.si .i64 xk, V.slst .ro lockT (List.take (fewN xl (fewK xl)).length (List.drop (0) (fewN xl (fewK xl))))]) := by kernel_rfl
end L
end Go.Proofs.YthjiodeaepigmaaDoor

/- Package label: few as a contract; LabelMatchesReference's inner loops, printed. -/
set_option linter.unusedVariables false
set_option linter.unusedSimpArgs false
set_option maxRecDepth 100000
set_option maxHeartbeats 4000000
namespace Go.Proofs.YthjiodeaepigmaaDoor
open Go
namespace L
def cutA {α : Type} (l : List α) : List α := List.drop 0 (List.take (if (5 : Int) < (Nat.cast l.length : Int) then (5 : Int) else (Nat.cast l.length : Int)).toNat l)
def fewD (x : Ty.den labT) : Ty.den labT := mkL (aU x) (cutA (aE x)) (cutA (aC x)) (aT x) (aK x) (List.take (fewN (aL x) (fewK (aL x))).length (List.drop 0 (fewN (aL x) (fewK (aL x)))))
def e13 (x : Ty.den labT) : Option Bool × V := (none, labT.val (fewD x))
theorem e13_of (x : Ty.den labT) (h : (e13 x).1.getD true = true) : SemF Tryd.prog Γ 13 [labT.val x] [] [] (e13 x).2 [] [] := by
 refine of_runL cfg61_ok (c13_run (aU x) (aE x) (aC x) (aT x) (aK x) (aL x)) ?_ rfl
 have g : ∀ n : Nat, decide ((0 : Int) ≤ (0 : Int) ∧ ((0 : Int) ≤ if (5 : Int) < (n : Int) then (5 : Int) else (n : Int)) ∧ (if (5 : Int) < (n : Int) then (5 : Int) else (n : Int)) ≤ (n : Int)) = true := fun n => decide_eq_true ⟨by omega, by split <;> omega, by split <;> omega⟩
 rw [g, g]
 exact decide_eq_true (p := pre_fw 0 0 (aU x) (cutA (aE x)) (cutA (aC x)) (aT x) (aK x) (aL x) []) ⟨rfl, rfl, rfl⟩
noncomputable def orc61 : Orc := fun f args => if f = 13 then (Ty.ofVs [labT] args).map (fun x => e13 x.1) else orc60 f args
theorem orc61_ok : OrcOk Tryd.prog Γ orc61 := orc60_ok.plain 13 [labT] (fun x => e13 x.1) Tryd.f13 Tryd.func13 rfl (by kernel_rfl) (fun x h => e13_of _ h)
noncomputable def cfg62 : Cfg := cfgT T36 isT36 orc61 lo60
theorem cfg62_ok : CfgOk Tryd.prog Γ cfg62 := cfgT_ok T36_ok orc61_ok lo60_ok
def mkR (t c : Int) : Ty.den redT := (t, c, ())
def hp_m1 : HP := { n := 188, lv := [8, 10, 11, 13, 14, 15, 16], sp := [.ptr 0 0, .ptr 1 0, .ptr 2 0, .ty (.slice labT), .ty ity, .ptr 3 0, .ty ity], op := [.cells [.ty ity, .ty ity, .ty ity, .ty ity, .ty ity], .cells [.ty ity, .ty ity, .ty (.slice ity), .ty (.slice conf), .ty (.slice ity)], .cells [.ty ity, .ty ity], .cells [.ty ity, .ty (.slice ity), .ty (.slice conf), .ty ity, .ty ity, .ty (.slice lockT)]], bp := [] }
def lve_m1 : Ex → List Nat
 | .normal => [8, 10, 11, 13, 14, 15, 16]
 | .ret => [12]
 | .exit 2 => [8, 10, 11, 13, 14, 15]
 | _ => []
theorem bd_m1 : Tryd.f3.body = some (root 3) := by kernel_rfl
theorem le_m1 : (loops (root 3))[1]? = some (lp 3 1) := by kernel_rfl
theorem li_m1 : Lies (root 3) 2 (lp 3 1) := Lies.of_take (n := 0) (by kernel_rfl)
def st_m1 (n0 n1 n2 n3 n4 : Int) (now dr : Int) (me : List Int) (mc : List (Ty.den conf)) (mk : List Int) (rt rc : Int) (ls : List (Ty.den labT)) (i k : Int) (xu : Int) (xe : List Int) (xc : List (Ty.den conf)) (xt xk : Int) (xl : List (Ty.den lockT)) : St := hp_m1.st ⟨((), (), (), ls, i, (), k, ()), ((n0, n1, n2, n3, n4, ()), (now, dr, me, mc, mk, ()), (rt, rc, ()), (xu, xe, xc, xt, xk, xl, ()), ()), ()⟩
noncomputable def rn_m1 (n0 n1 n2 n3 n4 : Int) (now dr : Int) (me : List Int) (mc : List (Ty.den conf)) (mk : List Int) (rt rc : Int) (ls : List (Ty.den labT)) (i k : Int) (xu : Int) (xe : List Int) (xc : List (Ty.den conf)) (xt xk : Int) (xl : List (Ty.den lockT)) := outa lve_m1 (evCK Tryd.prog Γ (cfM Tryd.prog Γ cfg62 30) (cfg62.lo 3) [] 60 2 (lp 3 1) (st_m1 n0 n1 n2 n3 n4 now dr me mc mk rt rc ls i k xu xe xc xt xk xl))
theorem rn_m1_eq (n0 n1 n2 n3 n4 : Int) (now dr : Int) (me : List Int) (mc : List (Ty.den conf)) (mk : List Int) (rt rc : Int) (ls : List (Ty.den labT)) (i k : Int) (xu : Int) (xe : List Int) (xc : List (Ty.den conf)) (xt xk : Int) (xl : List (Ty.den lockT)) : (rn_m1 n0 n1 n2 n3 n4 now dr me mc mk rt rc ls i k xu xe xc xt xk xl).run = (bif decide (k < (ls.length : Int)) then (bif decide ((0 : Int) ≤ k ∧ k < (ls.length : Int)) then (bif decide (szX (mkL xu xe xc xt xk xl) ∧ szX (ls.getD k.toNat labT.dflt)) then (bif decide ((0 : Int) ≤ k ∧ k < (ls.length : Int)) then (bif decide (szX (mkL xu xe xc xt xk xl) ∧ szX (ls.getD k.toNat labT.dflt)) then (bif joinN (mkL xu xe xc xt xk xl) (ls.getD k.toNat labT.dflt) != joinN (mkL xu xe xc xt xk xl) (ls.getD k.toNat labT.dflt) then (some ((Ex.ret, [V.b false], [], [], 188, 0, 0))) else (bif decide (fitB (joinV (mkL xu xe xc xt xk xl) (ls.getD k.toNat labT.dflt)) (joinV (mkL xu xe xc xt xk xl) (ls.getD k.toNat labT.dflt))) then (bif !sameB (joinV (mkL xu xe xc xt xk xl) (ls.getD k.toNat labT.dflt)) (joinV (mkL xu xe xc xt xk xl) (ls.getD k.toNat labT.dflt)) then (some ((Ex.ret, [V.b false], [], [], 188, 0, 0))) else (bif decide ((0 : Int) ≤ k ∧ k < (ls.length : Int)) then (bif decide (szX (mkL xu xe xc xt xk xl) ∧ szX (ls.getD k.toNat labT.dflt)) then (bif decide ((0 : Int) ≤ k ∧ k < (ls.length : Int)) then (bif decide (szX (mkL xu xe xc xt xk xl) ∧ szX (ls.getD k.toNat labT.dflt)) then (bif !belowB (mkL xu xe xc xt xk xl) (ls.getD k.toNat labT.dflt) == belowB (mkL xu xe xc xt xk xl) (ls.getD k.toNat labT.dflt) then (some ((Ex.ret, [V.b false], [], [], 188, 0, 0))) else (bif decide ((0 : Int) ≤ k ∧ k < (ls.length : Int)) then (bif decide (szX (mkL xu xe xc xt xk xl) ∧ szX (ls.getD k.toNat labT.dflt)) then (bif decide ((0 : Int) ≤ k ∧ k < (ls.length : Int)) then (bif decide (fitB (mkL xu xe xc xt xk xl) (ls.getD k.toNat labT.dflt)) then (bif !sameB (mkL xu xe xc xt xk xl) (ls.getD k.toNat labT.dflt) == sameB (mkL xu xe xc xt xk xl) (ls.getD k.toNat labT.dflt) then (some ((Ex.ret, [V.b false], [], [], 188, 0, 0))) else (some ((Ex.normal, [V.ptr 0 0, V.ptr 1 0, V.ptr 2 0, V.slst .ro labT ls, V.si .i64 i, V.ptr 3 0, V.si .i64 (IntKind.i64.wrap (k + (1 : Int)))], [some [V.si .i64 n0, V.si .i64 n1, V.si .i64 n2, V.si .i64 n3, V.si .i64 n4], some [V.si .i64 now, V.si .i64 dr, V.slst .ro ity me, V.slst .ro conf mc, V.slst .ro ity mk], some [V.si .i64 rt, V.si .i64 rc], some [V.si .i64 xu, V.slst .ro ity xe, V.slst .ro conf xc, V.si .i64 xt, V.si .i64 xk, V.slst .ro lockT xl]], [], 188, 0, 0)))) else none) else none) else none) else none)) else none) else none) else none) else none)) else none)) else none) else none) else none) else none) else (some ((Ex.exit 2, [V.ptr 0 0, V.ptr 1 0, V.ptr 2 0, V.slst .ro labT ls, V.si .i64 i, V.ptr 3 0], [some [V.si .i64 n0, V.si .i64 n1, V.si .i64 n2, V.si .i64 n3, V.si .i64 n4], some [V.si .i64 now, V.si .i64 dr, V.slst .ro ity me, V.slst .ro conf mc, V.slst .ro ity mk], some [V.si .i64 rt, V.si .i64 rc], some [V.si .i64 xu, V.slst .ro ity xe, V.slst .ro conf xc, V.si .i64 xt, V.si .i64 xk, V.slst .ro lockT xl]], [], 188, 0, 0)))) := by kernel_rfl
theorem rn_m1_c (n0 n1 n2 n3 n4 : Int) (now dr : Int) (me : List Int) (mc : List (Ty.den conf)) (mk : List Int) (rt rc : Int) (ls : List (Ty.den labT)) (i k : Int) (xu : Int) (xe : List Int) (xc : List (Ty.den conf)) (xt xk : Int) (xl : List (Ty.den lockT)) {e : Ex} {vs : List V} {ob : Ob} {nm : Nm} {n' kh kt : Nat} (h : (rn_m1 n0 n1 n2 n3 n4 now dr me mc mk rt rc ls i k xu xe xc xt xk xl).run = some (e, vs, ob, nm, n', kh, kt)) : SemC Tryd.prog Γ (lp 3 1) (st_m1 n0 n1 n2 n3 n4 now dr me mc mk rt rc ls i k xu xe xc xt xk xl) e.to (St.of n' (lve_m1 e) vs ob nm kh kt) := SemC.of_evM cfg62_ok Tryd.func3 bd_m1 li_m1 h
def hp_m3 : HP := { n := 188, lv := [8, 10, 11, 13, 14, 15, 22, 139, 140, 141, 153, 154, 155], sp := [.ptr 0 0, .ptr 1 0, .ptr 2 0, .ty (.slice labT), .ty ity, .ptr 3 0, .ptr 4 0, .ty (.slice momT), .ty ity, .ty ity, .ty (.slice redT), .ty ity, .ty ity], op := [.cells [.ty ity, .ty ity, .ty ity, .ty ity, .ty ity], .cells [.ty ity, .ty ity, .ty (.slice ity), .ty (.slice conf), .ty (.slice ity)], .cells [.ty ity, .ty ity], .cells [.ty ity, .ty (.slice ity), .ty (.slice conf), .ty ity, .ty ity, .ty (.slice lockT)], .cells [.ty ity, .ty ity, .ty (.slice ity), .ty (.slice conf), .ty (.slice ity)]], bp := [] }
def lve_m3 : Ex → List Nat
 | .normal => [8, 10, 11, 13, 14, 15, 22, 139, 140, 141, 153, 154, 155]
 | .ret => [12]
 | .exit 6 => [8, 10, 11, 13, 14, 15, 139, 140, 141]
 | _ => []
theorem bd_m3 : Tryd.f3.body = some (root 3) := by kernel_rfl
theorem le_m3 : (loops (root 3))[3]? = some (lp 3 3) := by kernel_rfl
theorem li_m3 : Lies (root 3) 4 (lp 3 3) := Lies.of_take (n := 0) (by kernel_rfl)
def st_m3 (n0 n1 n2 n3 n4 : Int) (now dr : Int) (me : List Int) (mc : List (Ty.den conf)) (mk : List Int) (rt rc : Int) (ls : List (Ty.den labT)) (i : Int) (xu : Int) (xe : List Int) (xc : List (Ty.den conf)) (xt xk : Int) (xl : List (Ty.den lockT)) (pu pd : Int) (pe : List Int) (pc : List (Ty.den conf)) (pk : List Int) (ms : List (Ty.den momT)) (mn mi : Int) (rs : List (Ty.den redT)) (rn ri : Int) : St := hp_m3.st ⟨((), (), (), ls, i, (), (), ms, mn, mi, rs, rn, ri, ()), ((n0, n1, n2, n3, n4, ()), (now, dr, me, mc, mk, ()), (rt, rc, ()), (xu, xe, xc, xt, xk, xl, ()), (pu, pd, pe, pc, pk, ()), ()), ()⟩
noncomputable def rn_m3 (n0 n1 n2 n3 n4 : Int) (now dr : Int) (me : List Int) (mc : List (Ty.den conf)) (mk : List Int) (rt rc : Int) (ls : List (Ty.den labT)) (i : Int) (xu : Int) (xe : List Int) (xc : List (Ty.den conf)) (xt xk : Int) (xl : List (Ty.den lockT)) (pu pd : Int) (pe : List Int) (pc : List (Ty.den conf)) (pk : List Int) (ms : List (Ty.den momT)) (mn mi : Int) (rs : List (Ty.den redT)) (rn ri : Int) := outa lve_m3 (evCK Tryd.prog Γ (cfM Tryd.prog Γ cfg62 30) (cfg62.lo 3) [] 60 4 (lp 3 3) (st_m3 n0 n1 n2 n3 n4 now dr me mc mk rt rc ls i xu xe xc xt xk xl pu pd pe pc pk ms mn mi rs rn ri))
theorem rn_m3_eq (n0 n1 n2 n3 n4 : Int) (now dr : Int) (me : List Int) (mc : List (Ty.den conf)) (mk : List Int) (rt rc : Int) (ls : List (Ty.den labT)) (i : Int) (xu : Int) (xe : List Int) (xc : List (Ty.den conf)) (xt xk : Int) (xl : List (Ty.den lockT)) (pu pd : Int) (pe : List Int) (pc : List (Ty.den conf)) (pk : List Int) (ms : List (Ty.den momT)) (mn mi : Int) (rs : List (Ty.den redT)) (rn ri : Int) : (rn_m3 n0 n1 n2 n3 n4 now dr me mc mk rt rc ls i xu xe xc xt xk xl pu pd pe pc pk ms mn mi rs rn ri).run = (bif decide (ri < rn) then (bif decide ((0 : Int) ≤ ri ∧ ri < (rs.length : Int)) then (bif decide (szE xe xc xl ∧ szM pe pc pk) then (bif decide (szX (mkL xu xe xc xt xk xl) ∧ szY (mkM pu pd pe pc pk)) then (bif reasonE xu xe xc xt xk xl (rs.getD ri.toNat redT.dflt).fst (rs.getD ri.toNat redT.dflt).snd.fst pu pd pe pc pk != reasonE (aU (mkL xu xe xc xt xk xl)) (aE (mkL xu xe xc xt xk xl)) (aC (mkL xu xe xc xt xk xl)) (aT (mkL xu xe xc xt xk xl)) (aK (mkL xu xe xc xt xk xl)) (aL (mkL xu xe xc xt xk xl)) (rs.getD ri.toNat redT.dflt).fst (rs.getD ri.toNat redT.dflt).snd.fst (bN (mkM pu pd pe pc pk)) (bD (mkM pu pd pe pc pk)) (bE (mkM pu pd pe pc pk)) (bC (mkM pu pd pe pc pk)) (bK (mkM pu pd pe pc pk)) then (some ((Ex.ret, [V.b false], [], [], 188, 0, 0))) else (bif decide (szE xe xc xl ∧ szM pe pc pk) then (bif decide (szX (mkL xu xe xc xt xk xl) ∧ szY (mkM pu pd pe pc pk)) then (bif !(reasonE xu xe xc xt xk xl (rs.getD ri.toNat redT.dflt).fst (rs.getD ri.toNat redT.dflt).snd.fst pu pd pe pc pk == (0 : Int)) == (reasonE (aU (mkL xu xe xc xt xk xl)) (aE (mkL xu xe xc xt xk xl)) (aC (mkL xu xe xc xt xk xl)) (aT (mkL xu xe xc xt xk xl)) (aK (mkL xu xe xc xt xk xl)) (aL (mkL xu xe xc xt xk xl)) (rs.getD ri.toNat redT.dflt).fst (rs.getD ri.toNat redT.dflt).snd.fst (bN (mkM pu pd pe pc pk)) (bD (mkM pu pd pe pc pk)) (bE (mkM pu pd pe pc pk)) (bC (mkM pu pd pe pc pk)) (bK (mkM pu pd pe pc pk)) == (0 : Int)) then (some ((Ex.ret, [V.b false], [], [], 188, 0, 0))) else (bif decide (szM pe pc pk) then (bif decide (szY (mkM pu pd pe pc pk)) then (bif !validM pu pd pe pc pk == vY (mkM pu pd pe pc pk) then (some ((Ex.ret, [V.b false], [], [], 188, 0, 0))) else (some ((Ex.normal, [V.ptr 0 0, V.ptr 1 0, V.ptr 2 0, V.slst .ro labT ls, V.si .i64 i, V.ptr 3 0, V.ptr 4 0, V.slst .ro momT ms, V.si .i64 mn, V.si .i64 mi, V.slst .ro redT rs, V.si .i64 rn, V.si .i64 (IntKind.i64.wrap (ri + (1 : Int)))], [some [V.si .i64 n0, V.si .i64 n1, V.si .i64 n2, V.si .i64 n3, V.si .i64 n4], some [V.si .i64 now, V.si .i64 dr, V.slst .ro ity me, V.slst .ro conf mc, V.slst .ro ity mk], some [V.si .i64 rt, V.si .i64 rc], some [V.si .i64 xu, V.slst .ro ity xe, V.slst .ro conf xc, V.si .i64 xt, V.si .i64 xk, V.slst .ro lockT xl], some [V.si .i64 pu, V.si .i64 pd, V.slst .ro ity pe, V.slst .ro conf pc, V.slst .ro ity pk]], [], 188, 0, 0)))) else none) else none)) else none) else none)) else none) else none) else none) else (some ((Ex.exit 6, [V.ptr 0 0, V.ptr 1 0, V.ptr 2 0, V.slst .ro labT ls, V.si .i64 i, V.ptr 3 0, V.slst .ro momT ms, V.si .i64 mn, V.si .i64 mi], [some [V.si .i64 n0, V.si .i64 n1, V.si .i64 n2, V.si .i64 n3, V.si .i64 n4], some [V.si .i64 now, V.si .i64 dr, V.slst .ro ity me, V.slst .ro conf mc, V.slst .ro ity mk], some [V.si .i64 rt, V.si .i64 rc], some [V.si .i64 xu, V.slst .ro ity xe, V.slst .ro conf xc, V.si .i64 xt, V.si .i64 xk, V.slst .ro lockT xl]], [], 188, 0, 0)))) := by kernel_rfl
theorem rn_m3_c (n0 n1 n2 n3 n4 : Int) (now dr : Int) (me : List Int) (mc : List (Ty.den conf)) (mk : List Int) (rt rc : Int) (ls : List (Ty.den labT)) (i : Int) (xu : Int) (xe : List Int) (xc : List (Ty.den conf)) (xt xk : Int) (xl : List (Ty.den lockT)) (pu pd : Int) (pe : List Int) (pc : List (Ty.den conf)) (pk : List Int) (ms : List (Ty.den momT)) (mn mi : Int) (rs : List (Ty.den redT)) (rn ri : Int) {e : Ex} {vs : List V} {ob : Ob} {nm : Nm} {n' kh kt : Nat} (h : (rn_m3 n0 n1 n2 n3 n4 now dr me mc mk rt rc ls i xu xe xc xt xk xl pu pd pe pc pk ms mn mi rs rn ri).run = some (e, vs, ob, nm, n', kh, kt)) : SemC Tryd.prog Γ (lp 3 3) (st_m3 n0 n1 n2 n3 n4 now dr me mc mk rt rc ls i xu xe xc xt xk xl pu pd pe pc pk ms mn mi rs rn ri) e.to (St.of n' (lve_m3 e) vs ob nm kh kt) := SemC.of_evM cfg62_ok Tryd.func3 bd_m3 li_m3 h
end L
end Go.Proofs.YthjiodeaepigmaaDoor

/- Package label: LabelMatchesReference's inner loops. -/
set_option linter.unusedVariables false
set_option linter.unusedSimpArgs false
set_option maxRecDepth 100000
set_option maxHeartbeats 4000000
namespace Go.Proofs.YthjiodeaepigmaaDoor
open Go
namespace L
instance (x : Ty.den labT) : Decidable (good x) := inferInstanceAs (Decidable (_ ∧ _))
theorem good_joinV (x y : Ty.den labT) : good (joinV x y) := by
 unfold joinV
 cases h : joinB x y with
 | false => exact good_zero
 | true =>
  have h' := h
  unfold joinB at h'
  rw [Bool.and_eq_true, Bool.and_eq_true, decide_eq_true_eq] at h'
  exact good_valid (join_valid h'.1.1 h'.1.2 h'.2)
abbrev pre_m1 (n0 n1 n2 n3 n4 : Int) (now dr : Int) (me : List Int) (mc : List (Ty.den conf)) (mk : List Int) (rt rc : Int) (ls : List (Ty.den labT)) (i k : Int) (xu : Int) (xe : List Int) (xc : List (Ty.den conf)) (xt xk : Int) (xl : List (Ty.den lockT)) : Prop := k = 0 ∧ good (mkL xu xe xc xt xk xl) ∧ (∀ z ∈ ls, good z) ∧ ls.length ≤ 10
def rs_m1 (n0 n1 n2 n3 n4 : Int) (now dr : Int) (me : List Int) (mc : List (Ty.den conf)) (mk : List Int) (rt rc : Int) (ls : List (Ty.den labT)) (i k : Int) (xu : Int) (xe : List Int) (xc : List (Ty.den conf)) (xt xk : Int) (xl : List (Ty.den lockT)) : Ex × St := (.exit 2, St.of 188 (lve_m1 (.exit 2)) [.ptr 0 0, .ptr 1 0, .ptr 2 0, .slst .ro labT ls, .si .i64 i, .ptr 3 0] [some [.si .i64 n0, .si .i64 n1, .si .i64 n2, .si .i64 n3, .si .i64 n4], some [.si .i64 now, .si .i64 dr, .slst .ro ity me, .slst .ro conf mc, .slst .ro ity mk], some [.si .i64 rt, .si .i64 rc], some [.si .i64 xu, .slst .ro ity xe, .slst .ro conf xc, .si .i64 xt, .si .i64 xk, .slst .ro lockT xl]] [] hp_m1.kh hp_m1.kt)
def res_m1 (n0 n1 n2 n3 n4 : Int) (now dr : Int) (me : List Int) (mc : List (Ty.den conf)) (mk : List Int) (rt rc : Int) (ls : List (Ty.den labT)) (i k : Int) (xu : Int) (xe : List Int) (xc : List (Ty.den conf)) (xt xk : Int) (xl : List (Ty.den lockT)) : Tr (Ex × St) := .br (decide (pre_m1 n0 n1 n2 n3 n4 now dr me mc mk rt rc ls i k xu xe xc xt xk xl)) (.leaf (some (.exit 2, St.of 188 (lve_m1 (.exit 2)) [.ptr 0 0, .ptr 1 0, .ptr 2 0, .slst .ro labT ls, .si .i64 i, .ptr 3 0] [some [.si .i64 n0, .si .i64 n1, .si .i64 n2, .si .i64 n3, .si .i64 n4], some [.si .i64 now, .si .i64 dr, .slst .ro ity me, .slst .ro conf mc, .slst .ro ity mk], some [.si .i64 rt, .si .i64 rc], some [.si .i64 xu, .slst .ro ity xe, .slst .ro conf xc, .si .i64 xt, .si .i64 xk, .slst .ro lockT xl]] [] hp_m1.kh hp_m1.kt))) (.leaf none)
def ent_m1 : LEnt := LEnt.by hp_m1 fun ⟨(_, _, _, ls, i, _, k, _), ((n0, n1, n2, n3, n4, _), (now, dr, me, mc, mk, _), (rt, rc, _), (xu, xe, xc, xt, xk, xl, _), _), _⟩ => res_m1 n0 n1 n2 n3 n4 now dr me mc mk rt rc ls i k xu xe xc xt xk xl
theorem ent_m1_ok (hgo : ∀ (n0 n1 n2 n3 n4 : Int) (now dr : Int) (me : List Int) (mc : List (Ty.den conf)) (mk : List Int) (rt rc : Int) (ls : List (Ty.den labT)) (i k : Int) (xu : Int) (xe : List Int) (xc : List (Ty.den conf)) (xt xk : Int) (xl : List (Ty.den lockT)), pre_m1 n0 n1 n2 n3 n4 now dr me mc mk rt rc ls i k xu xe xc xt xk xl → SemL Tryd.prog Γ (lp 3 1) (st_m1 n0 n1 n2 n3 n4 now dr me mc mk rt rc ls i k xu xe xc xt xk xl) (rs_m1 n0 n1 n2 n3 n4 now dr me mc mk rt rc ls i k xu xe xc xt xk xl).1.to (rs_m1 n0 n1 n2 n3 n4 now dr me mc mk rt rc ls i k xu xe xc xt xk xl).2) : EntOk Tryd.prog Γ (lp 3 1) ent_m1 := LEnt.by_ok fun ⟨(_, _, _, ls, i, _, k, _), ((n0, n1, n2, n3, n4, _), (now, dr, me, mc, mk, _), (rt, rc, _), (xu, xe, xc, xt, xk, xl, _), _), _⟩ _ _ h_ => SemL.br (out := rs_m1 n0 n1 n2 n3 n4 now dr me mc mk rt rc ls i k xu xe xc xt xk xl) rfl (hgo n0 n1 n2 n3 n4 now dr me mc mk rt rc ls i k xu xe xc xt xk xl) h_
theorem m1_go (n0 n1 n2 n3 n4 : Int) (now dr : Int) (me : List Int) (mc : List (Ty.den conf)) (mk : List Int) (rt rc : Int) (ls : List (Ty.den labT)) (i k : Int) (xu : Int) (xe : List Int) (xc : List (Ty.den conf)) (xt xk : Int) (xl : List (Ty.den lockT)) (h : pre_m1 n0 n1 n2 n3 n4 now dr me mc mk rt rc ls i k xu xe xc xt xk xl) : SemL Tryd.prog Γ (lp 3 1) (st_m1 n0 n1 n2 n3 n4 now dr me mc mk rt rc ls i k xu xe xc xt xk xl) (rs_m1 n0 n1 n2 n3 n4 now dr me mc mk rt rc ls i k xu xe xc xt xk xl).1.to (rs_m1 n0 n1 n2 n3 n4 now dr me mc mk rt rc ls i k xu xe xc xt xk xl).2 := by
 obtain ⟨rfl, ga, gl, hl⟩ := h
 refine SemL.scan ls.length 0 (Nat.zero_le _) (fun k => st_m1 n0 n1 n2 n3 n4 now dr me mc mk rt rc ls i (k : Nat) xu xe xc xt xk xl) (fun _ => true) _ ?_ ?_ ?_
 · intro k _ hk _ _
   have hw : IntKind.i64.wrap ((k : Int) + 1) = ((k + 1 : Nat) : Int) := by rw [wrap_in (by omega) (by omega)]; rfl
   have gb := gl _ (getD_mem hk labT.dflt)
   have gj := good_joinV (mkL xu xe xc xt xk xl) (ls.getD k labT.dflt)
   have eq := rn_m1_eq n0 n1 n2 n3 n4 now dr me mc mk rt rc ls i k xu xe xc xt xk xl
   rw [hw, decide_eq_true (by omega : (k : Int) < (ls.length : Int)), decide_eq_true (by omega : (0 : Int) ≤ (k : Int) ∧ (k : Int) < (ls.length : Int)), Int.toNat_natCast, sz_dec ga gb, fit_dec gj gj, fit_dec ga gb, bne_self_eq_false, same_self, beq_self_eq_true, beq_self_eq_true] at eq
   exact rn_m1_c n0 n1 n2 n3 n4 now dr me mc mk rt rc ls i k xu xe xc xt xk xl (eq.trans rfl)
 · intro i _ _ _ h; cases h
 · intro _
   refine ⟨by simp [rs_m1, Ex.to], ?_⟩
   have eq := rn_m1_eq n0 n1 n2 n3 n4 now dr me mc mk rt rc ls i (ls.length : Nat) xu xe xc xt xk xl
   rw [decide_eq_false (by omega)] at eq
   exact rn_m1_c n0 n1 n2 n3 n4 now dr me mc mk rt rc ls i (ls.length : Nat) xu xe xc xt xk xl (eq.trans rfl)
abbrev pre_m3 (n0 n1 n2 n3 n4 : Int) (now dr : Int) (me : List Int) (mc : List (Ty.den conf)) (mk : List Int) (rt rc : Int) (ls : List (Ty.den labT)) (i : Int) (xu : Int) (xe : List Int) (xc : List (Ty.den conf)) (xt xk : Int) (xl : List (Ty.den lockT)) (pu pd : Int) (pe : List Int) (pc : List (Ty.den conf)) (pk : List Int) (ms : List (Ty.den momT)) (mn mi : Int) (rs : List (Ty.den redT)) (rn ri : Int) : Prop := ri = 0 ∧ rn = (rs.length : Int) ∧ rs.length ≤ 10 ∧ szX (mkL xu xe xc xt xk xl) ∧ szY (mkM pu pd pe pc pk)
def rs_m3 (n0 n1 n2 n3 n4 : Int) (now dr : Int) (me : List Int) (mc : List (Ty.den conf)) (mk : List Int) (rt rc : Int) (ls : List (Ty.den labT)) (i : Int) (xu : Int) (xe : List Int) (xc : List (Ty.den conf)) (xt xk : Int) (xl : List (Ty.den lockT)) (pu pd : Int) (pe : List Int) (pc : List (Ty.den conf)) (pk : List Int) (ms : List (Ty.den momT)) (mn mi : Int) (rs : List (Ty.den redT)) (rn ri : Int) : Ex × St := (.exit 6, St.of 188 (lve_m3 (.exit 6)) [.ptr 0 0, .ptr 1 0, .ptr 2 0, .slst .ro labT ls, .si .i64 i, .ptr 3 0, .slst .ro momT ms, .si .i64 mn, .si .i64 mi] [some [.si .i64 n0, .si .i64 n1, .si .i64 n2, .si .i64 n3, .si .i64 n4], some [.si .i64 now, .si .i64 dr, .slst .ro ity me, .slst .ro conf mc, .slst .ro ity mk], some [.si .i64 rt, .si .i64 rc], some [.si .i64 xu, .slst .ro ity xe, .slst .ro conf xc, .si .i64 xt, .si .i64 xk, .slst .ro lockT xl]] [] hp_m3.kh hp_m3.kt)
def res_m3 (n0 n1 n2 n3 n4 : Int) (now dr : Int) (me : List Int) (mc : List (Ty.den conf)) (mk : List Int) (rt rc : Int) (ls : List (Ty.den labT)) (i : Int) (xu : Int) (xe : List Int) (xc : List (Ty.den conf)) (xt xk : Int) (xl : List (Ty.den lockT)) (pu pd : Int) (pe : List Int) (pc : List (Ty.den conf)) (pk : List Int) (ms : List (Ty.den momT)) (mn mi : Int) (rs : List (Ty.den redT)) (rn ri : Int) : Tr (Ex × St) := .br (decide (pre_m3 n0 n1 n2 n3 n4 now dr me mc mk rt rc ls i xu xe xc xt xk xl pu pd pe pc pk ms mn mi rs rn ri)) (.leaf (some (.exit 6, St.of 188 (lve_m3 (.exit 6)) [.ptr 0 0, .ptr 1 0, .ptr 2 0, .slst .ro labT ls, .si .i64 i, .ptr 3 0, .slst .ro momT ms, .si .i64 mn, .si .i64 mi] [some [.si .i64 n0, .si .i64 n1, .si .i64 n2, .si .i64 n3, .si .i64 n4], some [.si .i64 now, .si .i64 dr, .slst .ro ity me, .slst .ro conf mc, .slst .ro ity mk], some [.si .i64 rt, .si .i64 rc], some [.si .i64 xu, .slst .ro ity xe, .slst .ro conf xc, .si .i64 xt, .si .i64 xk, .slst .ro lockT xl]] [] hp_m3.kh hp_m3.kt))) (.leaf none)
def ent_m3 : LEnt := LEnt.by hp_m3 fun ⟨(_, _, _, ls, i, _, _, ms, mn, mi, rs, rn, ri, _), ((n0, n1, n2, n3, n4, _), (now, dr, me, mc, mk, _), (rt, rc, _), (xu, xe, xc, xt, xk, xl, _), (pu, pd, pe, pc, pk, _), _), _⟩ => res_m3 n0 n1 n2 n3 n4 now dr me mc mk rt rc ls i xu xe xc xt xk xl pu pd pe pc pk ms mn mi rs rn ri
theorem ent_m3_ok (hgo : ∀ (n0 n1 n2 n3 n4 : Int) (now dr : Int) (me : List Int) (mc : List (Ty.den conf)) (mk : List Int) (rt rc : Int) (ls : List (Ty.den labT)) (i : Int) (xu : Int) (xe : List Int) (xc : List (Ty.den conf)) (xt xk : Int) (xl : List (Ty.den lockT)) (pu pd : Int) (pe : List Int) (pc : List (Ty.den conf)) (pk : List Int) (ms : List (Ty.den momT)) (mn mi : Int) (rs : List (Ty.den redT)) (rn ri : Int), pre_m3 n0 n1 n2 n3 n4 now dr me mc mk rt rc ls i xu xe xc xt xk xl pu pd pe pc pk ms mn mi rs rn ri → SemL Tryd.prog Γ (lp 3 3) (st_m3 n0 n1 n2 n3 n4 now dr me mc mk rt rc ls i xu xe xc xt xk xl pu pd pe pc pk ms mn mi rs rn ri) (rs_m3 n0 n1 n2 n3 n4 now dr me mc mk rt rc ls i xu xe xc xt xk xl pu pd pe pc pk ms mn mi rs rn ri).1.to (rs_m3 n0 n1 n2 n3 n4 now dr me mc mk rt rc ls i xu xe xc xt xk xl pu pd pe pc pk ms mn mi rs rn ri).2) : EntOk Tryd.prog Γ (lp 3 3) ent_m3 := LEnt.by_ok fun ⟨(_, _, _, ls, i, _, _, ms, mn, mi, rs, rn, ri, _), ((n0, n1, n2, n3, n4, _), (now, dr, me, mc, mk, _), (rt, rc, _), (xu, xe, xc, xt, xk, xl, _), (pu, pd, pe, pc, pk, _), _), _⟩ _ _ h_ => SemL.br (out := rs_m3 n0 n1 n2 n3 n4 now dr me mc mk rt rc ls i xu xe xc xt xk xl pu pd pe pc pk ms mn mi rs rn ri) rfl (hgo n0 n1 n2 n3 n4 now dr me mc mk rt rc ls i xu xe xc xt xk xl pu pd pe pc pk ms mn mi rs rn ri) h_
theorem m3_go (n0 n1 n2 n3 n4 : Int) (now dr : Int) (me : List Int) (mc : List (Ty.den conf)) (mk : List Int) (rt rc : Int) (ls : List (Ty.den labT)) (i : Int) (xu : Int) (xe : List Int) (xc : List (Ty.den conf)) (xt xk : Int) (xl : List (Ty.den lockT)) (pu pd : Int) (pe : List Int) (pc : List (Ty.den conf)) (pk : List Int) (ms : List (Ty.den momT)) (mn mi : Int) (rs : List (Ty.den redT)) (rn ri : Int) (h : pre_m3 n0 n1 n2 n3 n4 now dr me mc mk rt rc ls i xu xe xc xt xk xl pu pd pe pc pk ms mn mi rs rn ri) : SemL Tryd.prog Γ (lp 3 3) (st_m3 n0 n1 n2 n3 n4 now dr me mc mk rt rc ls i xu xe xc xt xk xl pu pd pe pc pk ms mn mi rs rn ri) (rs_m3 n0 n1 n2 n3 n4 now dr me mc mk rt rc ls i xu xe xc xt xk xl pu pd pe pc pk ms mn mi rs rn ri).1.to (rs_m3 n0 n1 n2 n3 n4 now dr me mc mk rt rc ls i xu xe xc xt xk xl pu pd pe pc pk ms mn mi rs rn ri).2 := by
 obtain ⟨rfl, rfl, hl, sx, sm⟩ := h
 have sx' : szE xe xc xl := sx
 have sm' : szM pe pc pk := sm
 refine SemL.scan rs.length 0 (Nat.zero_le _) (fun k => st_m3 n0 n1 n2 n3 n4 now dr me mc mk rt rc ls i xu xe xc xt xk xl pu pd pe pc pk ms mn mi rs rs.length (k : Nat)) (fun _ => true) _ ?_ ?_ ?_
 · intro k _ hk _ _
   have hw : IntKind.i64.wrap ((k : Int) + 1) = ((k + 1 : Nat) : Int) := by rw [wrap_in (by omega) (by omega)]; rfl
   have eq := rn_m3_eq n0 n1 n2 n3 n4 now dr me mc mk rt rc ls i xu xe xc xt xk xl pu pd pe pc pk ms mn mi rs rs.length k
   have a1 : aU (mkL xu xe xc xt xk xl) = xu := rfl
   have a2 : aE (mkL xu xe xc xt xk xl) = xe := rfl
   have a3 : aC (mkL xu xe xc xt xk xl) = xc := rfl
   have a4 : aT (mkL xu xe xc xt xk xl) = xt := rfl
   have a5 : aK (mkL xu xe xc xt xk xl) = xk := rfl
   have a6 : aL (mkL xu xe xc xt xk xl) = xl := rfl
   have b1 : bN (mkM pu pd pe pc pk) = pu := rfl
   have b2 : bD (mkM pu pd pe pc pk) = pd := rfl
   have b3 : bE (mkM pu pd pe pc pk) = pe := rfl
   have b4 : bC (mkM pu pd pe pc pk) = pc := rfl
   have b5 : bK (mkM pu pd pe pc pk) = pk := rfl
   have b6 : vY (mkM pu pd pe pc pk) = validM pu pd pe pc pk := rfl
   rw [hw, decide_eq_true (by omega : (k : Int) < (rs.length : Int)), decide_eq_true (by omega : (0 : Int) ≤ (k : Int) ∧ (k : Int) < (rs.length : Int)), Int.toNat_natCast, decide_eq_true (And.intro sx sm), decide_eq_true (And.intro sx' sm'), decide_eq_true sm, decide_eq_true sm', a1, a2, a3, a4, a5, a6, b1, b2, b3, b4, b5, b6, bne_self_eq_false, beq_self_eq_true, beq_self_eq_true] at eq
   exact rn_m3_c n0 n1 n2 n3 n4 now dr me mc mk rt rc ls i xu xe xc xt xk xl pu pd pe pc pk ms mn mi rs rs.length k (eq.trans rfl)
 · intro i _ _ _ h; cases h
 · intro _
   refine ⟨by simp [rs_m3, Ex.to], ?_⟩
   have eq := rn_m3_eq n0 n1 n2 n3 n4 now dr me mc mk rt rc ls i xu xe xc xt xk xl pu pd pe pc pk ms mn mi rs rs.length (rs.length : Nat)
   rw [decide_eq_false (by omega)] at eq
   exact rn_m3_c n0 n1 n2 n3 n4 now dr me mc mk rt rc ls i xu xe xc xt xk xl pu pd pe pc pk ms mn mi rs rs.length (rs.length : Nat) (eq.trans rfl)
def lo62 : LOrc := (LOrc.add (LOrc.add lo60 3 1 ent_m1) 3 3 ent_m3)
theorem lo62_ok : LOrcOk Tryd.prog Γ lo62 := (LOrcOk.add (LOrcOk.add lo60_ok 3 1 Tryd.func3 bd_m1 le_m1 (ent_m1_ok m1_go)) 3 3 Tryd.func3 bd_m3 le_m3 (ent_m3_ok m3_go))
noncomputable def cfg63 : Cfg := cfgT T36 isT36 orc61 lo62
theorem cfg63_ok : CfgOk Tryd.prog Γ cfg63 := cfgT_ok T36_ok orc61_ok lo62_ok
def hp_m2 : HP := { n := 188, lv := [8, 10, 11, 13, 14, 15, 139, 140, 141], sp := [.ptr 0 0, .ptr 1 0, .ptr 2 0, .ty (.slice labT), .ty ity, .ptr 3 0, .ty (.slice momT), .ty ity, .ty ity], op := [.cells [.ty ity, .ty ity, .ty ity, .ty ity, .ty ity], .cells [.ty ity, .ty ity, .ty (.slice ity), .ty (.slice conf), .ty (.slice ity)], .cells [.ty ity, .ty ity], .cells [.ty ity, .ty (.slice ity), .ty (.slice conf), .ty ity, .ty ity, .ty (.slice lockT)]], bp := [] }
def lve_m2 : Ex → List Nat
 | .normal => [8, 10, 11, 13, 14, 15, 139, 140, 141]
 | .ret => [12]
 | .exit 4 => [8, 10, 11, 13, 14]
 | _ => []
theorem bd_m2 : Tryd.f3.body = some (root 3) := by kernel_rfl
theorem le_m2 : (loops (root 3))[2]? = some (lp 3 2) := by kernel_rfl
theorem li_m2 : Lies (root 3) 3 (lp 3 2) := Lies.of_take (n := 1) (by kernel_rfl)
def st_m2 (n0 n1 n2 n3 n4 : Int) (now dr : Int) (me : List Int) (mc : List (Ty.den conf)) (mk : List Int) (rt rc : Int) (ls : List (Ty.den labT)) (i : Int) (xu : Int) (xe : List Int) (xc : List (Ty.den conf)) (xt xk : Int) (xl : List (Ty.den lockT)) (ms : List (Ty.den momT)) (mn mi : Int) : St := hp_m2.st ⟨((), (), (), ls, i, (), ms, mn, mi, ()), ((n0, n1, n2, n3, n4, ()), (now, dr, me, mc, mk, ()), (rt, rc, ()), (xu, xe, xc, xt, xk, xl, ()), ()), ()⟩
noncomputable def rn_m2 (n0 n1 n2 n3 n4 : Int) (now dr : Int) (me : List Int) (mc : List (Ty.den conf)) (mk : List Int) (rt rc : Int) (ls : List (Ty.den labT)) (i : Int) (xu : Int) (xe : List Int) (xc : List (Ty.den conf)) (xt xk : Int) (xl : List (Ty.den lockT)) (ms : List (Ty.den momT)) (mn mi : Int) := outa lve_m2 (evCK Tryd.prog Γ (cfM Tryd.prog Γ cfg63 30) (cfg63.lo 3) [] 60 3 (lp 3 2) (st_m2 n0 n1 n2 n3 n4 now dr me mc mk rt rc ls i xu xe xc xt xk xl ms mn mi))
theorem rn_m2_eq (n0 n1 n2 n3 n4 : Int) (now dr : Int) (me : List Int) (mc : List (Ty.den conf)) (mk : List Int) (rt rc : Int) (ls : List (Ty.den labT)) (i : Int) (xu : Int) (xe : List Int) (xc : List (Ty.den conf)) (xt xk : Int) (xl : List (Ty.den lockT)) (ms : List (Ty.den momT)) (mn mi : Int) : (rn_m2 n0 n1 n2 n3 n4 now dr me mc mk rt rc ls i xu xe xc xt xk xl ms mn mi).run = (bif decide (mi < mn) then (bif decide ((0 : Int) ≤ mi ∧ mi < (ms.length : Int)) then (bif inr rt && decide ((8 : Int) ≠ (0 : Int)) then (bif inr rc && decide ((8 : Int) ≠ (0 : Int)) then (bif decide (pre_m3 n0 n1 n2 n3 n4 now dr me mc mk rt rc ls i xu xe xc xt xk xl (bN (ms.getD mi.toNat momT.dflt)) (bD (ms.getD mi.toNat momT.dflt)) (bE (ms.getD mi.toNat momT.dflt)) (bC (ms.getD mi.toNat momT.dflt)) (bK (ms.getD mi.toNat momT.dflt)) ms mn mi [mkR rt rc, mkR (pickD rt (8 : Int)) (pickD rc (8 : Int))] (2 : Int) (0 : Int)) then (some ((Ex.normal, [V.ptr 0 0, V.ptr 1 0, V.ptr 2 0, V.slst .ro labT ls, V.si .i64 i, V.ptr 3 0, V.slst .ro momT ms, V.si .i64 mn, V.si .i64 (IntKind.i64.wrap (mi + (1 : Int)))], [some [V.si .i64 n0, V.si .i64 n1, V.si .i64 n2, V.si .i64 n3, V.si .i64 n4], some [V.si .i64 now, V.si .i64 dr, V.slst .ro ity me, V.slst .ro conf mc, V.slst .ro ity mk], some [V.si .i64 rt, V.si .i64 rc], some [V.si .i64 xu, V.slst .ro ity xe, V.slst .ro conf xc, V.si .i64 xt, V.si .i64 xk, V.slst .ro lockT xl]], [], 188, 0, 0))) else none) else none) else none) else none) else (some ((Ex.exit 4, [V.ptr 0 0, V.ptr 1 0, V.ptr 2 0, V.slst .ro labT ls, V.si .i64 i], [some [V.si .i64 n0, V.si .i64 n1, V.si .i64 n2, V.si .i64 n3, V.si .i64 n4], some [V.si .i64 now, V.si .i64 dr, V.slst .ro ity me, V.slst .ro conf mc, V.slst .ro ity mk], some [V.si .i64 rt, V.si .i64 rc]], [], 188, 0, 0)))) := by kernel_rfl
theorem rn_m2_c (n0 n1 n2 n3 n4 : Int) (now dr : Int) (me : List Int) (mc : List (Ty.den conf)) (mk : List Int) (rt rc : Int) (ls : List (Ty.den labT)) (i : Int) (xu : Int) (xe : List Int) (xc : List (Ty.den conf)) (xt xk : Int) (xl : List (Ty.den lockT)) (ms : List (Ty.den momT)) (mn mi : Int) {e : Ex} {vs : List V} {ob : Ob} {nm : Nm} {n' kh kt : Nat} (h : (rn_m2 n0 n1 n2 n3 n4 now dr me mc mk rt rc ls i xu xe xc xt xk xl ms mn mi).run = some (e, vs, ob, nm, n', kh, kt)) : SemC Tryd.prog Γ (lp 3 2) (st_m2 n0 n1 n2 n3 n4 now dr me mc mk rt rc ls i xu xe xc xt xk xl ms mn mi) e.to (St.of n' (lve_m2 e) vs ob nm kh kt) := SemC.of_evM cfg63_ok Tryd.func3 bd_m2 li_m2 h
end L
end Go.Proofs.YthjiodeaepigmaaDoor

/- Package label: LabelMatchesReference's outer loops; LabelMatchesReference, reckoned. -/
set_option linter.unusedVariables false
set_option linter.unusedSimpArgs false
set_option maxRecDepth 100000
set_option maxHeartbeats 4000000
namespace Go.Proofs.YthjiodeaepigmaaDoor
open Go
namespace L
abbrev pre_m2 (n0 n1 n2 n3 n4 : Int) (now dr : Int) (me : List Int) (mc : List (Ty.den conf)) (mk : List Int) (rt rc : Int) (ls : List (Ty.den labT)) (i : Int) (xu : Int) (xe : List Int) (xc : List (Ty.den conf)) (xt xk : Int) (xl : List (Ty.den lockT)) (ms : List (Ty.den momT)) (mn mi : Int) : Prop := mi = 0 ∧ mn = (ms.length : Int) ∧ ms.length ≤ 10 ∧ (∀ m ∈ ms, szY m) ∧ szX (mkL xu xe xc xt xk xl) ∧ inr rt = true ∧ inr rc = true
def rs_m2 (n0 n1 n2 n3 n4 : Int) (now dr : Int) (me : List Int) (mc : List (Ty.den conf)) (mk : List Int) (rt rc : Int) (ls : List (Ty.den labT)) (i : Int) (xu : Int) (xe : List Int) (xc : List (Ty.den conf)) (xt xk : Int) (xl : List (Ty.den lockT)) (ms : List (Ty.den momT)) (mn mi : Int) : Ex × St := (.exit 4, St.of 188 (lve_m2 (.exit 4)) [.ptr 0 0, .ptr 1 0, .ptr 2 0, .slst .ro labT ls, .si .i64 i] [some [.si .i64 n0, .si .i64 n1, .si .i64 n2, .si .i64 n3, .si .i64 n4], some [.si .i64 now, .si .i64 dr, .slst .ro ity me, .slst .ro conf mc, .slst .ro ity mk], some [.si .i64 rt, .si .i64 rc]] [] hp_m2.kh hp_m2.kt)
def res_m2 (n0 n1 n2 n3 n4 : Int) (now dr : Int) (me : List Int) (mc : List (Ty.den conf)) (mk : List Int) (rt rc : Int) (ls : List (Ty.den labT)) (i : Int) (xu : Int) (xe : List Int) (xc : List (Ty.den conf)) (xt xk : Int) (xl : List (Ty.den lockT)) (ms : List (Ty.den momT)) (mn mi : Int) : Tr (Ex × St) := .br (decide (pre_m2 n0 n1 n2 n3 n4 now dr me mc mk rt rc ls i xu xe xc xt xk xl ms mn mi)) (.leaf (some (.exit 4, St.of 188 (lve_m2 (.exit 4)) [.ptr 0 0, .ptr 1 0, .ptr 2 0, .slst .ro labT ls, .si .i64 i] [some [.si .i64 n0, .si .i64 n1, .si .i64 n2, .si .i64 n3, .si .i64 n4], some [.si .i64 now, .si .i64 dr, .slst .ro ity me, .slst .ro conf mc, .slst .ro ity mk], some [.si .i64 rt, .si .i64 rc]] [] hp_m2.kh hp_m2.kt))) (.leaf none)
def ent_m2 : LEnt := LEnt.by hp_m2 fun ⟨(_, _, _, ls, i, _, ms, mn, mi, _), ((n0, n1, n2, n3, n4, _), (now, dr, me, mc, mk, _), (rt, rc, _), (xu, xe, xc, xt, xk, xl, _), _), _⟩ => res_m2 n0 n1 n2 n3 n4 now dr me mc mk rt rc ls i xu xe xc xt xk xl ms mn mi
theorem ent_m2_ok (hgo : ∀ (n0 n1 n2 n3 n4 : Int) (now dr : Int) (me : List Int) (mc : List (Ty.den conf)) (mk : List Int) (rt rc : Int) (ls : List (Ty.den labT)) (i : Int) (xu : Int) (xe : List Int) (xc : List (Ty.den conf)) (xt xk : Int) (xl : List (Ty.den lockT)) (ms : List (Ty.den momT)) (mn mi : Int), pre_m2 n0 n1 n2 n3 n4 now dr me mc mk rt rc ls i xu xe xc xt xk xl ms mn mi → SemL Tryd.prog Γ (lp 3 2) (st_m2 n0 n1 n2 n3 n4 now dr me mc mk rt rc ls i xu xe xc xt xk xl ms mn mi) (rs_m2 n0 n1 n2 n3 n4 now dr me mc mk rt rc ls i xu xe xc xt xk xl ms mn mi).1.to (rs_m2 n0 n1 n2 n3 n4 now dr me mc mk rt rc ls i xu xe xc xt xk xl ms mn mi).2) : EntOk Tryd.prog Γ (lp 3 2) ent_m2 := LEnt.by_ok fun ⟨(_, _, _, ls, i, _, ms, mn, mi, _), ((n0, n1, n2, n3, n4, _), (now, dr, me, mc, mk, _), (rt, rc, _), (xu, xe, xc, xt, xk, xl, _), _), _⟩ _ _ h_ => SemL.br (out := rs_m2 n0 n1 n2 n3 n4 now dr me mc mk rt rc ls i xu xe xc xt xk xl ms mn mi) rfl (hgo n0 n1 n2 n3 n4 now dr me mc mk rt rc ls i xu xe xc xt xk xl ms mn mi) h_
theorem m2_go (n0 n1 n2 n3 n4 : Int) (now dr : Int) (me : List Int) (mc : List (Ty.den conf)) (mk : List Int) (rt rc : Int) (ls : List (Ty.den labT)) (i : Int) (xu : Int) (xe : List Int) (xc : List (Ty.den conf)) (xt xk : Int) (xl : List (Ty.den lockT)) (ms : List (Ty.den momT)) (mn mi : Int) (h : pre_m2 n0 n1 n2 n3 n4 now dr me mc mk rt rc ls i xu xe xc xt xk xl ms mn mi) : SemL Tryd.prog Γ (lp 3 2) (st_m2 n0 n1 n2 n3 n4 now dr me mc mk rt rc ls i xu xe xc xt xk xl ms mn mi) (rs_m2 n0 n1 n2 n3 n4 now dr me mc mk rt rc ls i xu xe xc xt xk xl ms mn mi).1.to (rs_m2 n0 n1 n2 n3 n4 now dr me mc mk rt rc ls i xu xe xc xt xk xl ms mn mi).2 := by
 obtain ⟨rfl, rfl, hl, hm, sx, ht, hc⟩ := h
 refine SemL.scan ms.length 0 (Nat.zero_le _) (fun k => st_m2 n0 n1 n2 n3 n4 now dr me mc mk rt rc ls i xu xe xc xt xk xl ms ms.length (k : Nat)) (fun _ => true) _ ?_ ?_ ?_
 · intro k _ hk _ _
   have hw : IntKind.i64.wrap ((k : Int) + 1) = ((k + 1 : Nat) : Int) := by rw [wrap_in (by omega) (by omega)]; rfl
   have sm := hm _ (getD_mem hk momT.dflt)
   have eq := rn_m2_eq n0 n1 n2 n3 n4 now dr me mc mk rt rc ls i xu xe xc xt xk xl ms ms.length k
   rw [hw, decide_eq_true (by omega : (k : Int) < (ms.length : Int)), decide_eq_true (by omega : (0 : Int) ≤ (k : Int) ∧ (k : Int) < (ms.length : Int)), Int.toNat_natCast, ht, hc, decide_eq_true (show (8 : Int) ≠ 0 by decide),
    decide_eq_true (show pre_m3 n0 n1 n2 n3 n4 now dr me mc mk rt rc ls i xu xe xc xt xk xl (bN (ms.getD k momT.dflt)) (bD (ms.getD k momT.dflt)) (bE (ms.getD k momT.dflt)) (bC (ms.getD k momT.dflt)) (bK (ms.getD k momT.dflt)) ms ms.length k [mkR rt rc, mkR (pickD rt 8) (pickD rc 8)] 2 0 from ⟨rfl, rfl, (by show 2 ≤ 10; decide), sx, sm⟩)] at eq
   exact rn_m2_c n0 n1 n2 n3 n4 now dr me mc mk rt rc ls i xu xe xc xt xk xl ms ms.length k (eq.trans rfl)
 · intro i _ _ _ h; cases h
 · intro _
   refine ⟨by simp [rs_m2, Ex.to], ?_⟩
   have eq := rn_m2_eq n0 n1 n2 n3 n4 now dr me mc mk rt rc ls i xu xe xc xt xk xl ms ms.length (ms.length : Nat)
   rw [decide_eq_false (by omega)] at eq
   exact rn_m2_c n0 n1 n2 n3 n4 now dr me mc mk rt rc ls i xu xe xc xt xk xl ms ms.length (ms.length : Nat) (eq.trans rfl)
def lo63 : LOrc := (LOrc.add lo62 3 2 ent_m2)
theorem lo63_ok : LOrcOk Tryd.prog Γ lo63 := (LOrcOk.add lo62_ok 3 2 Tryd.func3 bd_m2 le_m2 (ent_m2_ok m2_go))
noncomputable def cfg64 : Cfg := cfgT T36 isT36 orc61 lo63
theorem cfg64_ok : CfgOk Tryd.prog Γ cfg64 := cfgT_ok T36_ok orc61_ok lo63_ok
def hp_m0 : HP := { n := 188, lv := [8, 10, 11, 13, 14], sp := [.ptr 0 0, .ptr 1 0, .ptr 2 0, .ty (.slice labT), .ty ity], op := [.cells [.ty ity, .ty ity, .ty ity, .ty ity, .ty ity], .cells [.ty ity, .ty ity, .ty (.slice ity), .ty (.slice conf), .ty (.slice ity)], .cells [.ty ity, .ty ity]], bp := [] }
def lve_m0 : Ex → List Nat
 | .normal => [8, 10, 11, 13, 14]
 | .ret => [12]
 | .exit 0 => []
 | _ => []
theorem bd_m0 : Tryd.f3.body = some (root 3) := by kernel_rfl
theorem le_m0 : (loops (root 3))[0]? = some (lp 3 0) := by kernel_rfl
theorem li_m0 : Lies (root 3) 1 (lp 3 0) := Lies.of_take (n := 3) (by kernel_rfl)
def st_m0 (n0 n1 n2 n3 n4 : Int) (now dr : Int) (me : List Int) (mc : List (Ty.den conf)) (mk : List Int) (rt rc : Int) (ls : List (Ty.den labT)) (i : Int) : St := hp_m0.st ⟨((), (), (), ls, i, ()), ((n0, n1, n2, n3, n4, ()), (now, dr, me, mc, mk, ()), (rt, rc, ()), ()), ()⟩
noncomputable def rn_m0 (n0 n1 n2 n3 n4 : Int) (now dr : Int) (me : List Int) (mc : List (Ty.den conf)) (mk : List Int) (rt rc : Int) (ls : List (Ty.den labT)) (i : Int) := outa lve_m0 (evCK Tryd.prog Γ (cfM Tryd.prog Γ cfg64 30) (cfg64.lo 3) [] 60 1 (lp 3 0) (st_m0 n0 n1 n2 n3 n4 now dr me mc mk rt rc ls i))
theorem rn_m0_eq (n0 n1 n2 n3 n4 : Int) (now dr : Int) (me : List Int) (mc : List (Ty.den conf)) (mk : List Int) (rt rc : Int) (ls : List (Ty.den labT)) (i : Int) : (rn_m0 n0 n1 n2 n3 n4 now dr me mc mk rt rc ls i).run = (bif decide (i < (ls.length : Int)) then (bif decide ((0 : Int) ≤ i ∧ i < (ls.length : Int)) then (bif decide (szE (aE (ls.getD i.toNat labT.dflt)) (aC (ls.getD i.toNat labT.dflt)) (aL (ls.getD i.toNat labT.dflt))) then (bif decide (szX (ls.getD i.toNat labT.dflt)) then (bif !validE (aU (ls.getD i.toNat labT.dflt)) (aE (ls.getD i.toNat labT.dflt)) (aC (ls.getD i.toNat labT.dflt)) (aT (ls.getD i.toNat labT.dflt)) (aK (ls.getD i.toNat labT.dflt)) (aL (ls.getD i.toNat labT.dflt)) == vX (ls.getD i.toNat labT.dflt) then (some ((Ex.ret, [V.b false], [], [], 188, 0, 0))) else (bif decide (pre_m1 n0 n1 n2 n3 n4 now dr me mc mk rt rc ls i (0 : Int) (aU (ls.getD i.toNat labT.dflt)) (aE (ls.getD i.toNat labT.dflt)) (aC (ls.getD i.toNat labT.dflt)) (aT (ls.getD i.toNat labT.dflt)) (aK (ls.getD i.toNat labT.dflt)) (aL (ls.getD i.toNat labT.dflt))) then (bif inr n0 && inr n1 && inr n2 && inr n3 && inr n4 then (bif decide (pre_m2 n0 n1 n2 n3 n4 now dr me mc mk rt rc ls i (aU (ls.getD i.toNat labT.dflt)) (aE (ls.getD i.toNat labT.dflt)) (aC (ls.getD i.toNat labT.dflt)) (aT (ls.getD i.toNat labT.dflt)) (aK (ls.getD i.toNat labT.dflt)) (aL (ls.getD i.toNat labT.dflt)) [momD n0 n1 n2 n3 n4, (mkM now dr me mc mk)] (2 : Int) (0 : Int)) then (some ((Ex.normal, [V.ptr 0 0, V.ptr 1 0, V.ptr 2 0, V.slst .ro labT ls, V.si .i64 (IntKind.i64.wrap (i + (1 : Int)))], [some [V.si .i64 n0, V.si .i64 n1, V.si .i64 n2, V.si .i64 n3, V.si .i64 n4], some [V.si .i64 now, V.si .i64 dr, V.slst .ro ity me, V.slst .ro conf mc, V.slst .ro ity mk], some [V.si .i64 rt, V.si .i64 rc]], [], 188, 0, 0))) else none) else none) else none)) else none) else none) else none) else (some ((Ex.exit 0, [], [], [], 188, 0, 0)))) := by kernel_rfl
theorem rn_m0_c (n0 n1 n2 n3 n4 : Int) (now dr : Int) (me : List Int) (mc : List (Ty.den conf)) (mk : List Int) (rt rc : Int) (ls : List (Ty.den labT)) (i : Int) {e : Ex} {vs : List V} {ob : Ob} {nm : Nm} {n' kh kt : Nat} (h : (rn_m0 n0 n1 n2 n3 n4 now dr me mc mk rt rc ls i).run = some (e, vs, ob, nm, n', kh, kt)) : SemC Tryd.prog Γ (lp 3 0) (st_m0 n0 n1 n2 n3 n4 now dr me mc mk rt rc ls i) e.to (St.of n' (lve_m0 e) vs ob nm kh kt) := SemC.of_evM cfg64_ok Tryd.func3 bd_m0 li_m0 h
end L
end Go.Proofs.YthjiodeaepigmaaDoor

/- Package label: LabelMatchesReference's outermost loop; LabelMatchesReference, reckoned. -/
set_option linter.unusedVariables false
set_option linter.unusedSimpArgs false
set_option maxRecDepth 100000
set_option maxHeartbeats 4000000
namespace Go.Proofs.YthjiodeaepigmaaDoor
open Go
namespace L
abbrev pre_m0 (n0 n1 n2 n3 n4 : Int) (now dr : Int) (me : List Int) (mc : List (Ty.den conf)) (mk : List Int) (rt rc : Int) (ls : List (Ty.den labT)) (i : Int) : Prop := i = 0 ∧ ls.length ≤ 10 ∧ (∀ z ∈ ls, good z) ∧ szM me mc mk ∧ inr rt = true ∧ inr rc = true ∧ (inr n0 && inr n1 && inr n2 && inr n3 && inr n4) = true
def rs_m0 (n0 n1 n2 n3 n4 : Int) (now dr : Int) (me : List Int) (mc : List (Ty.den conf)) (mk : List Int) (rt rc : Int) (ls : List (Ty.den labT)) (i : Int) : Ex × St := (.exit 0, St.of 188 (lve_m0 (.exit 0)) [] [] [] hp_m0.kh hp_m0.kt)
def res_m0 (n0 n1 n2 n3 n4 : Int) (now dr : Int) (me : List Int) (mc : List (Ty.den conf)) (mk : List Int) (rt rc : Int) (ls : List (Ty.den labT)) (i : Int) : Tr (Ex × St) := .br (decide (pre_m0 n0 n1 n2 n3 n4 now dr me mc mk rt rc ls i)) (.leaf (some (.exit 0, St.of 188 (lve_m0 (.exit 0)) [] [] [] hp_m0.kh hp_m0.kt))) (.leaf none)
def ent_m0 : LEnt := LEnt.by hp_m0 fun ⟨(_, _, _, ls, i, _), ((n0, n1, n2, n3, n4, _), (now, dr, me, mc, mk, _), (rt, rc, _), _), _⟩ => res_m0 n0 n1 n2 n3 n4 now dr me mc mk rt rc ls i
theorem ent_m0_ok (hgo : ∀ (n0 n1 n2 n3 n4 : Int) (now dr : Int) (me : List Int) (mc : List (Ty.den conf)) (mk : List Int) (rt rc : Int) (ls : List (Ty.den labT)) (i : Int), pre_m0 n0 n1 n2 n3 n4 now dr me mc mk rt rc ls i → SemL Tryd.prog Γ (lp 3 0) (st_m0 n0 n1 n2 n3 n4 now dr me mc mk rt rc ls i) (rs_m0 n0 n1 n2 n3 n4 now dr me mc mk rt rc ls i).1.to (rs_m0 n0 n1 n2 n3 n4 now dr me mc mk rt rc ls i).2) : EntOk Tryd.prog Γ (lp 3 0) ent_m0 := LEnt.by_ok fun ⟨(_, _, _, ls, i, _), ((n0, n1, n2, n3, n4, _), (now, dr, me, mc, mk, _), (rt, rc, _), _), _⟩ _ _ h_ => SemL.br (out := rs_m0 n0 n1 n2 n3 n4 now dr me mc mk rt rc ls i) rfl (hgo n0 n1 n2 n3 n4 now dr me mc mk rt rc ls i) h_
theorem m0_go (n0 n1 n2 n3 n4 : Int) (now dr : Int) (me : List Int) (mc : List (Ty.den conf)) (mk : List Int) (rt rc : Int) (ls : List (Ty.den labT)) (i : Int) (h : pre_m0 n0 n1 n2 n3 n4 now dr me mc mk rt rc ls i) : SemL Tryd.prog Γ (lp 3 0) (st_m0 n0 n1 n2 n3 n4 now dr me mc mk rt rc ls i) (rs_m0 n0 n1 n2 n3 n4 now dr me mc mk rt rc ls i).1.to (rs_m0 n0 n1 n2 n3 n4 now dr me mc mk rt rc ls i).2 := by
 obtain ⟨rfl, hl, gl, sm, ht, hc, hn⟩ := h
 refine SemL.scan ls.length 0 (Nat.zero_le _) (fun k => st_m0 n0 n1 n2 n3 n4 now dr me mc mk rt rc ls (k : Nat)) (fun _ => true) _ ?_ ?_ ?_
 · intro i _ hi _ _
   have hw : IntKind.i64.wrap ((i : Int) + 1) = ((i + 1 : Nat) : Int) := by rw [wrap_in (by omega) (by omega)]; rfl
   have ga := gl _ (getD_mem hi labT.dflt)
   have sx : szE (aE (ls.getD i labT.dflt)) (aC (ls.getD i labT.dflt)) (aL (ls.getD i labT.dflt)) := ga.1
   have ev : validE (aU (ls.getD i labT.dflt)) (aE (ls.getD i labT.dflt)) (aC (ls.getD i labT.dflt)) (aT (ls.getD i labT.dflt)) (aK (ls.getD i labT.dflt)) (aL (ls.getD i labT.dflt)) = vX (ls.getD i labT.dflt) := rfl
   have eq := rn_m0_eq n0 n1 n2 n3 n4 now dr me mc mk rt rc ls i
   rw [hw, decide_eq_true (by omega : (i : Int) < (ls.length : Int)), decide_eq_true (by omega : (0 : Int) ≤ (i : Int) ∧ (i : Int) < (ls.length : Int)), Int.toNat_natCast, decide_eq_true sx, decide_eq_true (show szX (ls.getD i labT.dflt) from ga.1), ev, beq_self_eq_true, hn,
    decide_eq_true (show pre_m1 n0 n1 n2 n3 n4 now dr me mc mk rt rc ls i 0 (aU (ls.getD i labT.dflt)) (aE (ls.getD i labT.dflt)) (aC (ls.getD i labT.dflt)) (aT (ls.getD i labT.dflt)) (aK (ls.getD i labT.dflt)) (aL (ls.getD i labT.dflt)) from ⟨rfl, ga, gl, hl⟩),
    decide_eq_true (show pre_m2 n0 n1 n2 n3 n4 now dr me mc mk rt rc ls i (aU (ls.getD i labT.dflt)) (aE (ls.getD i labT.dflt)) (aC (ls.getD i labT.dflt)) (aT (ls.getD i labT.dflt)) (aK (ls.getD i labT.dflt)) (aL (ls.getD i labT.dflt)) [momD n0 n1 n2 n3 n4, mkM now dr me mc mk] 2 0 from ⟨rfl, rfl, (by show 2 ≤ 10; decide), fun m hm => (by
     rcases List.mem_cons.1 hm with e | hm
     · rw [e]; exact (mom_lists ..).2.2.2
     · rw [List.mem_singleton.1 hm]; exact sm), ga.1, ht, hc⟩)] at eq
   exact rn_m0_c n0 n1 n2 n3 n4 now dr me mc mk rt rc ls i (eq.trans rfl)
 · intro i _ _ _ h; cases h
 · intro _
   refine ⟨by simp [rs_m0, Ex.to], ?_⟩
   have eq := rn_m0_eq n0 n1 n2 n3 n4 now dr me mc mk rt rc ls (ls.length : Nat)
   rw [decide_eq_false (by omega)] at eq
   exact rn_m0_c n0 n1 n2 n3 n4 now dr me mc mk rt rc ls (ls.length : Nat) (eq.trans rfl)
def lo64 : LOrc := (LOrc.add lo63 3 0 ent_m0)
theorem lo64_ok : LOrcOk Tryd.prog Γ lo64 := (LOrcOk.add lo63_ok 3 0 Tryd.func3 bd_m0 le_m0 (ent_m0_ok m0_go))
noncomputable def cfg65 : Cfg := cfgT T36 isT36 orc61 lo64
theorem cfg65_ok : CfgOk Tryd.prog Γ cfg65 := cfgT_ok T36_ok orc61_ok lo64_ok
theorem c3_run (x0 x1 x2 x3 x4 x5 x6 y0 y1 y2 y3 y4 y5 y6 n0 n1 n2 n3 n4 : Int) (xu : Int) (xe : List Int) (xc : List (Ty.den conf)) (xt xk : Int) (xl : List (Ty.den lockT)) (now dr : Int) (me : List Int) (mc : List (Ty.den conf)) (mk : List Int) (rt rc : Int) : runL cfg65 3 [.agg [.si .i64 x0, .si .i64 x1, .si .i64 x2, .si .i64 x3, .si .i64 x4, .si .i64 x5, .si .i64 x6], .agg [.si .i64 y0, .si .i64 y1, .si .i64 y2, .si .i64 y3, .si .i64 y4, .si .i64 y5, .si .i64 y6], .agg [.si .i64 n0, .si .i64 n1, .si .i64 n2, .si .i64 n3, .si .i64 n4], .agg [.si .i64 xu, .slst .ro ity xe, .slst .ro conf xc, .si .i64 xt, .si .i64 xk, .slst .ro lockT xl], .agg [.si .i64 now, .si .i64 dr, .slst .ro ity me, .slst .ro conf mc, .slst .ro ity mk], .agg [.si .i64 rt, .si .i64 rc]] = .ok (some (decide ((0 : Int) ≤ (0 : Int) ∧ ((0 : Int) ≤ if (5 : Int) < (me.length : Int) then (5 : Int) else (me.length : Int)) ∧ (if (5 : Int) < (me.length : Int) then (5 : Int) else (me.length : Int)) ≤ (me.length : Int)) && (decide ((0 : Int) ≤ (0 : Int) ∧ ((0 : Int) ≤ if (5 : Int) < (mc.length : Int) then (5 : Int) else (mc.length : Int)) ∧ (if (5 : Int) < (mc.length : Int) then (5 : Int) else (mc.length : Int)) ≤ (mc.length : Int)) && (decide ((0 : Int) ≤ (0 : Int) ∧ ((0 : Int) ≤ if (5 : Int) < (mk.length : Int) then (5 : Int) else (mk.length : Int)) ∧ (if (5 : Int) < (mk.length : Int) then (5 : Int) else (mk.length : Int)) ≤ (mk.length : Int)) && (inr x0 && inr x1 && inr x2 && inr x3 && inr x4 && inr x5 && inr x6 && (inr y0 && inr y1 && inr y2 && inr y3 && inr y4 && inr y5 && inr y6 && decide (pre_m0 n0 n1 n2 n3 n4 now dr (List.drop (0 : Nat) (List.take (if (5 : Int) < (me.length : Int) then (5 : Int) else (me.length : Int)).toNat me)) (List.drop (0 : Nat) (List.take (if (5 : Int) < (mc.length : Int) then (5 : Int) else (mc.length : Int)).toNat mc)) (List.drop (0 : Nat) (List.take (if (5 : Int) < (mk.length : Int) then (5 : Int) else (mk.length : Int)).toNat mk)) rt rc [madeD x0 x1 x2 x3 x4 x5 x6, madeD y0 y1 y2 y3 y4 y5 y6, fewD (mkL xu xe xc xt xk xl)] (0 : Int)))))))) (V.b true) := by kernel_rfl
end L
end Go.Proofs.YthjiodeaepigmaaDoor

/- Package label: LabelMatchesReference. -/
set_option linter.unusedVariables false
set_option linter.unusedSimpArgs false
set_option maxRecDepth 100000
set_option maxHeartbeats 4000000
namespace Go.Proofs.YthjiodeaepigmaaDoor
open Go
namespace L
theorem cutA_take {α : Type} (l : List α) : cutA l = l.take 5 := by
 unfold cutA
 rw [List.drop_zero]
 split
 · rfl
 · rw [show ((Nat.cast l.length : Int)).toNat = l.length from Int.toNat_natCast _, List.take_length, List.take_of_length_le (by omega)]
theorem take_all_inr {l : List Int} (h : ∀ n ∈ l, inr n = true) (k : Nat) : (l.take k).all inr = true := by
 rw [List.all_eq_true]
 exact fun n hn => h n (List.mem_of_mem_take hn)
theorem fewQ_keys (q : Ty.den lockT) : kK (fewQ q) = (kK q).take 5 := by
 show List.drop 0 (List.take (min5 (kK q).length).toNat (kK q)) = _
 rw [List.drop_zero]
 unfold min5
 split
 · rfl
 · rw [show ((((kK q).length : Nat) : Int)).toNat = (kK q).length from Int.toNat_natCast _, List.take_length, List.take_of_length_le (by omega)]
theorem few_good (x : Ty.den labT) (he : ∀ n ∈ aE x, inr n = true) (hk : ∀ q ∈ aL x, ∀ n ∈ kK q, inr n = true) : good (fewD x) := by
 have e1 : aE (fewD x) = (aE x).take 5 := cutA_take _
 have e2 : aC (fewD x) = (aC x).take 5 := cutA_take _
 have e3 : aL (fewD x) = ((aL x).take (fewK (aL x))).map fewQ := by
  show List.take (fewN (aL x) (fewK (aL x))).length (List.drop 0 (fewN (aL x) (fewK (aL x)))) = _
  rw [List.drop_zero, List.take_length]
  rfl
 refine ⟨?_, ?_⟩
 · show szE (aE (fewD x)) (aC (fewD x)) (aL (fewD x))
   rw [e1, e2, e3]
   refine ⟨by rw [List.length_take]; omega, by rw [List.length_take]; omega, by rw [List.length_map, List.length_take]; have : fewK (aL x) ≤ 5 := Nat.min_le_right _ _; omega, fun q hq => ?_⟩
   obtain ⟨p, _, rfl⟩ := List.mem_map.1 hq
   rw [fewQ_keys, List.length_take]
   omega
 · unfold okR
   rw [e1, e3, take_all_inr he, Bool.true_and, List.all_eq_true]
   intro q hq
   obtain ⟨p, hp, rfl⟩ := List.mem_map.1 hq
   rw [fewQ_keys]
   exact take_all_inr (hk p (List.mem_of_mem_take hp)) 5
theorem law3 (x0 x1 x2 x3 x4 x5 x6 y0 y1 y2 y3 y4 y5 y6 n0 n1 n2 n3 n4 : Int) (x : Ty.den labT) (m : Ty.den momT) (rt rc : Int) (hx : (inr x0 && inr x1 && inr x2 && inr x3 && inr x4 && inr x5 && inr x6) = true) (hy : (inr y0 && inr y1 && inr y2 && inr y3 && inr y4 && inr y5 && inr y6) = true) (hn : (inr n0 && inr n1 && inr n2 && inr n3 && inr n4) = true)
 (he : ∀ n ∈ aE x, inr n = true) (hk : ∀ q ∈ aL x, ∀ n ∈ kK q, inr n = true) (ht : inr rt = true) (hc : inr rc = true) :
 SemF Tryd.prog Γ 3 [.agg [.si .i64 x0, .si .i64 x1, .si .i64 x2, .si .i64 x3, .si .i64 x4, .si .i64 x5, .si .i64 x6], .agg [.si .i64 y0, .si .i64 y1, .si .i64 y2, .si .i64 y3, .si .i64 y4, .si .i64 y5, .si .i64 y6], .agg [.si .i64 n0, .si .i64 n1, .si .i64 n2, .si .i64 n3, .si .i64 n4], labT.val x, momT.val m, .agg [.si .i64 rt, .si .i64 rc]] [] [] (.sb true) [] [] := by
 have g : ∀ n : Nat, decide ((0 : Int) ≤ (0 : Int) ∧ ((0 : Int) ≤ if (5 : Int) < (n : Int) then (5 : Int) else (n : Int)) ∧ (if (5 : Int) < (n : Int) then (5 : Int) else (n : Int)) ≤ (n : Int)) = true := fun n => decide_eq_true ⟨by omega, by split <;> omega, by split <;> omega⟩
 have l5 : ∀ {α : Type} (l : List α), (cutA l).length ≤ 1000000 := fun l => by rw [cutA_take, List.length_take]; omega
 have hp : pre_m0 n0 n1 n2 n3 n4 (bN m) (bD m) (cutA (bE m)) (cutA (bC m)) (cutA (bK m)) rt rc [madeD x0 x1 x2 x3 x4 x5 x6, madeD y0 y1 y2 y3 y4 y5 y6, fewD x] 0 := ⟨rfl, (by show 3 ≤ 10; decide), fun z hz => (by
  simp only [List.mem_cons, List.not_mem_nil, or_false] at hz
  rcases hz with rfl | rfl | rfl
  · exact good_valid (made_valid ..).1
  · exact good_valid (made_valid ..).1
  · exact few_good x he hk), ⟨l5 _, l5 _, l5 _⟩, ht, hc, hn⟩
 have eq := c3_run x0 x1 x2 x3 x4 x5 x6 y0 y1 y2 y3 y4 y5 y6 n0 n1 n2 n3 n4 (aU x) (aE x) (aC x) (aT x) (aK x) (aL x) (bN m) (bD m) (bE m) (bC m) (bK m) rt rc
 rw [g, g, g, hx, hy, mkL_eta] at eq
 exact (of_runL cfg65_ok eq (decide_eq_true hp) rfl).weaken fun G cv h => by cases h; exact .sb _
end L
end Go.Proofs.YthjiodeaepigmaaDoor

