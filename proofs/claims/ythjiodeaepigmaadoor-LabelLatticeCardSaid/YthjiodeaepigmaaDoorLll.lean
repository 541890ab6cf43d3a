/- Parts of the library of texts, one after the other: L22, L23, L24. -/
import Derived.Test.YthjiodeaepigmaaDoorLlk
/- Package label: before, Moment as contracts; Made, printed. -/
set_option linter.unusedVariables false
set_option linter.unusedSimpArgs false
set_option maxRecDepth 100000
set_option maxHeartbeats 4000000
namespace Go.Proofs.YthjiodeaepigmaaDoor
open Go
namespace L
def beforeE (n m : Int) (a b : List Int) : Bool := bif decide (n < m) then true else bif n == m then decide (rcmp a b < (0 : Int)) else false
def beforeD (x y : Ty.den lockT) : Bool := beforeE (kN x) (kN y) (kK x) (kK y)
theorem c39_ok (n m : Int) (a b : List Int) (h : a.length ≤ 1000000 ∧ b.length ≤ 1000000) : SemF Tryd.prog Γ 39 [lockT.val (n, a, ()), lockT.val (m, b, ())] [] [] (.sb (beforeE n m a b)) [] [] :=
  of_runL cfg23_ok (c39_run n m a b) (by rw [decide_eq_true h]; simp) rfl
def e39 (x y : Ty.den lockT) : Option Bool × V := (some (decide ((kK x).length ≤ 1000000 ∧ (kK y).length ≤ 1000000)), .sb (beforeD x y))
theorem e39_of (x y : Ty.den lockT) (h : (e39 x y).1.getD true = true) : SemF Tryd.prog Γ 39 [lockT.val x, lockT.val y] [] [] (e39 x y).2 [] [] := c39_ok (kN x) (kN y) (kK x) (kK y) (of_decide_eq_true h)
theorem take_conf (l : List (Ty.den conf)) : List.take l.length (List.drop 0 l) = l := by rw [List.drop_zero, List.take_length]
theorem c22_ok (x0 x1 x2 x3 x4 : Int) (h0 : inr x0 = true) (h1 : inr x1 = true) (h2 : inr x2 = true) (h3 : inr x3 = true) (h4 : inr x4 = true) : SemF Tryd.prog Γ 22 [.agg [.si .i64 x0, .si .i64 x1, .si .i64 x2, .si .i64 x3, .si .i64 x4]] [] [] (momT.val (momD x0 x1 x2 x3 x4)) [] [] :=
  of_runL cfg21_ok (c22_run x0 x1 x2 x3 x4) (by
    have hp : pre_mo x0 x1 x2 x3 x4 0 (IntKind.i64.wrap (pickD x0 40 * 10)) (IntKind.i64.wrap (pickD x1 3 * 7)) (bitsD 1073741824 x2 5) (bitsD 1073741824 x4 6) 0 [] := ⟨h3, rfl, rfl, rfl⟩
    rw [decide_eq_true hp, h0, h1, decide_eq_true (And.intro h2 (And.intro (by decide) (by decide))), decide_eq_true (And.intro h4 (And.intro (by decide) (by decide)))]
    rfl) (by
    show V.agg [_, _, _, V.slst Tag.ro conf _, _] = V.agg [_, _, _, V.slst Tag.ro conf _, _]
    exact congrArg (fun z => V.agg [_, _, _, V.slst Tag.ro conf z, _]) (take_conf (momC x3 4)))
abbrev i5 : Ty := .agg [ity, ity, ity, ity, ity]
abbrev i7 : Ty := .agg [ity, ity, ity, ity, ity, ity, ity]
def e22' (x0 x1 x2 x3 x4 : Int) : Option Bool × V := (some (inr x0 && inr x1 && inr x2 && inr x3 && inr x4), momT.val (momD x0 x1 x2 x3 x4))
theorem e22'_of (x0 x1 x2 x3 x4 : Int) (h : (e22' x0 x1 x2 x3 x4).1.getD true = true) : SemF Tryd.prog Γ 22 [i5.val (x0, x1, x2, x3, x4, ())] [] [] (e22' x0 x1 x2 x3 x4).2 [] [] := by
  have h : (inr x0 && inr x1 && inr x2 && inr x3 && inr x4) = true := h
  simp only [Bool.and_eq_true] at h
  exact c22_ok x0 x1 x2 x3 x4 h.1.1.1.1 h.1.1.1.2 h.1.1.2 h.1.2 h.2
def e22 (x : Ty.den i5) : Option Bool × V := e22' x.1 x.2.1 x.2.2.1 x.2.2.2.1 x.2.2.2.2.1
noncomputable def orc22 : Orc := fun f args => if f = 22 then (Ty.ofVs [i5] args).map (fun x => e22 x.1) else (fun f args => if f = 39 then (Ty.ofVs [lockT, lockT] args).map (fun x => e39 x.1 x.2.1) else orc21 f args) f args
theorem orc22_ok : OrcOk Tryd.prog Γ orc22 := (orc21_ok.plain 39 [lockT, lockT] (fun x => e39 x.1 x.2.1) Tryd.f39 Tryd.func39 rfl (by kernel_rfl) (fun x h => e39_of x.1 x.2.1 h)).plain 22 [i5] (fun x => e22 x.1) Tryd.f22 Tryd.func22 rfl (by kernel_rfl) (fun x h => e22'_of _ _ _ _ _ h)
noncomputable def cfg24 : Cfg := cfgP orc22 lo21
theorem cfg24_ok : CfgOk Tryd.prog Γ cfg24 := cfgP_ok orc22_ok lo21_ok
theorem of_val {C : Cfg} (hC : CfgOk Tryd.prog Γ C) {f : FuncId} {args : List V} {v : V} (h : ((evFK Tryd.prog Γ (cfM Tryd.prog Γ C 30) C.lo (C.lv f) 80 f args [] []).bind fun p => .leaf (valO (some p))).run = some v) : SemF Tryd.prog Γ f args [] [] v [] [] := by
  rw [Tr.run_bind] at h
  cases hr : (evFK Tryd.prog Γ (cfM Tryd.prog Γ C 30) C.lo (C.lv f) 80 f args [] []).run with
  | none => rw [hr] at h; cases h
  | some p =>
    rw [hr] at h
    exact (evFK_sound (cfM_fit hC 30).1 (cfM_fit hC 30).2 hC.mixed hC.lo (v := p.1) (x := p.2) hr).drop h
/-- The lock that a number determines. -/
def lockD (x : Int) : Ty.den lockT := mkQ (IntKind.i64.wrap (1 + pickD (IntKind.i64.wrap (x.tdiv 64)) (Nat.cast (bitsD 1073741824 x 6).length : Int))) (bitsD 1073741824 x 6)
noncomputable def ev12 (x0 x1 x2 x3 x4 x5 x6 : Int) : Tr V := (evFK Tryd.prog Γ (cfM Tryd.prog Γ cfg24 30) cfg24.lo (cfg24.lv 12) 80 12 [.agg [.si .i64 x0, .si .i64 x1, .si .i64 x2, .si .i64 x3, .si .i64 x4, .si .i64 x5, .si .i64 x6]] [] []).bind fun p => .leaf (valO (some p))
theorem t12_eq (x0 x1 x2 x3 x4 x5 x6 : Int) : (ev12 x0 x1 x2 x3 x4 x5 x6).run = (bif inr x0 && true then (bif decide (inr x1 = true ∧ (0 : Int) ≤ (5 : Int) ∧ (5 : Int) ≤ (60 : Int)) then (bif inr x3 && true then (bif inr x4 && true then (bif decide (inr x2 = true ∧ (0 : Int) ≤ (4 : Int) ∧ (4 : Int) ≤ (60 : Int)) then (bif decide (pre_ma x0 x1 x2 x3 x4 x5 x6 (bitsD (1073741824 : Int) x2 (4)) (0 : Int) (IntKind.i64.wrap (pickD x0 (30 : Int) * (10 : Int))) (IntKind.i64.wrap ((255 : Int) - pickD x3 (4 : Int))) (IntKind.i64.wrap ((255 : Int) - pickD x4 (8 : Int))) (bitsD (1073741824 : Int) x1 (5)) (0) []) then (bif decide (inr x5 = true ∧ (0 : Int) ≤ (6 : Int) ∧ (6 : Int) ≤ (60 : Int)) then (bif (Nat.cast ((bitsD (1073741824 : Int) x5 (6)).length) : Int) == (0 : Int) then (bif decide (inr x6 = true ∧ (0 : Int) ≤ (6 : Int) ∧ (6 : Int) ≤ (60 : Int)) then (bif (Nat.cast ((bitsD (1073741824 : Int) x6 (6)).length) : Int) == (0 : Int) then (some (V.agg [V.si IntKind.i64 (IntKind.i64.wrap (pickD x0 (30 : Int) * (10 : Int))), V.slst Tag.ro ity (bitsD (1073741824 : Int) x1 (5)), V.slst Tag.ro conf (List.take (madeC x2 (bitsD (1073741824 : Int) x2 (4))).length (List.drop (0) (madeC x2 (bitsD (1073741824 : Int) x2 (4))))), V.si IntKind.i64 (IntKind.i64.wrap ((255 : Int) - pickD x3 (4 : Int))), V.si IntKind.i64 (IntKind.i64.wrap ((255 : Int) - pickD x4 (8 : Int))), V.lst Tag.full []])) else (bif inr (IntKind.i64.wrap (x6.tdiv (64 : Int))) && decide ((Nat.cast ((bitsD (1073741824 : Int) x6 (6)).length) : Int) ≠ (0 : Int)) then (some (V.agg [V.si IntKind.i64 (IntKind.i64.wrap (pickD x0 (30 : Int) * (10 : Int))), V.slst Tag.ro ity (bitsD (1073741824 : Int) x1 (5)), V.slst Tag.ro conf (List.take (madeC x2 (bitsD (1073741824 : Int) x2 (4))).length (List.drop (0) (madeC x2 (bitsD (1073741824 : Int) x2 (4))))), V.si IntKind.i64 (IntKind.i64.wrap ((255 : Int) - pickD x3 (4 : Int))), V.si IntKind.i64 (IntKind.i64.wrap ((255 : Int) - pickD x4 (8 : Int))), V.lst Tag.ro [(lockT.val (lockD x6))]])) else none)) else none) else (bif inr (IntKind.i64.wrap (x5.tdiv (64 : Int))) && decide ((Nat.cast ((bitsD (1073741824 : Int) x5 (6)).length) : Int) ≠ (0 : Int)) then (bif decide (inr x6 = true ∧ (0 : Int) ≤ (6 : Int) ∧ (6 : Int) ≤ (60 : Int)) then (bif (Nat.cast ((bitsD (1073741824 : Int) x6 (6)).length) : Int) == (0 : Int) then (some (V.agg [V.si IntKind.i64 (IntKind.i64.wrap (pickD x0 (30 : Int) * (10 : Int))), V.slst Tag.ro ity (bitsD (1073741824 : Int) x1 (5)), V.slst Tag.ro conf (List.take (madeC x2 (bitsD (1073741824 : Int) x2 (4))).length (List.drop (0) (madeC x2 (bitsD (1073741824 : Int) x2 (4))))), V.si IntKind.i64 (IntKind.i64.wrap ((255 : Int) - pickD x3 (4 : Int))), V.si IntKind.i64 (IntKind.i64.wrap ((255 : Int) - pickD x4 (8 : Int))), V.lst Tag.ro [(lockT.val (lockD x5))]])) else (bif inr (IntKind.i64.wrap (x6.tdiv (64 : Int))) && decide ((Nat.cast ((bitsD (1073741824 : Int) x6 (6)).length) : Int) ≠ (0 : Int)) then (bif (some (decide ((kK (lockD x5)).length ≤ 1000000 ∧ (kK (lockD x6)).length ≤ 1000000))).getD true then (bif beforeD (lockD x5) (lockD x6) then (some (V.agg [V.si IntKind.i64 (IntKind.i64.wrap (pickD x0 (30 : Int) * (10 : Int))), V.slst Tag.ro ity (bitsD (1073741824 : Int) x1 (5)), V.slst Tag.ro conf (List.take (madeC x2 (bitsD (1073741824 : Int) x2 (4))).length (List.drop (0) (madeC x2 (bitsD (1073741824 : Int) x2 (4))))), V.si IntKind.i64 (IntKind.i64.wrap ((255 : Int) - pickD x3 (4 : Int))), V.si IntKind.i64 (IntKind.i64.wrap ((255 : Int) - pickD x4 (8 : Int))), V.lst Tag.ro [(lockT.val (lockD x5)), (lockT.val (lockD x6))]])) else (bif decide ((kK (lockD x6)).length ≤ 1000000 ∧ (kK (lockD x5)).length ≤ 1000000) then (bif beforeD (lockD x6) (lockD x5) then (some (V.agg [V.si IntKind.i64 (IntKind.i64.wrap (pickD x0 (30 : Int) * (10 : Int))), V.slst Tag.ro ity (bitsD (1073741824 : Int) x1 (5)), V.slst Tag.ro conf (List.take (madeC x2 (bitsD (1073741824 : Int) x2 (4))).length (List.drop (0) (madeC x2 (bitsD (1073741824 : Int) x2 (4))))), V.si IntKind.i64 (IntKind.i64.wrap ((255 : Int) - pickD x3 (4 : Int))), V.si IntKind.i64 (IntKind.i64.wrap ((255 : Int) - pickD x4 (8 : Int))), V.lst Tag.full [(lockT.val (lockD x6)), (lockT.val (lockD x5))]])) else (some (V.agg [V.si IntKind.i64 (IntKind.i64.wrap (pickD x0 (30 : Int) * (10 : Int))), V.slst Tag.ro ity (bitsD (1073741824 : Int) x1 (5)), V.slst Tag.ro conf (List.take (madeC x2 (bitsD (1073741824 : Int) x2 (4))).length (List.drop (0) (madeC x2 (bitsD (1073741824 : Int) x2 (4))))), V.si IntKind.i64 (IntKind.i64.wrap ((255 : Int) - pickD x3 (4 : Int))), V.si IntKind.i64 (IntKind.i64.wrap ((255 : Int) - pickD x4 (8 : Int))), V.lst Tag.ro [(lockT.val (lockD x5))]]))) else none)) else none) else none)) else none) else none)) else none) else none) else none) else none) else none) else none) else none) := by kernel_rfl
/-- The locks. -/
def madeL (x5 x6 : Int) : List (Ty.den lockT) :=
  bif decide ((bitsD 1073741824 x5 6).length = 0) then (bif decide ((bitsD 1073741824 x6 6).length = 0) then [] else [lockD x6]) else
    bif decide ((bitsD 1073741824 x6 6).length = 0) then [lockD x5] else bif beforeD (lockD x5) (lockD x6) then [lockD x5, lockD x6] else bif beforeD (lockD x6) (lockD x5) then [lockD x6, lockD x5] else [lockD x5]
def madeU (x0 : Int) : Int := IntKind.i64.wrap (pickD x0 30 * 10)
def madeT (x3 : Int) : Int := IntKind.i64.wrap (255 - pickD x3 4)
def madeK (x4 : Int) : Int := IntKind.i64.wrap (255 - pickD x4 8)
def madeD (x0 x1 x2 x3 x4 x5 x6 : Int) : Ty.den labT := (madeU x0, bitsD 1073741824 x1 5, madeC x2 (bitsD 1073741824 x2 4), madeT x3, madeK x4, madeL x5 x6, ())
theorem madeD_val {x0 x1 x2 x3 x4 x5 x6 : Int} {t : Tag} {ls : List V} {l : List (Ty.den lockT)} (hm : madeL x5 x6 = l) (hl : ls = l.map lockT.val) (G : Gh) (cv : Value)
    (h : VRel G (V.agg [V.si IntKind.i64 (madeU x0), V.slst Tag.ro ity (bitsD 1073741824 x1 5), V.slst Tag.ro conf (List.take (madeC x2 (bitsD 1073741824 x2 4)).length (List.drop 0 (madeC x2 (bitsD 1073741824 x2 4)))), V.si IntKind.i64 (madeT x3), V.si IntKind.i64 (madeK x4), V.lst t ls]) cv) :
    VRel G (labT.val (madeD x0 x1 x2 x3 x4 x5 x6)) cv := by
  rw [take_conf] at h
  subst hm
  subst hl
  cases h with
  | agg hlen hh =>
    refine .agg hlen fun j v c h1 h2 => ?_
    match j, h1 with
    | 0, h1 => exact hh 0 _ c (by rw [← h1]; rfl) h2
    | 1, h1 => exact hh 1 _ c (by rw [← h1]; rfl) h2
    | 2, h1 => exact hh 2 _ c (by rw [← h1]; rfl) h2
    | 3, h1 => exact hh 3 _ c (by rw [← h1]; rfl) h2
    | 4, h1 => exact hh 4 _ c (by rw [← h1]; rfl) h2
    | 5, h1 =>
      have := hh 5 _ c rfl h2
      cases h1
      exact .slst this.lst_ro
    | j + 6, h1 => cases h1
theorem c12_ok (x0 x1 x2 x3 x4 x5 x6 : Int) (h0 : inr x0 = true) (h1 : inr x1 = true) (h2 : inr x2 = true) (h3 : inr x3 = true) (h4 : inr x4 = true) (h5 : inr x5 = true) (h6 : inr x6 = true) :
    SemF Tryd.prog Γ 12 [.agg [.si .i64 x0, .si .i64 x1, .si .i64 x2, .si .i64 x3, .si .i64 x4, .si .i64 x5, .si .i64 x6]] [] [] (labT.val (madeD x0 x1 x2 x3 x4 x5 x6)) [] [] := by
  have eq := t12_eq x0 x1 x2 x3 x4 x5 x6
  have b2 := bitsD_len 1073741824 x2 4
  have b5 := bitsD_len 1073741824 x5 6
  have b6 := bitsD_len 1073741824 x6 6
  have hp : pre_ma x0 x1 x2 x3 x4 x5 x6 (bitsD 1073741824 x2 4) 0 (madeU x0) (madeT x3) (madeK x4) (bitsD 1073741824 x1 5) 0 [] := ⟨rfl, rfl, rfl, by omega⟩
  have k5 : (kK (lockD x5)).length ≤ 1000000 := by show (bitsD 1073741824 x5 6).length ≤ 1000000; omega
  have k6 : (kK (lockD x6)).length ≤ 1000000 := by show (bitsD 1073741824 x6 6).length ≤ 1000000; omega
  have z : ∀ {s n : Int}, inr s = true → 0 ≤ n → n ≤ 60 → (inr s = true ∧ 0 ≤ n ∧ n ≤ 60) := fun a b c => ⟨a, b, c⟩
  rw [h0, h3, h4, decide_eq_true (z h1 (by decide) (by decide)), decide_eq_true (z h2 (by decide) (by decide)), decide_eq_true (z h5 (by decide) (by decide)), decide_eq_true (z h6 (by decide) (by decide)), decide_eq_true (show pre_ma x0 x1 x2 x3 x4 x5 x6 (bitsD 1073741824 x2 4) 0 (IntKind.i64.wrap (pickD x0 30 * 10)) (IntKind.i64.wrap (255 - pickD x3 4)) (IntKind.i64.wrap (255 - pickD x4 8)) (bitsD 1073741824 x1 5) 0 [] from hp),
    inr_wrap, inr_wrap, decide_eq_true (And.intro k5 k6), decide_eq_true (And.intro k6 k5)] at eq
  simp only [Bool.and_self, Bool.true_and, cond_true, Option.getD_some] at eq
  by_cases e5 : (bitsD 1073741824 x5 6).length = 0
  · have c5 : ((Nat.cast (bitsD 1073741824 x5 6).length : Int) == 0) = true := by rw [e5]; rfl
    rw [c5] at eq
    by_cases e6 : (bitsD 1073741824 x6 6).length = 0
    · have c6 : ((Nat.cast (bitsD 1073741824 x6 6).length : Int) == 0) = true := by rw [e6]; rfl
      rw [c6] at eq
      exact (of_val cfg24_ok eq).weaken (madeD_val (l := []) (by unfold madeL; rw [decide_eq_true e5, decide_eq_true e6]; rfl) rfl)
    · have c6 : ((Nat.cast (bitsD 1073741824 x6 6).length : Int) == 0) = false := by rw [beq_eq_false_iff_ne]; omega
      rw [c6, decide_eq_true (by omega)] at eq
      exact (of_val cfg24_ok eq).weaken (madeD_val (l := [lockD x6]) (by unfold madeL; rw [decide_eq_true e5, decide_eq_false e6]; rfl) rfl)
  · have c5 : ((Nat.cast (bitsD 1073741824 x5 6).length : Int) == 0) = false := by rw [beq_eq_false_iff_ne]; omega
    rw [c5, decide_eq_true (by omega : (Nat.cast (bitsD 1073741824 x5 6).length : Int) ≠ 0)] at eq
    by_cases e6 : (bitsD 1073741824 x6 6).length = 0
    · have c6 : ((Nat.cast (bitsD 1073741824 x6 6).length : Int) == 0) = true := by rw [e6]; rfl
      rw [c6] at eq
      exact (of_val cfg24_ok eq).weaken (madeD_val (l := [lockD x5]) (by unfold madeL; rw [decide_eq_false e5, decide_eq_true e6]; rfl) rfl)
    · have c6 : ((Nat.cast (bitsD 1073741824 x6 6).length : Int) == 0) = false := by rw [beq_eq_false_iff_ne]; omega
      rw [c6, decide_eq_true (by omega : (Nat.cast (bitsD 1073741824 x6 6).length : Int) ≠ 0)] at eq
      cases hb : beforeD (lockD x5) (lockD x6) with
      | true =>
        rw [hb] at eq
        exact (of_val cfg24_ok eq).weaken (madeD_val (l := [lockD x5, lockD x6]) (by unfold madeL; rw [decide_eq_false e5, decide_eq_false e6, hb]; rfl) rfl)
      | false =>
        rw [hb] at eq
        cases hb2 : beforeD (lockD x6) (lockD x5) with
        | true =>
          rw [hb2] at eq
          exact (of_val cfg24_ok eq).weaken (madeD_val (l := [lockD x6, lockD x5]) (by unfold madeL; rw [decide_eq_false e5, decide_eq_false e6, hb, hb2]; rfl) rfl)
        | false =>
          rw [hb2] at eq
          exact (of_val cfg24_ok eq).weaken (madeD_val (l := [lockD x5]) (by unfold madeL; rw [decide_eq_false e5, decide_eq_false e6, hb, hb2]; rfl) rfl)
end L
end Go.Proofs.YthjiodeaepigmaaDoor


/- Package label: Made and Moment in the table; LabelClocks reckoned. -/
set_option linter.unusedVariables false
set_option linter.unusedSimpArgs false
set_option maxRecDepth 100000
set_option maxHeartbeats 4000000
namespace Go.Proofs.YthjiodeaepigmaaDoor
open Go
namespace L
def e12' (x0 x1 x2 x3 x4 x5 x6 : Int) : Option Bool × V := (some (inr x0 && inr x1 && inr x2 && inr x3 && inr x4 && inr x5 && inr x6), labT.val (madeD x0 x1 x2 x3 x4 x5 x6))
theorem e12'_of (x0 x1 x2 x3 x4 x5 x6 : Int) (h : (e12' x0 x1 x2 x3 x4 x5 x6).1.getD true = true) : SemF Tryd.prog Γ 12 [i7.val (x0, x1, x2, x3, x4, x5, x6, ())] [] [] (e12' x0 x1 x2 x3 x4 x5 x6).2 [] [] := by
  have h : (inr x0 && inr x1 && inr x2 && inr x3 && inr x4 && inr x5 && inr x6) = true := h
  simp only [Bool.and_eq_true] at h
  exact c12_ok x0 x1 x2 x3 x4 x5 x6 h.1.1.1.1.1.1 h.1.1.1.1.1.2 h.1.1.1.1.2 h.1.1.1.2 h.1.1.2 h.1.2 h.2
def e12 (x : Ty.den i7) : Option Bool × V := e12' x.1 x.2.1 x.2.2.1 x.2.2.2.1 x.2.2.2.2.1 x.2.2.2.2.2.1 x.2.2.2.2.2.2.1
noncomputable def orc23 : Orc := fun f args => if f = 12 then (Ty.ofVs [i7] args).map (fun x => e12 x.1) else orc22 f args
theorem orc23_ok : OrcOk Tryd.prog Γ orc23 := orc22_ok.plain 12 [i7] (fun x => e12 x.1) Tryd.f12 Tryd.func12 rfl (by kernel_rfl) (fun x h => e12'_of _ _ _ _ _ _ _ h)
noncomputable def cfg25 : Cfg := cfgP orc23 lo21
theorem cfg25_ok : CfgOk Tryd.prog Γ cfg25 := cfgP_ok orc23_ok lo21_ok
def aU (x : Ty.den labT) : Int := x.1
def aE (x : Ty.den labT) : List Int := x.2.1
def aC (x : Ty.den labT) : List (Ty.den conf) := x.2.2.1
def aT (x : Ty.den labT) : Int := x.2.2.2.1
def aK (x : Ty.den labT) : Int := x.2.2.2.2.1
def aL (x : Ty.den labT) : List (Ty.den lockT) := x.2.2.2.2.2.1
def bE (x : Ty.den momT) : List Int := x.2.2.1
def bC (x : Ty.den momT) : List (Ty.den conf) := x.2.2.2.1
def bK (x : Ty.den momT) : List Int := x.2.2.2.2.1
def szX (x : Ty.den labT) : Prop := szE (aE x) (aC x) (aL x)
def szY (x : Ty.den momT) : Prop := szM (bE x) (bC x) (bK x)
instance (x : Ty.den labT) : Decidable (szX x) := inferInstanceAs (Decidable (szE _ _ _))
instance (x : Ty.den momT) : Decidable (szY x) := inferInstanceAs (Decidable (szM _ _ _))
end L
end Go.Proofs.YthjiodeaepigmaaDoor


/- Package label: what is made is valid. -/
set_option linter.unusedVariables false
set_option linter.unusedSimpArgs false
set_option maxRecDepth 100000
set_option maxHeartbeats 4000000
namespace Go.Proofs.YthjiodeaepigmaaDoor
open Go
namespace L
theorem counts_iff {l : List (Ty.den conf)} {m : Int} (h1 : ∀ x ∈ l, 0 ≤ cF x ∧ cF x ≤ 15 ∧ m ≤ cC x ∧ cC x ≤ 12) (h2 : l.Pairwise fun a b => cF a < cF b) : countsD l m = true := by
  refine allI_true.2 fun i hi => decide_eq_true ?_
  have e1 : l.getD i conf.dflt = l[i] := getD_eq hi _
  rw [e1]
  obtain ⟨a1, a2, a3, a4⟩ := h1 _ (List.getElem_mem hi)
  refine ⟨a1, a2, a3, a4, fun h0 => ?_⟩
  have e2 : l.getD (i - 1) conf.dflt = l[i - 1] := getD_eq (show i - 1 < l.length by omega) _
  rw [e2]
  exact List.pairwise_iff_getElem.1 h2 (i - 1) i (by omega) hi (by omega)
theorem bits_pair (m s : Int) (n : Nat) : (bitsD m s n).Pairwise (· < ·) := (rising_iff.1 (bits_rising m s (n := n) (k := n) (by omega))).2
theorem madeC_ok (x2 : Int) : countsD (madeC x2 (bitsD 1073741824 x2 4)) 1 = true := by
  have hp := pickD_lt (k := IntKind.i64.wrap (x2.tdiv 16)) (n := 3) (by decide)
  have hw : IntKind.i64.wrap (1 + pickD (IntKind.i64.wrap (x2.tdiv 16)) 3) = 1 + pickD (IntKind.i64.wrap (x2.tdiv 16)) 3 := wrap_in (by omega) (by omega)
  refine counts_iff (fun x hx => ?_) ?_
  · unfold madeC at hx
    rw [List.mem_map] at hx
    obtain ⟨f, hf, rfl⟩ := hx
    obtain ⟨i, hi, _, rfl⟩ := mem_bits.1 hf
    show 0 ≤ (i : Int) ∧ (i : Int) ≤ 15 ∧ 1 ≤ IntKind.i64.wrap (1 + pickD (IntKind.i64.wrap (x2.tdiv 16)) 3) ∧ IntKind.i64.wrap (1 + pickD (IntKind.i64.wrap (x2.tdiv 16)) 3) ≤ 12
    omega
  · unfold madeC
    rw [List.pairwise_map]
    exact (bits_pair _ _ _).imp fun h => h
/-- The reference's order is the program's, for small keys. -/
theorem rcmp_lex : ∀ (a b : List Int), (∀ x ∈ a, 0 ≤ x ∧ x ≤ 19) → (∀ x ∈ b, 0 ≤ x ∧ x ≤ 19) → a.length ≤ 1000000 → b.length ≤ 1000000 → lexC a b = sgn (rcmp a b) 0
  | [], [], _, _, _, _ => rfl
  | [], y :: b, _, _, _, h => by
    rw [rcmp_end (.inl rfl)]
    have h' : (y :: b).length ≤ 1000000 := h
    have h0 : 0 < (y :: b).length := by simp
    have : IntKind.i64.wrap ((Nat.cast ([] : List Int).length : Int) - (Nat.cast (y :: b).length : Int)) = -(Nat.cast (y :: b).length : Int) := by
      have e0 : ((([] : List Int).length : Nat) : Int) = 0 := rfl
      rw [e0, wrap_in (by omega) (by omega)]; omega
    rw [this]
    unfold sgn
    rw [if_pos (by omega)]
    rfl
  | x :: a, [], _, _, h, _ => by
    rw [rcmp_end (.inr rfl)]
    have h' : (x :: a).length ≤ 1000000 := h
    have h0 : 0 < (x :: a).length := by simp
    have : IntKind.i64.wrap ((Nat.cast (x :: a).length : Int) - (Nat.cast ([] : List Int).length : Int)) = (Nat.cast (x :: a).length : Int) := by
      have e0 : ((([] : List Int).length : Nat) : Int) = 0 := rfl
      rw [e0, wrap_in (by omega) (by omega)]; omega
    rw [this]
    unfold sgn
    rw [if_neg (by omega), if_pos (by omega)]
    rfl
  | x :: a, y :: b, ha, hb, h1, h2 => by
    have hx := ha x (by simp)
    have hy := hb y (by simp)
    by_cases e : x = y
    · subst e
      have : sgn x x = 0 := by unfold sgn; rw [if_neg (by omega), if_neg (by omega)]
      simp only [lexC, rcmp, this, ne_eq, not_true_eq_false, if_false]
      exact rcmp_lex a b (fun z hz => ha z (by simp [hz])) (fun z hz => hb z (by simp [hz])) (by simp at h1; omega) (by simp at h2; omega)
    · have hs : sgn x y ≠ 0 := by
        unfold sgn
        by_cases h : x < y
        · rw [if_pos h]; decide
        · rw [if_neg h, if_pos (by omega)]; decide
      simp only [lexC, rcmp, hs, e, ne_eq, not_false_eq_true, if_true]
      rw [wrap_in (by omega) (by omega)]
      unfold sgn
      by_cases h : x < y
      · rw [if_pos h, if_pos (by omega)]
      · rw [if_neg h, if_pos (by omega), if_neg (by omega), if_pos (by omega)]
theorem before_cmp (x y : Ty.den lockT) (ha : ∀ z ∈ kK x, 0 ≤ z ∧ z ≤ 19) (hb : ∀ z ∈ kK y, 0 ≤ z ∧ z ≤ 19) (h1 : (kK x).length ≤ 1000000) (h2 : (kK y).length ≤ 1000000) : beforeD x y = decide (cmpL x y < 0) := by
  unfold beforeD beforeE cmpL
  rw [rcmp_lex _ _ ha hb h1 h2]
  generalize rcmp (kK x) (kK y) = r
  generalize kN x = n
  generalize kN y = m
  by_cases c1 : n < m
  · have : sgn n m = -1 := by unfold sgn; rw [if_pos c1]
    rw [decide_eq_true c1, this]; rfl
  · by_cases c2 : n = m
    · subst c2
      have : sgn n n = 0 := by unfold sgn; rw [if_neg (by omega), if_neg (by omega)]
      have hbb : (n == n) = true := by simp
      rw [decide_eq_false c1, this, hbb]
      show decide (r < 0) = decide ((if (0 : Int) ≠ 0 then (0 : Int) else sgn r 0) < 0)
      rw [if_neg (by decide)]
      unfold sgn
      by_cases c3 : r < 0
      · rw [if_pos c3, decide_eq_true c3]; rfl
      · rw [if_neg c3, decide_eq_false c3]
        by_cases c4 : 0 < r
        · rw [if_pos c4]; rfl
        · rw [if_neg c4]; rfl
    · have : sgn n m = 1 := by unfold sgn; rw [if_neg c1, if_pos (by omega)]
      have hbb : (n == m) = false := by simpa using c2
      rw [decide_eq_false c1, this, hbb]
      rfl
theorem lockD_keys (x : Int) : kK (lockD x) = bitsD 1073741824 x 6 := rfl
theorem lockD_ok (x : Int) (h : ¬ (bitsD 1073741824 x 6).length = 0) : risingD (kK (lockD x)) 19 = true ∧ 1 ≤ kN (lockD x) ∧ kN (lockD x) ≤ (kK (lockD x)).length := by
  have hb := bitsD_len 1073741824 x 6
  obtain ⟨p1, p2⟩ := pickD_lt (k := IntKind.i64.wrap (x.tdiv 64)) (n := ((bitsD 1073741824 x 6).length : Int)) (by omega)
  have hw : kN (lockD x) = 1 + pickD (IntKind.i64.wrap (x.tdiv 64)) (bitsD 1073741824 x 6).length := wrap_in (by omega) (by omega)
  refine ⟨bits_rising _ _ (by decide), ?_, ?_⟩
  · rw [hw]; omega
  · rw [hw, lockD_keys]; omega
theorem lockD_small (x : Int) : (∀ z ∈ kK (lockD x), 0 ≤ z ∧ z ≤ 19) ∧ (kK (lockD x)).length ≤ 1000000 := by
  have hb := bitsD_len 1073741824 x 6
  refine ⟨(rising_iff.1 (bits_rising 1073741824 x (n := 6) (k := 19) (by decide))).1, ?_⟩
  rw [lockD_keys]; omega
theorem locks1 (x : Int) (h : ¬ (bitsD 1073741824 x 6).length = 0) : locksD [lockD x] = true := by
  obtain ⟨a, b, c⟩ := lockD_ok x h
  refine allI_true.2 fun i hi => ?_
  have hi : i < 1 := hi
  obtain rfl : i = 0 := by omega
  show (risingD (kK (lockD x)) 19 && (decide (kN (lockD x) ≥ 1) && decide (kN (lockD x) ≤ (kK (lockD x)).length)) && (!decide (((0 : Nat) : Int) > 0) || _)) = true
  rw [a, decide_eq_true (show kN (lockD x) ≥ 1 from b), decide_eq_true c]
  rfl
theorem locks2 (x y : Int) (h : ¬ (bitsD 1073741824 x 6).length = 0) (h' : ¬ (bitsD 1073741824 y 6).length = 0) (hb : beforeD (lockD x) (lockD y) = true) : locksD [lockD x, lockD y] = true := by
  obtain ⟨a, b, c⟩ := lockD_ok x h
  obtain ⟨a', b', c'⟩ := lockD_ok y h'
  rw [before_cmp _ _ (lockD_small x).1 (lockD_small y).1 (lockD_small x).2 (lockD_small y).2] at hb
  refine allI_true.2 fun i hi => ?_
  have hi : i < 2 := hi
  match i, hi with
  | 0, _ =>
    show (risingD (kK (lockD x)) 19 && (decide (kN (lockD x) ≥ 1) && decide (kN (lockD x) ≤ (kK (lockD x)).length)) && (!decide (((0 : Nat) : Int) > 0) || _)) = true
    rw [a, decide_eq_true (show kN (lockD x) ≥ 1 from b), decide_eq_true c]
    rfl
  | 1, _ =>
    show (risingD (kK (lockD y)) 19 && (decide (kN (lockD y) ≥ 1) && decide (kN (lockD y) ≤ (kK (lockD y)).length)) && (!decide (((1 : Nat) : Int) > 0) || decide (cmpL (lockD x) (lockD y) < 0))) = true
    rw [a', decide_eq_true (show kN (lockD y) ≥ 1 from b'), decide_eq_true c', hb]
    rfl
  | i + 2, h => omega
theorem madeL_ok (x5 x6 : Int) : locksD (madeL x5 x6) = true ∧ (madeL x5 x6).length ≤ 2 ∧ ∀ q ∈ madeL x5 x6, (kK q).length ≤ 1000000 := by
  unfold madeL
  have s5 := (lockD_small x5).2
  have s6 := (lockD_small x6).2
  by_cases e5 : (bitsD 1073741824 x5 6).length = 0 <;> by_cases e6 : (bitsD 1073741824 x6 6).length = 0
  · rw [decide_eq_true e5, decide_eq_true e6]
    exact ⟨rfl, Nat.zero_le _, fun q hq => by cases hq⟩
  · rw [decide_eq_true e5, decide_eq_false e6]
    exact ⟨locks1 x6 e6, (by show 1 ≤ 2; decide), fun q hq => by rw [List.mem_singleton.1 hq]; exact s6⟩
  · rw [decide_eq_false e5, decide_eq_true e6]
    exact ⟨locks1 x5 e5, (by show 1 ≤ 2; decide), fun q hq => by rw [List.mem_singleton.1 hq]; exact s5⟩
  · rw [decide_eq_false e5, decide_eq_false e6]
    simp only [cond_false]
    cases hb : beforeD (lockD x5) (lockD x6) with
    | true => exact ⟨locks2 x5 x6 e5 e6 hb, (by show 2 ≤ 2; decide), fun q hq => by
        simp only [cond_true, List.mem_cons, List.not_mem_nil, or_false] at hq
        rcases hq with rfl | rfl
        · exact s5
        · exact s6⟩
    | false =>
      cases hb2 : beforeD (lockD x6) (lockD x5) with
      | true => exact ⟨locks2 x6 x5 e6 e5 hb2, (by show 2 ≤ 2; decide), fun q hq => by
          simp only [cond_true, cond_false, List.mem_cons, List.not_mem_nil, or_false] at hq
          rcases hq with rfl | rfl
          · exact s6
          · exact s5⟩
      | false => exact ⟨locks1 x5 e5, (by show 1 ≤ 2; decide), fun q hq => by
          simp only [cond_false, List.mem_cons, List.not_mem_nil, or_false] at hq
          rw [hq]; exact s5⟩
def vX (x : Ty.den labT) : Bool := validE (aU x) (aE x) (aC x) (aT x) (aK x) (aL x)
theorem inR_of {x a b : Int} (h1 : a ≤ x) (h2 : x ≤ b) : inR x a b = true := by
  unfold inR
  rw [decide_eq_true (show x ≥ a from h1), decide_eq_true h2]; rfl
theorem made_num (x0 x1 x2 x3 x4 x5 x6 : Int) : 0 ≤ aU (madeD x0 x1 x2 x3 x4 x5 x6) ∧ aU (madeD x0 x1 x2 x3 x4 x5 x6) ≤ 290 := by
  obtain ⟨a1, a2⟩ := pickD_lt (k := x0) (n := 30) (by decide)
  have hu : aU (madeD x0 x1 x2 x3 x4 x5 x6) = pickD x0 30 * 10 := wrap_in (by omega) (by omega)
  omega
theorem made_valid (x0 x1 x2 x3 x4 x5 x6 : Int) : vX (madeD x0 x1 x2 x3 x4 x5 x6) = true ∧ szX (madeD x0 x1 x2 x3 x4 x5 x6) := by
  obtain ⟨b1, b2⟩ := pickD_lt (k := x3) (n := 4) (by decide)
  obtain ⟨c1, c2⟩ := pickD_lt (k := x4) (n := 8) (by decide)
  obtain ⟨u1, u2⟩ := made_num x0 x1 x2 x3 x4 x5 x6
  have ht : madeT x3 = 255 - pickD x3 4 := wrap_in (by omega) (by omega)
  have hk : madeK x4 = 255 - pickD x4 8 := wrap_in (by omega) (by omega)
  obtain ⟨l1, l2, l3⟩ := madeL_ok x5 x6
  have e1 := bitsD_len 1073741824 x1 5
  have e2 := bitsD_len 1073741824 x2 4
  have e3 := madeC_len x2 (bitsD 1073741824 x2 4)
  constructor
  · show validE (aU (madeD x0 x1 x2 x3 x4 x5 x6)) (bitsD 1073741824 x1 5) (madeC x2 (bitsD 1073741824 x2 4)) (madeT x3) (madeK x4) (madeL x5 x6) = true
    unfold validE
    rw [inR_of u1 (by omega), inR_of (by omega) (by omega), inR_of (by omega) (by omega), l1, bits_rising 1073741824 x1 (by decide), madeC_ok x2, decide_eq_false (by omega)]
    rfl
  · exact ⟨by show (bitsD 1073741824 x1 5).length ≤ _; omega, by show (madeC x2 (bitsD 1073741824 x2 4)).length ≤ _; omega, by show (madeL x5 x6).length ≤ _; omega, l3⟩
end L
end Go.Proofs.YthjiodeaepigmaaDoor


