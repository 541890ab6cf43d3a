/- UnitSums: the plain law, and its contract. -/
import Derived.Test.YtblnabilodbceaaDoorUNUnitSums
import Derived.Test.YtblnabilodbceaaDoorQ1
set_option linter.unusedVariables false
set_option linter.unusedSimpArgs false
set_option maxRecDepth 100000
set_option maxHeartbeats 4000000
namespace Go.Proofs.YtblnabilodbceaaDoor
open Go
namespace U
theorem add_eq {a b c d e : Int} (h1 : given a b c = true) (h2 : given d e c = true) : add a b c d e c = if b + e ≤ 999999 then ⟨a + d, b + e, c, 0⟩ else bad := by
  by_cases h : b + e ≤ 999999
  · rw [if_pos h, add_ok h1 h2 h]
  · rw [if_neg h, add_no h1 h2 h]
theorem meet_eq {a b c d e : Int} (h1 : given a b c = true) (h2 : given d e c = true) : meet a b c d e c = if max a d ≤ min b e then ⟨max a d, min b e, c, 0⟩ else bad := by
  have b1 := given_bd h1
  have b2 := given_bd h2
  by_cases h : max a d ≤ min b e
  · rw [if_pos h]
    simp [meet, h1, h2, checked, given_mk h1 (show 0 ≤ max a d by omega) h (show min b e ≤ 999999 by omega)]
  · rw [if_neg h]
    simp [meet, h1, h2, checked, given_no h1 (show ¬(0 ≤ max a d ∧ max a d ≤ min b e ∧ min b e ≤ 999999) by omega)]
theorem contains_eq {a b c d e : Int} (h1 : given a b c = true) (h2 : given d e c = true) : contains a b c d e c = decide (a ≤ d ∧ e ≤ b) := by
  simp only [given, Bool.and_eq_true] at h1 h2
  simp [contains, h1.1, h2.1]
theorem sum_sc {x y d : Int} (hd : 1 ≤ d) : x / d + y / d ≤ (x + y) / d ∧ (x + y + d - 1) / d ≤ (x + d - 1) / d + (y + d - 1) / d := by
  constructor
  · refine Int.le_ediv_of_mul_le (by omega) ?_
    have := Int.ediv_mul_le x (show d ≠ 0 by omega)
    have := Int.ediv_mul_le y (show d ≠ 0 by omega)
    rw [Int.add_mul]
    omega
  · refine up_le hd ?_
    have h1 := up_ge (x := x) hd
    have h2 := up_ge (x := y) hd
    rw [Int.mul_comm] at h1 h2
    rw [Int.add_mul]
    omega
theorem law7 (x y z a b c d e f r s : Int) (hx : inr x = true) (hy : inr y = true) (hz : inr z = true) (ha : inr a = true) (hb : inr b = true) (hc : inr c = true) (hd : inr d = true) (he : inr e = true) (hf : inr f = true) (hr : inr r = true) (hs : inr s = true) :
    SemF Tryd.prog Γ 7 [.agg [.si .i64 x, .si .i64 y, .si .i64 z], .agg [.si .i64 a, .si .i64 b, .si .i64 c], .agg [.si .i64 d, .si .i64 e, .si .i64 f], .agg [.si .i64 r, .si .i64 s]] [] [] (.sb true) [] [] := by
  have G := made_given x y z
  have G2 := given_mk (a := madeLo x y z) (b := madeHi x y z) (c := madeU z) G (x := madeLo a b c) (y := madeHi a b c) (given_bd (made_given a b c)).1 (given_bd (made_given a b c)).2.1 (given_bd (made_given a b c)).2.2.1
  have G3 := given_mk (a := madeLo x y z) (b := madeHi x y z) (c := madeU z) G (x := madeLo d e f) (y := madeHi d e f) (given_bd (made_given d e f)).1 (given_bd (made_given d e f)).2.1 (given_bd (made_given d e f)).2.2.1
  have RR := rates_made r s
  have b1 := given_bd G
  have b2 := given_bd G2
  have b3 := given_bd G3
  have pf := partner_facts true b1.2.2.2.1 b1.2.2.2.2 RR
  have w1 : IntKind.i64.wrap (madeHi x y z + madeHi a b c) = madeHi x y z + madeHi a b c := wrap_small (by omega) (by omega)
  have nf := nf_UnitSums x y z a b c d e f r s
  simp only [w1] at nf
  clear w1
  revert nf
  generalize madeLo d e f = L3 at *
  generalize madeHi d e f = H3 at *
  generalize madeLo a b c = L2 at *
  generalize madeHi a b c = H2 at *
  generalize madeLo x y z = L at *
  generalize madeHi x y z = H at *
  generalize madeU z = u at *
  generalize 1 + pick r 100000 = r' at *
  generalize 1 + pick s 100000 = s' at *
  generalize partner u true = t at *
  obtain ⟨hk, hw, v1, v2, v3, v4, t1, t2⟩ := pf
  have F1 : add L2 H2 u L H u = add L H u L2 H2 u := by
    rw [add_eq G G2, add_eq G2 G, Int.add_comm L2, Int.add_comm H2]
  have F2 : (add L H u L2 H2 u).e = 0 ↔ H + H2 ≤ 999999 := by
    rw [add_eq G G2]
    split <;> simp [bad, *]
  have F3 : (add L H u L2 H2 u).e = 0 → (add L2 H2 u L3 H3 u).e = 0 → add (add L H u L2 H2 u).lo (add L H u L2 H2 u).hi (add L H u L2 H2 u).u L3 H3 u = add L H u (add L2 H2 u L3 H3 u).lo (add L2 H2 u L3 H3 u).hi (add L2 H2 u L3 H3 u).u := by
    intro h1 h2
    rw [add_eq G G2] at h1 ⊢
    rw [add_eq G2 G3] at h2 ⊢
    by_cases c1 : H + H2 ≤ 999999
    · by_cases c2 : H2 + H3 ≤ 999999
      · rw [if_pos c1, if_pos c2]
        have g1 : given (L + L2) (H + H2) u = true := given_mk G (by omega) (by omega) c1
        have g2 : given (L2 + L3) (H2 + H3) u = true := given_mk G (by omega) (by omega) c2
        have k1 := add_eq g1 G3
        have k2 := add_eq G g2
        simp only [k1, k2, Int.add_assoc]
      · rw [if_neg c2] at h2; simp [bad] at h2
    · rw [if_neg c1] at h1; simp [bad] at h1
  have F4 : (add L H u L2 H2 u).e = 0 → (convert L H u t r' s').e = 0 → (convert L2 H2 u t r' s').e = 0 → (add (convert L H u t r' s').lo (convert L H u t r' s').hi (convert L H u t r' s').u (convert L2 H2 u t r' s').lo (convert L2 H2 u t r' s').hi (convert L2 H2 u t r' s').u).e = 0 →
      (convert (add L H u L2 H2 u).lo (add L H u L2 H2 u).hi (add L H u L2 H2 u).u t r' s').e = 0 ∧
      contains (add (convert L H u t r' s').lo (convert L H u t r' s').hi (convert L H u t r' s').u (convert L2 H2 u t r' s').lo (convert L2 H2 u t r' s').hi (convert L2 H2 u t r' s').u).lo (add (convert L H u t r' s').lo (convert L H u t r' s').hi (convert L H u t r' s').u (convert L2 H2 u t r' s').lo (convert L2 H2 u t r' s').hi (convert L2 H2 u t r' s').u).hi (add (convert L H u t r' s').lo (convert L H u t r' s').hi (convert L H u t r' s').u (convert L2 H2 u t r' s').lo (convert L2 H2 u t r' s').hi (convert L2 H2 u t r' s').u).u
        (convert (add L H u L2 H2 u).lo (add L H u L2 H2 u).hi (add L H u L2 H2 u).u t r' s').lo (convert (add L H u L2 H2 u).lo (add L H u L2 H2 u).hi (add L H u L2 H2 u).u t r' s').hi (convert (add L H u L2 H2 u).lo (add L H u L2 H2 u).hi (add L H u L2 H2 u).u t r' s').u = true := by
    intro h1 h2 h3 h4
    rw [convert_eq (t := t) G RR hk] at h2 h4 ⊢
    rw [convert_eq (t := t) G2 RR hk] at h3 h4 ⊢
    rw [add_eq G G2] at h1 ⊢
    generalize hnn : (worth u t r' s').1 = n at *
    generalize hdd : (worth u t r' s').2 = m at *
    by_cases c1 : H + H2 ≤ 999999
    case neg => rw [if_neg c1] at h1; simp [bad] at h1
    by_cases c2 : given (L * n / m) ((H * n + m - 1) / m) t = true
    case neg => rw [if_neg c2] at h2; simp [bad] at h2
    by_cases c3 : given (L2 * n / m) ((H2 * n + m - 1) / m) t = true
    case neg => rw [if_neg c3] at h3; simp [bad] at h3
    rw [if_pos c2, if_pos c3] at h4 ⊢
    rw [if_pos c1]
    have k1 := add_eq c2 c3
    simp only [k1] at h4 ⊢
    by_cases c4 : (H * n + m - 1) / m + (H2 * n + m - 1) / m ≤ 999999
    case neg => rw [if_neg c4] at h4; simp [bad] at h4
    rw [if_pos c4]
    have g1 : given (L + L2) (H + H2) u = true := given_mk G (by omega) (by omega) c1
    have gs1 := given_bd c2
    have gs2 := given_bd c3
    have gt : given (L * n / m + L2 * n / m) ((H * n + m - 1) / m + (H2 * n + m - 1) / m) t = true := given_mk c2 (by omega) (by omega) c4
    have s1 := (sum_sc (x := L * n) (y := L2 * n) v3).1
    have s2 := (sum_sc (x := H * n) (y := H2 * n) v3).2
    rw [← Int.add_mul] at s1 s2
    have o1 : (L + L2) * n ≤ (H + H2) * n := Int.mul_le_mul_of_nonneg_right (by omega) (by omega)
    have o2 : (L + L2) * n / m ≤ ((H + H2) * n + m - 1) / m := Int.ediv_le_ediv (by omega) (by omega)
    have gc : given ((L + L2) * n / m) (((H + H2) * n + m - 1) / m) t = true := given_mk c2 (by omega) o2 (by omega)
    have k2 := convert_eq (t := t) g1 RR hk
    have k3 := contains_of gt gc s1 s2
    simp only [hnn, hdd, if_pos gc] at k2
    simp only [k2]
    exact ⟨trivial, k3⟩
  have F5 : meet L2 H2 u L H u = meet L H u L2 H2 u := by
    rw [meet_eq G G2, meet_eq G2 G, Int.max_comm L2, Int.min_comm H2]
  have F6 : meet L H u L H u = ⟨L, H, u, 0⟩ := by
    rw [meet_eq G G, Int.max_self, Int.min_self, if_pos b1.2.1]
  have F7 : (meet L H u L2 H2 u).e = 0 ↔ (if L2 > L then L2 else L) ≤ (if H2 < H then H2 else H) := by
    rw [meet_eq G G2, show (if L2 > L then L2 else L) = max L L2 by split <;> omega, show (if H2 < H then H2 else H) = min H H2 by split <;> omega]
    by_cases k : max L L2 ≤ min H H2
    · simp [if_pos k]; omega
    · simp [if_neg k, bad]; omega
  have F8 : (meet L H u L2 H2 u).e = 0 → contains L H u (meet L H u L2 H2 u).lo (meet L H u L2 H2 u).hi (meet L H u L2 H2 u).u = true ∧ contains L2 H2 u (meet L H u L2 H2 u).lo (meet L H u L2 H2 u).hi (meet L H u L2 H2 u).u = true ∧
      (contains L H u L3 H3 u = true → contains L2 H2 u L3 H3 u = true → contains (meet L H u L2 H2 u).lo (meet L H u L2 H2 u).hi (meet L H u L2 H2 u).u L3 H3 u = true) ∧
      ((meet L2 H2 u L3 H3 u).e = 0 → meet (meet L H u L2 H2 u).lo (meet L H u L2 H2 u).hi (meet L H u L2 H2 u).u L3 H3 u = meet L H u (meet L2 H2 u L3 H3 u).lo (meet L2 H2 u L3 H3 u).hi (meet L2 H2 u L3 H3 u).u) := by
    intro h1
    rw [meet_eq G G2] at h1 ⊢
    by_cases c1 : max L L2 ≤ min H H2
    case neg => rw [if_neg c1] at h1; simp [bad] at h1
    rw [if_pos c1]
    have gm : given (max L L2) (min H H2) u = true := given_mk G (by omega) c1 (by omega)
    refine ⟨contains_of G gm (Int.le_max_left _ _) (Int.min_le_left _ _), contains_of G2 gm (Int.le_max_right _ _) (Int.min_le_right _ _), fun k1 k2 => ?_, fun k => ?_⟩
    · rw [contains_eq G G3] at k1
      rw [contains_eq G2 G3] at k2
      simp only [decide_eq_true_eq] at k1 k2
      have q1 : max L L2 ≤ L3 := by omega
      have q2 : H3 ≤ min H H2 := by omega
      exact contains_of gm G3 q1 q2
    · rw [meet_eq G2 G3] at k ⊢
      by_cases c2 : max L2 L3 ≤ min H2 H3
      case neg => rw [if_neg c2] at k; simp [bad] at k
      rw [if_pos c2]
      have gn : given (max L2 L3) (min H2 H3) u = true := given_mk G (by omega) c2 (by omega)
      have m1 := meet_eq gm G3
      have m2 := meet_eq G gn
      simp only [m1, m2, Int.max_assoc, Int.min_assoc]
  rw [F1, F5, F6]
  revert F2 F3 F4 F7 F8
  clear F1 F5 F6
  generalize add L H u L2 H2 u = AB
  generalize add L2 H2 u L3 H3 u = BC
  generalize convert L H u t r' s' = P
  generalize convert L2 H2 u t r' s' = Q
  generalize convert AB.lo AB.hi AB.u t r' s' = SS
  generalize add P.lo P.hi P.u Q.lo Q.hi Q.u = TT
  generalize add AB.lo AB.hi AB.u L3 H3 u = X1
  generalize add L H u BC.lo BC.hi BC.u = X2
  generalize meet L H u L2 H2 u = MU
  generalize meet L2 H2 u L3 H3 u = BM
  generalize meet MU.lo MU.hi MU.u L3 H3 u = X3
  generalize meet L H u BM.lo BM.hi BM.u = X4
  intro F2 F3 F4 F7 F8 nf
  refine SemF.of_evJ o31 mixed nf ?_ ?_
  · simp [hx, hy, hz, ha, hb, hc, hd, he, hf, hr, hs]
  · clear nf
    have E1 : AB.e = 0 → BC.e = 0 → (bif !(X1.lo == X2.lo && (X1.hi == X2.hi && (X1.u == X2.u && true))) then true else X1.e != X2.e) = false := fun k1 k2 => by rw [F3 k1 k2]; simp
    have E2 : (bif AB.e == 0 then bif P.e == 0 then bif Q.e == 0 then bif TT.e == 0 then bif SS.e != 0 then true else !contains TT.lo TT.hi TT.u SS.lo SS.hi SS.u else false else false else false else false) = false := by
      by_cases k1 : AB.e = 0 <;> by_cases k2 : P.e = 0 <;> by_cases k3 : Q.e = 0 <;> by_cases k4 : TT.e = 0 <;> simp [k1, k2, k3, k4, Bool.cond_eq_ite]
      have := F4 k1 k2 k3 k4
      simp [this.1, this.2]
    have E3 : (!(AB.e == 0) == decide (H + H2 ≤ 999999)) = false := by
      by_cases k : AB.e = 0
      · simp [k, F2.1 k]
      · have := mt F2.2 k
        simp [k, this]
    have E4 : (!(MU.e == 0) == decide ((if L2 > L then L2 else L) ≤ if H2 < H then H2 else H)) = false := by
      by_cases k : MU.e = 0
      · simp only [F7.1 k]; simp [k]
      · have := mt F7.2 k
        simp only [this]; simp [k]
    have E5 : MU.e = 0 → (bif contains L H u MU.lo MU.hi MU.u then bif contains L2 H2 u MU.lo MU.hi MU.u then bif !contains L H u L3 H3 u then true else bif !contains L2 H2 u L3 H3 u then true else contains MU.lo MU.hi MU.u L3 H3 u else false else false) = true := fun k => by
      obtain ⟨q1, q2, q3, _⟩ := F8 k
      rw [q1, q2]
      cases k1 : contains L H u L3 H3 u <;> cases k2 : contains L2 H2 u L3 H3 u <;> simp
      exact q3 k1 k2
    have E6 : MU.e = 0 → BM.e = 0 → (bif !(X3.lo == X4.lo && (X3.hi == X4.hi && (X3.u == X4.u && true))) then true else X3.e != X4.e) = false := fun k1 k2 => by rw [(F8 k1).2.2.2 k2]; simp
    simp only [E2, E3, E4]
    by_cases k1 : AB.e = 0 <;> by_cases k2 : BC.e = 0 <;> by_cases k3 : MU.e = 0 <;> by_cases k4 : BM.e = 0 <;> (try simp only [E1 k1 k2]) <;> (try simp only [E5 k3]) <;> (try simp only [E6 k3 k4]) <;> simp [k1, k2, k3, k4]
end U
end Go.Proofs.YtblnabilodbceaaDoor
