/- UnitBack: the plain law, and its contract. -/
import Derived.Test.YtblnabilodbceaaDoorUNUnitBack
import Derived.Test.YtblnabilodbceaaDoorQ1
set_option linter.unusedVariables false
set_option linter.unusedSimpArgs false
set_option maxRecDepth 100000
set_option maxHeartbeats 2000000
namespace Go.Proofs.YtblnabilodbceaaDoor
open Go
namespace U
theorem law5 (x y z r s : Int) (hx : inr x = true) (hy : inr y = true) (hz : inr z = true) (hr : inr r = true) (hs : inr s = true) :
    SemF Tryd.prog Γ 5 [.agg [.si .i64 x, .si .i64 y, .si .i64 z], .agg [.si .i64 r, .si .i64 s]] [] [] (.sb true) [] [] := by
  have G := made_given x y z
  have R := rates_made r s
  have b := given_bd G
  have pf := partner_facts true b.2.2.2.1 b.2.2.2.2 R
  have nf := nf_UnitBack x y z r s
  revert nf
  generalize madeLo x y z = L at *
  generalize madeHi x y z = H at *
  generalize madeU z = u at *
  generalize 1 + pick r 100000 = r' at *
  generalize 1 + pick s 100000 = s' at *
  generalize partner u true = t at *
  obtain ⟨hk, hw, w1, w2, w3, w4, t1, t2⟩ := pf
  have e1 := convert_eq (t := t) G R hk
  rw [hw]
  generalize hW : worth u t r' s' = W at *
  obtain ⟨n, d⟩ := W
  simp only at w1 w2 w3 w4 hw e1 ⊢
  have bk := back (L := L) (H := H) w1 w3
  by_cases g1 : given (L * n / d) ((H * n + d - 1) / d) t = true
  · rw [if_pos g1] at e1
    have e2 := convert_eq (t := u) g1 R hk.symm
    rw [hw] at e2
    simp only at e2
    by_cases g2 : given (L * n / d * d / n) (((H * n + d - 1) / d * d + n - 1) / n) u = true
    · rw [if_pos g2] at e2
      have cb := given_bd g2
      have co := contains_of g2 G bk.1 bk.2.2.1
      have k0 := ediv_bd (x := d + n - 1) (by omega) w1
      have x1 : IntKind.i64.wrap (d + n) = d + n := wrap_small (by omega) (by omega)
      have x2 : IntKind.i64.wrap (d + n - 1) = d + n - 1 := wrap_small (by omega) (by omega)
      have x3 : IntKind.i64.wrap ((d + n - 1).tdiv n) = (d + n - 1) / n := by rw [Int.tdiv_eq_ediv_of_nonneg (by omega)]; exact wrap_small (by omega) (by omega)
      have x4 : IntKind.i64.wrap (1 + (d + n - 1) / n) = 1 + (d + n - 1) / n := wrap_small (by omega) (by omega)
      have x5 : IntKind.i64.wrap (L - L * n / d * d / n) = L - L * n / d * d / n := wrap_small (by omega) (by omega)
      have x6 : IntKind.i64.wrap (((H * n + d - 1) / d * d + n - 1) / n - H) = ((H * n + d - 1) / d * d + n - 1) / n - H := wrap_small (by omega) (by omega)
      simp only [e1, e2, co, x1, x2, x3, x4, x5, x6]
      intro nf
      refine SemF.of_ev o31 mixed nf ?_ ?_
      · simp [hx, hy, hz, hr, hs]
        omega
      · simp [Bool.cond_eq_ite]
        omega
    · rw [if_neg g2] at e2
      simp only [e1, e2]
      intro nf
      refine SemF.of_ev o31 mixed nf ?_ ?_
      · simp [hx, hy, hz, hr, hs, bad]
      · simp [Bool.cond_eq_ite, bad]
  · rw [if_neg g1] at e1
    have e2 : convert bad.lo bad.hi bad.u u r' s' = bad := convert_ng (by decide)
    simp only [e1, e2]
    intro nf
    refine SemF.of_ev o31 mixed nf ?_ ?_
    · simp [hx, hy, hz, hr, hs, bad]
    · simp [Bool.cond_eq_ite, bad]
end U
end Go.Proofs.YtblnabilodbceaaDoor
