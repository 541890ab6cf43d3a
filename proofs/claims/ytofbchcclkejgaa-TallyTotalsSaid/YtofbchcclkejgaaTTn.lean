/- Parts of the library of texts, one after the other: T29, P30, T30. -/
import Derived.Test.YtofbchcclkejgaaTTm
/- Package tally: TallyTotals: pieces. -/
set_option linter.unusedVariables false
set_option linter.unusedSimpArgs false
set_option maxRecDepth 100000
set_option maxHeartbeats 4000000
namespace Go.Proofs.Ytofbchcclkejgaa
open Go
namespace T
theorem bd7 : Try.f7.body = some (root 7) := by kernel_rfl
noncomputable def to : Code := lp 7 0
noncomputable def toA : Code := cA to
noncomputable def toI : Code := cK (cA (cB to))
noncomputable def toC : Code := cA toI
noncomputable def toD : Code := cA (cB toI)
noncomputable def toE : Code := cA (cB (cB toI))
noncomputable def toF : Code := cA (cB (cB (cB toI)))
noncomputable def toG : Code := cB (cB (cB (cB toI)))
noncomputable def toK : Code := cB (cB to)
theorem to_eq : to = .seq toA (.seq (.block 1 (.seq toC (.seq toD (.seq toE (.seq toF toG))))) toK) := by kernel_rfl
noncomputable def t7 (k : Nat) : Code := cA (tlN k (root 7))
theorem root7 : root 7 = .seq (t7 0) (.seq (t7 1) (.seq (t7 2) (.seq (t7 3) (.seq (.seq (cA (t7 4)) (.block 0 (.loop to))) (.seq (t7 5) (.seq (t7 6) (.seq (t7 7) (.seq (t7 8) (.seq (t7 9) (.seq (t7 10) (.seq (t7 11) (.seq (t7 12) (tlN 13 (root 7)))))))))))))) := by kernel_rfl
abbrev oT3 (c : Int) (ds : List Int) (rs : List R1) : Option (List V) := some [.si .i64 c, .slst .ro ity ds, .slst .ro retT rs]
abbrev oU3 (c : Int) (ds : List Int) (o : List R1) : Option (List V) := some [.si .i64 c, .slst .ro ity ds, .bs true 0 0 o.length]
def tS (c : Int) (ds : List Int) (rs : List R1) (i : Int) (o : List R1) : St := St.of 192 [7, 8, 9] [.ptr 0 0, .ptr 1 0, .si .i64 i] [oT3 c ds rs, oU3 c ds o] [bR o]
theorem toA_eq (c : Int) (ds : List Int) (rs : List (Ty.den retT)) (i : Int) (o : List R1) : (pc 7 1 cfg29 toA [7, 8, 9] [7, 8] (tS c ds rs i o)).run = (bif decide (i < (rs.length : Int)) then (some ((Ex.normal, [V.ptr 0 0, V.ptr 1 0, V.si .i64 i], [some [V.si .i64 c, V.slst .ro ity ds, V.slst .ro retT rs], some [V.si .i64 c, V.slst .ro ity ds, V.bs true 0 0 o.length]], [some (Bf.live (.arr retT o))], 192, 0, 0))) else (some ((Ex.exit 0, [V.ptr 0 0, V.ptr 1 0], [some [V.si .i64 c, V.slst .ro ity ds, V.slst .ro retT rs], some [V.si .i64 c, V.slst .ro ity ds, V.bs true 0 0 o.length]], [some (Bf.live (.arr retT o))], 192, 0, 0)))) := by kernel_rfl
theorem toC_eq (c : Int) (ds : List Int) (rs : List (Ty.den retT)) (i : Int) (o : List R1) : (pc 7 1 cfg29 toC [7, 8, 9, 10] [] (tS c ds rs i o)).run = (bif decide ((0 : Int) ≤ i ∧ i < (rs.length : Int)) then (some ((Ex.normal, [V.ptr 0 0, V.ptr 1 0, V.si .i64 i, V.ptr 2 0], [some [V.si .i64 c, V.slst .ro ity ds, V.slst .ro retT rs], some [V.si .i64 c, V.slst .ro ity ds, V.bs true 0 0 o.length], some [V.si .i64 (rD (rs.getD i.toNat retT.dflt)), V.si .i64 (rN (rs.getD i.toNat retT.dflt)), V.slst .ro ity (rV (rs.getD i.toNat retT.dflt))]], [some (Bf.live (.arr retT o))], 192, 0, 0))) else none) := by kernel_rfl
theorem toD_eq (c : Int) (ds : List Int) (rs : List (Ty.den retT)) (i d n : Int) (v : List Int) (o : List R1) : (pc 7 1 cfg29 toD [7, 8, 9, 10, 11] [] (St.of 192 [7, 8, 9, 10] [.ptr 0 0, .ptr 1 0, .si .i64 i, .ptr 2 0] [oT3 c ds rs, oU3 c ds o, some [.si .i64 d, .si .i64 n, .slst .ro ity v]] [bR o])).run = (some ((Ex.normal, [V.ptr 0 0, V.ptr 1 0, V.si .i64 i, V.ptr 2 0, V.lst .full []], [some [V.si .i64 c, V.slst .ro ity ds, V.slst .ro retT rs], some [V.si .i64 c, V.slst .ro ity ds, V.bs true 0 0 o.length], some [V.si .i64 d, V.si .i64 n, V.slst .ro ity v]], [some (Bf.live (.arr retT o))], 192, 0, 0))) := by kernel_rfl
theorem toE_eq (c : Int) (ds : List Int) (rs : List (Ty.den retT)) (i d n : Int) (v : List Int) (o : List R1) : (pc 7 1 cfg29 toE [7, 8, 9, 10, 11] [] (St.of 192 [7, 8, 9, 10, 11] [.ptr 0 0, .ptr 1 0, .si .i64 i, .ptr 2 0, .lst .full []] [oT3 c ds rs, oU3 c ds o, some [.si .i64 d, .si .i64 n, .slst .ro ity v]] [bR o])).run = (bif decide (pre_tv c ds rs c ds o.length i d n v (0) (IntKind.i64.wrap ((v.length : Int) - (1 : Int))) [] o) then (some ((Ex.normal, [V.ptr 0 0, V.ptr 1 0, V.si .i64 i, V.ptr 2 0, V.bs true 0 0 v.length], [some [V.si .i64 c, V.slst .ro ity ds, V.slst .ro retT rs], some [V.si .i64 c, V.slst .ro ity ds, V.bs true 1 0 o.length], some [V.si .i64 d, V.si .i64 n, V.slst .ro ity v]], [some (Bf.live (.arr ity v.reverse)), some (Bf.live (.arr retT o))], 192, 0, 0))) else none) := by kernel_rfl
theorem toF_eq (c : Int) (ds : List Int) (rs : List (Ty.den retT)) (i d n : Int) (v b : List Int) (o : List R1) : (pc 7 2 cfg29 toF [7, 8, 9, 10] [] (St.of 192 [7, 8, 9, 10, 11] [.ptr 0 0, .ptr 1 0, .si .i64 i, .ptr 2 0, .bs true 0 0 b.length] [oT3 c ds rs, some [.si .i64 c, .slst .ro ity ds, .bs true 1 0 o.length], some [.si .i64 d, .si .i64 n, .slst .ro ity v]] [some (.live (.arr ity b)), bR o])).run = (some ((Ex.normal, [V.ptr 0 0, V.ptr 1 0, V.si .i64 i, V.ptr 2 0], [some [V.si .i64 c, V.slst .ro ity ds, V.slst .ro retT rs], some [V.si .i64 c, V.slst .ro ity ds, V.bs true 0 0 o.length], some [V.si .i64 d, V.si .i64 n, V.bs true 1 0 b.length]], [some (Bf.live (.arr retT o)), some (Bf.live (.arr ity b))], 192, 0, 0))) := by kernel_rfl
theorem toG_eq (c : Int) (ds : List Int) (rs : List (Ty.den retT)) (i d n : Int) (b : List Int) (o : List R1) : (pc 7 2 cfg29 toG [7, 8, 9] [] (St.of 192 [7, 8, 9, 10] [.ptr 0 0, .ptr 1 0, .si .i64 i, .ptr 2 0] [oT3 c ds rs, oU3 c ds o, some [.si .i64 d, .si .i64 n, .slst .ro ity b]] [bR o, some .dead])).run = (bif decide ((o.length + 1) * 2 * 40 ≤ 281474976710656) then (some ((Ex.normal, [V.ptr 0 0, V.ptr 1 0, V.si .i64 i], [some [V.si .i64 c, V.slst .ro ity ds, V.slst .ro retT rs], some [V.si .i64 c, V.slst .ro ity ds, V.bs true 0 0 (o.length + (1 : Nat))]], [some (Bf.live (.arr retT (List.take o.length (List.drop (0) o) ++ ([((d, n, b, ()) : R1)] : List R1))))], 192, 0, 0))) else none) := by kernel_rfl
theorem toK_eq (c : Int) (ds : List Int) (rs : List (Ty.den retT)) (i : Int) (o : List R1) : (pc 7 2 cfg29 toK [7, 8, 9] [] (tS c ds rs i o)).run = (some ((Ex.normal, [V.ptr 0 0, V.ptr 1 0, V.si .i64 (IntKind.i64.wrap (i + (1 : Int)))], [some [V.si .i64 c, V.slst .ro ity ds, V.slst .ro retT rs], some [V.si .i64 c, V.slst .ro ity ds, V.bs true 0 0 o.length]], [some (Bf.live (.arr retT o))], 192, 0, 0))) := by kernel_rfl
theorem t0_eq (c : Int) (ds : List Int) (x : List (Ty.den six)) : (pc 7 0 cfg29 (t7 0) [0, 1, 2] [] (St.start 192 [.si .i64 c, .slst .ro ity ds, .slst .ro six x] [] [])).run = (some ((Ex.normal, [V.si .i64 c, V.slst .ro ity ds, V.slst .ro six x], [], [], 192, 0, 0))) := by kernel_rfl
theorem t1_eq (c : Int) (ds : List Int) (x : List (Ty.den six)) : (pc 7 0 cfg29 (t7 1) [0, 1, 2] [] (St.of 192 [0, 1, 2] [.si .i64 c, .slst .ro ity ds, .slst .ro six x] [] [])).run = (some ((Ex.normal, [V.si .i64 c, V.slst .ro ity ds, V.slst .ro six x], [], [], 192, 0, 0))) := by kernel_rfl
theorem t2_eq (c : Int) (ds : List Int) (x : List (Ty.den six)) : (pc 7 0 cfg29 (t7 2) [7] [] (St.of 192 [0, 1, 2] [.si .i64 c, .slst .ro ity ds, .slst .ro six x] [] [])).run = (bif decide (okMd c ds x) then (some ((Ex.normal, [V.ptr 0 0], [some [V.si .i64 (mC c), V.slst .ro ity (mD ds), V.slst .ro retT (mR c ds x)]], [], 192, 0, 0))) else none) := by kernel_rfl
theorem t3_eq (c : Int) (ds : List Int) (rs : List (Ty.den retT)) : (pc 7 0 cfg29 (t7 3) [7, 8] [] (St.of 192 [7] [.ptr 0 0] [oT3 c ds rs] [])).run = (some ((Ex.normal, [V.ptr 0 0, V.ptr 1 0], [some [V.si .i64 c, V.slst .ro ity ds, V.slst .ro retT rs], some [V.si .i64 c, V.slst .ro ity ds, V.lst .full []]], [], 192, 0, 0))) := by kernel_rfl
theorem t4_eq (c : Int) (ds : List Int) (rs : List (Ty.den retT)) : (pc 7 0 cfg29 (cA (t7 4)) [7, 8, 9] [] (St.of 192 [7, 8] [.ptr 0 0, .ptr 1 0] [oT3 c ds rs, some [.si .i64 c, .slst .ro ity ds, .lst .full []]] [])).run = (some ((Ex.normal, [V.ptr 0 0, V.ptr 1 0, V.i .i64 (0 : Int)], [some [V.si .i64 c, V.slst .ro ity ds, V.slst .ro retT rs], some [V.si .i64 c, V.slst .ro ity ds, V.lst .full []]], [], 192, 0, 0))) := by kernel_rfl
theorem t5_eq (c : Int) (ds : List Int) (rs o : List (Ty.den retT)) : (pc 7 2 cfg29 (t7 5) [7, 8, 13, 14, 15] [] (St.of 192 [7, 8] [.ptr 0 0, .ptr 1 0] [oT3 c ds rs, oT3 c ds o] [some .dead])).run = (bif decide (szR rs) then (some ((Ex.normal, [V.ptr 0 0, V.ptr 1 0, V.slst .ro ity (bif validT c ds rs then totD c rs else []), V.si .i64 (bif validT c ds rs then restD ds rs else (0 : Int)), V.si .i64 (bif validT c ds rs then (0 : Int) else (270 : Int))], [some [V.si .i64 c, V.slst .ro ity ds, V.slst .ro retT rs], some [V.si .i64 c, V.slst .ro ity ds, V.slst .ro retT o]], [], 192, 0, 0))) else none) := by kernel_rfl
theorem t6_eq (c : Int) (ds : List Int) (rs o : List (Ty.den retT)) (n : List Int) (r e : Int) : (pc 7 2 cfg29 (t7 6) [7, 8, 13, 14, 15, 16, 17, 18] [] (St.of 192 [7, 8, 13, 14, 15] [.ptr 0 0, .ptr 1 0, .slst .ro ity n, .si .i64 r, .si .i64 e] [oT3 c ds rs, oT3 c ds o] [])).run = (bif decide (szR o) then (some ((Ex.normal, [V.ptr 0 0, V.ptr 1 0, V.slst .ro ity n, V.si .i64 r, V.si .i64 e, V.slst .ro ity (bif validT c ds o then totD c o else []), V.si .i64 (bif validT c ds o then restD ds o else (0 : Int)), V.si .i64 (bif validT c ds o then (0 : Int) else (270 : Int))], [some [V.si .i64 c, V.slst .ro ity ds, V.slst .ro retT rs], some [V.si .i64 c, V.slst .ro ity ds, V.slst .ro retT o]], [], 192, 0, 0))) else none) := by kernel_rfl
theorem t7_eq (c : Int) (ds : List Int) (rs o : List (Ty.den retT)) (n : List Int) (r e : Int) (m : List Int) (q f : Int) : (pc 7 2 cfg29 (t7 7) [7, 8, 13, 14, 15, 16, 17, 18, 19, 20] [] (St.of 192 [7, 8, 13, 14, 15, 16, 17, 18] [.ptr 0 0, .ptr 1 0, .slst .ro ity n, .si .i64 r, .si .i64 e, .slst .ro ity m, .si .i64 q, .si .i64 f] [oT3 c ds rs, oT3 c ds o] [])).run = (bif decide (szR rs) then (some ((Ex.normal, [V.ptr 0 0, V.ptr 1 0, V.slst .ro ity n, V.si .i64 r, V.si .i64 e, V.slst .ro ity m, V.si .i64 q, V.si .i64 f, V.si .i64 (bif validT c ds rs then sureD (totD c rs) (restD ds rs) else (0 : Int)), V.si .i64 (bif validT c ds rs then (0 : Int) else (270 : Int))], [some [V.si .i64 c, V.slst .ro ity ds, V.slst .ro retT rs], some [V.si .i64 c, V.slst .ro ity ds, V.slst .ro retT o]], [], 192, 0, 0))) else none) := by kernel_rfl
theorem t8_eq (c : Int) (ds : List Int) (rs o : List (Ty.den retT)) (n : List Int) (r e : Int) (m : List Int) (q f s h : Int) : (pc 7 2 cfg29 (t7 8) [7, 13, 14, 15, 16, 17, 18, 19, 20, 21, 22] [] (St.of 192 [7, 8, 13, 14, 15, 16, 17, 18, 19, 20] [.ptr 0 0, .ptr 1 0, .slst .ro ity n, .si .i64 r, .si .i64 e, .slst .ro ity m, .si .i64 q, .si .i64 f, .si .i64 s, .si .i64 h] [oT3 c ds rs, oT3 c ds o] [])).run = (bif decide (szR o) then (some ((Ex.normal, [V.ptr 0 0, V.slst .ro ity n, V.si .i64 r, V.si .i64 e, V.slst .ro ity m, V.si .i64 q, V.si .i64 f, V.si .i64 s, V.si .i64 h, V.si .i64 (bif validT c ds o then sureD (totD c o) (restD ds o) else (0 : Int)), V.si .i64 (bif validT c ds o then (0 : Int) else (270 : Int))], [some [V.si .i64 c, V.slst .ro ity ds, V.slst .ro retT rs]], [], 192, 0, 0))) else none) := by kernel_rfl
theorem t9_eq (c : Int) (ds : List Int) (rs : List (Ty.den retT)) (n : List Int) (r e : Int) (m : List Int) (q f s h u k : Int) : (pc 7 2 cfg29 (t7 9) [7, 13, 14, 16, 19, 21] [6] (St.of 192 [7, 13, 14, 15, 16, 17, 18, 19, 20, 21, 22] [.ptr 0 0, .slst .ro ity n, .si .i64 r, .si .i64 e, .slst .ro ity m, .si .i64 q, .si .i64 f, .si .i64 s, .si .i64 h, .si .i64 u, .si .i64 k] [oT3 c ds rs] [])).run = (bif e != (0 : Int) then (some ((Ex.ret, [V.b false], [], [], 192, 0, 0))) else (bif f != (0 : Int) then (some ((Ex.ret, [V.b false], [], [], 192, 0, 0))) else (bif h != (0 : Int) then (some ((Ex.ret, [V.b false], [], [], 192, 0, 0))) else (bif k != (0 : Int) then (some ((Ex.ret, [V.b false], [], [], 192, 0, 0))) else (bif r != q then (some ((Ex.ret, [V.b false], [], [], 192, 0, 0))) else (bif (n.length : Int) != c then (some ((Ex.ret, [V.b false], [], [], 192, 0, 0))) else (bif (m.length : Int) != (n.length : Int) then (some ((Ex.ret, [V.b false], [], [], 192, 0, 0))) else (some ((Ex.normal, [V.ptr 0 0, V.slst .ro ity n, V.si .i64 r, V.slst .ro ity m, V.si .i64 s, V.si .i64 u], [some [V.si .i64 c, V.slst .ro ity ds, V.slst .ro retT rs]], [], 192, 0, 0)))))))))) := by kernel_rfl
theorem t10_eq (c : Int) (ds : List Int) (rs : List (Ty.den retT)) (n : List Int) (r : Int) (m : List Int) (s u : Int) : (pc 7 2 cfg29 (t7 10) [7, 13, 16, 19, 21, 23] [] (St.of 192 [7, 13, 14, 16, 19, 21] [.ptr 0 0, .slst .ro ity n, .si .i64 r, .slst .ro ity m, .si .i64 s, .si .i64 u] [oT3 c ds rs] [])).run = (some ((Ex.normal, [V.ptr 0 0, V.slst .ro ity n, V.slst .ro ity m, V.si .i64 s, V.si .i64 u, V.si .i64 r], [some [V.si .i64 c, V.slst .ro ity ds, V.slst .ro retT rs]], [], 192, 0, 0))) := by kernel_rfl
theorem t11_eq (c : Int) (ds : List Int) (rs : List (Ty.den retT)) (n : List Int) (r : Int) (m : List Int) (s u : Int) : (pc 7 2 cfg29 (t7 11) [7, 13, 19, 21, 23] [6] (St.of 192 [7, 13, 16, 19, 21, 23] [.ptr 0 0, .slst .ro ity n, .slst .ro ity m, .si .i64 s, .si .i64 u, .si .i64 r] [oT3 c ds rs] [])).run = (bif decide (pre_tt c ds rs n m s u r (0 : Int)) then (some ((Ex.normal, [V.ptr 0 0, V.slst .ro ity n, V.si .i64 s, V.si .i64 u, V.si .i64 (r + n.sum)], [some [V.si .i64 c, V.slst .ro ity ds, V.slst .ro retT rs]], [], 192, 0, 0))) else none) := by kernel_rfl
theorem t12_eq (c : Int) (ds : List Int) (rs : List (Ty.den retT)) (n : List Int) (a s u : Int) : (pc 7 3 cfg29 (t7 12) [13, 19, 21, 23] [6] (St.of 192 [7, 13, 19, 21, 23] [.ptr 0 0, .slst .ro ity n, .si .i64 s, .si .i64 u, .si .i64 a] [oT3 c ds rs] [])).run = (bif decide (pre_td c ds rs n s u a (0 : Int)) then (some ((Ex.normal, [V.slst .ro ity n, V.si .i64 s, V.si .i64 u, V.si .i64 (a - ds.sum)], [], [], 192, 0, 0))) else none) := by kernel_rfl
theorem t13_eq (n : List Int) (a s u : Int) : (pc 7 4 cfg29 (tlN 13 (root 7)) [] [6] (St.of 192 [13, 19, 21, 23] [.slst .ro ity n, .si .i64 s, .si .i64 u, .si .i64 a] [] [])).run = (bif a == (0 : Int) then (bif decide (s < (0 : Int)) then (bif decide (u < (0 : Int)) then (some ((Ex.ret, [V.b true], [], [], 192, 0, 0))) else (bif decide (s ≥ (0 : Int)) then (some ((Ex.ret, [V.sb (u == IntKind.i64.wrap (IntKind.i64.wrap ((n.length : Int) - (1 : Int)) - s))], [], [], 192, 0, 0))) else (some ((Ex.ret, [V.b false], [], [], 192, 0, 0))))) else (bif decide (s ≥ (0 : Int)) then (some ((Ex.ret, [V.sb (u == IntKind.i64.wrap (IntKind.i64.wrap ((n.length : Int) - (1 : Int)) - s))], [], [], 192, 0, 0))) else (some ((Ex.ret, [V.b false], [], [], 192, 0, 0))))) else (some ((Ex.ret, [V.b false], [], [], 192, 0, 0)))) := by kernel_rfl
end T
end Go.Proofs.Ytofbchcclkejgaa

/- Package tally: totals and rest, place by place (plain). -/
set_option linter.unusedVariables false
set_option linter.unusedSimpArgs false
set_option maxRecDepth 100000
namespace Go.Proofs.Ytofbchcclkejgaa
open Go
namespace T
theorem addL_getD {b v : List Int} (h : v.length = b.length) (k : Nat) : (addL b v).getD k 0 = b.getD k 0 + v.getD k 0 := by
 unfold addL
 by_cases hk : k < b.length
 · simp only [List.getD_eq_getElem?_getD]
   rw [List.getElem?_eq_getElem (show k < (List.zipWith (· + ·) b v).length by rw [List.length_zipWith]; omega), List.getElem?_eq_getElem hk, List.getElem?_eq_getElem (show k < v.length by omega)]
   simp
 · simp only [List.getD_eq_getElem?_getD]
   rw [List.getElem?_eq_none (show (List.zipWith (· + ·) b v).length ≤ k by rw [List.length_zipWith]; omega), List.getElem?_eq_none (show b.length ≤ k by omega), List.getElem?_eq_none (show v.length ≤ k by omega)]
   simp
theorem addL_sum : ∀ {b v : List Int}, v.length = b.length → (addL b v).sum = b.sum + v.sum
 | [], [], _ => by simp [addL]
 | x :: b, y :: v, h => by
  have := addL_sum (b := b) (v := v) (by simpa using h)
  unfold addL at this ⊢
  rw [List.zipWith_cons_cons, List.sum_cons, List.sum_cons, List.sum_cons, this]
  omega
theorem getD_rev {l : List Int} {k : Nat} (h : k < l.length) : l.reverse.getD k 0 = l.getD (l.length - 1 - k) 0 := by
 simp only [List.getD_eq_getElem?_getD]
 rw [List.getElem?_reverse h]
theorem ext_getD {a b : List Int} (hl : a.length = b.length) (h : ∀ k, k < a.length → a.getD k 0 = b.getD k 0) : a = b := by
 refine List.ext_getElem hl fun i h1 h2 => ?_
 have := h i h1
 simpa [List.getD, h1, h2] using this
theorem addL_rev {b v : List Int} (h : v.length = b.length) : addL b.reverse v.reverse = (addL b v).reverse := by
 have hl : (addL b v).length = b.length := addL_len h
 refine ext_getD (by rw [addL_len (by rw [List.length_reverse, List.length_reverse]; exact h), List.length_reverse, List.length_reverse, hl]) fun k hk => ?_
 rw [addL_len (by rw [List.length_reverse, List.length_reverse]; exact h), List.length_reverse] at hk
 rw [addL_getD (by rw [List.length_reverse, List.length_reverse]; exact h), getD_rev hk, getD_rev (by omega), getD_rev (by omega), hl, h, addL_getD h]
theorem totB_sum {rs : List R1} : ∀ {b : List Int}, (∀ r ∈ rs, (rV r).length = b.length) → (totB rs b).sum = b.sum + sumV rs := by
 induction rs with
 | nil => intro b h; simp [totB, sumV]
 | cons r t ih =>
  intro b h
  have h0 := h r (by simp)
  show (totB t (addL b (rV r))).sum = _
  rw [ih (fun x hx => by rw [addL_len h0]; exact h x (by simp [hx])), addL_sum h0]
  show _ = b.sum + (((rV r).sum) :: (t.map fun r => (rV r).sum)).sum
  rw [List.sum_cons]
  show _ + sumV t = _ + (_ + sumV t)
  omega
def revR (r : R1) : R1 := (rD r, rN r, (rV r).reverse, ())
def revs (rs : List R1) : List R1 := rs.map revR
theorem totB_rev {rs : List R1} : ∀ {b : List Int}, (∀ r ∈ rs, (rV r).length = b.length) → totB (revs rs) b.reverse = (totB rs b).reverse := by
 induction rs with
 | nil => intro b h; rfl
 | cons r t ih =>
  intro b h
  have h0 := h r (by simp)
  show totB (revs t) (addL b.reverse (rV r).reverse) = (totB t (addL b (rV r))).reverse
  rw [addL_rev h0, ih (fun x hx => by rw [addL_len h0]; exact h x (by simp [hx]))]
theorem okLen {c : Int} {ds : List Int} {rs : List R1} (h : validT c ds rs = true) : ∀ r ∈ rs, (rV r).length = (List.replicate c.toNat (0 : Int)).length := fun r hr => by
 rw [List.length_replicate]; exact (validT_ok h r hr).1
theorem totD_sum {c : Int} {ds : List Int} {rs : List R1} (h : validT c ds rs = true) : (totD c rs).sum = sumV rs := by
 unfold totD
 rw [totB_sum (okLen h)]
 have : (List.replicate c.toNat (0 : Int)).sum = 0 := by simp
 rw [this]; omega
theorem totD_rev {c : Int} {ds : List Int} {rs : List R1} (h : validT c ds rs = true) : totD c (revs rs) = (totD c rs).reverse := by
 unfold totD
 have := totB_rev (okLen h)
 rwa [List.reverse_replicate] at this
theorem sumV_revs (rs : List R1) : sumV (revs rs) = sumV rs := by
 unfold sumV revs
 rw [List.map_map]
 congr 1
 refine List.map_congr_left fun r _ => ?_
 show (rV r).reverse.sum = (rV r).sum
 exact List.sum_reverse _
theorem revs_valid {c : Int} {ds : List Int} {rs : List R1} (h : validT c ds rs = true) : validT c ds (revs rs) = true := by
 obtain ⟨h1, h2, h3⟩ := validT_asc.1 h
 refine validT_asc.2 ⟨h1, fun x hx => ?_, ?_⟩
 · obtain ⟨r, hr, rfl⟩ := List.mem_map.1 hx
   obtain ⟨g1, g2, g3, g4, g5⟩ := properD_iff.1 (h2 r hr)
   refine properD_iff.2 ⟨g1, g2, ?_, fun x hx => g4 x ?_, ?_⟩
   · show ((rV r).reverse.length : Int) = c
     rw [List.length_reverse]; exact g3
   · have hx : x ∈ (rV r).reverse := hx
     exact List.mem_reverse.1 hx
   · show (rV r).reverse.sum ≤ ds.getD (rD r).toNat 0
     rw [List.sum_reverse]; exact g5
 · unfold Asc revs
   rw [List.pairwise_map]
   exact h3
theorem restD_revs (ds : List Int) (rs : List R1) : restD ds (revs rs) = restD ds rs := by unfold restD; rw [sumV_revs]
def sumJ (f : Nat → Int) : Nat → Int
 | 0 => 0
 | n + 1 => sumJ f n + f n
theorem sumJ_le {f g : Nat → Int} : ∀ {n : Nat}, (∀ j, j < n → f j ≤ g j) → sumJ f n ≤ sumJ g n
 | 0, _ => Int.le_refl _
 | n + 1, h => by
  have := sumJ_le (n := n) fun j hj => h j (by omega)
  have := h n (by omega)
  unfold sumJ; omega
theorem sumJ_add (f g : Nat → Int) : ∀ n, sumJ (fun j => f j + g j) n = sumJ f n + sumJ g n
 | 0 => rfl
 | n + 1 => by have := sumJ_add f g n; unfold sumJ; omega
theorem sumJ_sub (f g : Nat → Int) : ∀ n, sumJ (fun j => f j - g j) n = sumJ f n - sumJ g n
 | 0 => rfl
 | n + 1 => by have := sumJ_sub f g n; unfold sumJ; omega
theorem sumJ_take (l : List Int) : ∀ n, n ≤ l.length → sumJ (fun j => l.getD j 0) n = (l.take n).sum
 | 0, _ => by simp [sumJ]
 | n + 1, h => by
  have := sumJ_take l n (by omega)
  rw [sum_take (by omega)]
  unfold sumJ; omega
theorem sumJ_more {f : Nat → Int} {n : Nat} : ∀ {m : Nat}, n ≤ m → (∀ j, n ≤ j → j < m → f j = 0) → sumJ f m = sumJ f n
 | 0, h, _ => by rw [show n = 0 by omega]
 | m + 1, h, h0 => by
  by_cases e : n = m + 1
  · rw [e]
  · have := sumJ_more (m := m) (by omega) fun j a b => h0 j a (by omega)
    have := h0 m (by omega) (by omega)
    show sumJ f m + f m = sumJ f n
    omega
theorem sumJ_list {l : List Int} {m : Nat} (h : l.length ≤ m) : sumJ (fun j => l.getD j 0) m = l.sum := by
 rw [sumJ_more h fun j a _ => by simp [List.getD, a], sumJ_take l l.length (Nat.le_refl _), List.take_length]
theorem sum_outT (f : R1 → Int) (m : Nw) (hz : ∀ j, ¬ rN (m j) > 0 → f (m j) = 0) : ∀ n, ((outT m n).map f).sum = sumJ (fun j => f (m j)) n
 | 0 => rfl
 | n + 1 => by
  have ih := sum_outT f m hz n
  unfold sumJ
  by_cases h : rN (m n) > 0
  · rw [show outT m (n + 1) = outT m n ++ [m n] by rw [outT]; simp [h], List.map_append, List.sum_append, ih]
    show sumJ (fun j => f (m j)) n + ([f (m n)] : List Int).sum = _
    simp
  · rw [show outT m (n + 1) = outT m n by rw [outT]; simp [h], ih, hz n h]; simp
theorem zero_rV (l : List R1) {c : Int} {ds : List Int} (h : okP c ds l) (j : Nat) (h0 : ¬ rN (mapOf l j) > 0) : rV (mapOf l j) = [] := by
 rcases best_map h j with ⟨_, e⟩ | ⟨a, _, _⟩
 · rw [e]; rfl
 · have := prR_N (h _ a)
   omega
theorem sum_valid {c : Int} {ds : List Int} {rs : List R1} (h : validT c ds rs = true) (f : List Int → Int) (h0 : f [] = 0) : (rs.map fun r => f (rV r)).sum = sumJ (fun j => f (rV (mapOf rs j))) 12 := by
 have hok := (validT_asc.1 h).2.1
 have := sum_outT (fun r => f (rV r)) (mapOf rs) (fun j hj => by
  show f (rV (mapOf rs j)) = 0
  rw [zero_rV rs hok j hj, h0]) 12
 rw [← this]
 show _ = (List.map _ (canon rs)).sum
 rw [canon_self h]
def vAt (rs : List R1) (j : Nat) : List Int := rV (mapOf rs j)
theorem vAt_ok {c : Int} {ds : List Int} {rs : List R1} (hok : okP c ds rs) (j : Nat) : vAt rs j = [] ∧ (∀ y ∈ rs, rD y ≠ j) ∨ ((vAt rs j).length : Int) = c ∧ (∀ x ∈ vAt rs j, 0 ≤ x) ∧ (vAt rs j).sum ≤ ds.getD j 0 ∧ j < ds.length := by
 rcases best_map hok j with ⟨a, e⟩ | ⟨a, b, _⟩
 · exact .inl ⟨by unfold vAt; rw [e]; rfl, a⟩
 · obtain ⟨g1, g2, g3, g4, g5⟩ := properD_iff.1 (hok _ a)
   refine .inr ⟨g3, fun x hx => (g4 x hx).1, ?_, by rw [b] at g1; omega⟩
   rw [b] at g5
   exact g5
theorem getD_nonneg {l : List Int} (h : ∀ x ∈ l, 0 ≤ x) (k : Nat) : 0 ≤ l.getD k 0 := by
 by_cases hk : k < l.length
 · exact h _ (getD_mem 0 hk)
 · simp [List.getD, Nat.not_lt.1 hk]
theorem ds_nonneg {c : Int} {ds : List Int} (hc : validC c ds = true) (j : Nat) : 0 ≤ ds.getD j 0 := getD_nonneg (fun x hx => ((validC_iff.1 hc).2.2 x hx).1) j
theorem restD_eq {c : Int} {ds : List Int} {rs : List R1} (h : validT c ds rs = true) : restD ds rs = sumJ (fun j => ds.getD j 0 - (vAt rs j).sum) 12 := by
 have hl := validC_len (validT_asc.1 h).1
 unfold restD
 rw [sumJ_sub, sumJ_list hl]
 congr 1
 exact sum_valid h (fun v => v.sum) rfl
theorem left_nonneg {c : Int} {ds : List Int} {rs : List R1} (hc : validC c ds = true) (hok : okP c ds rs) (j : Nat) : 0 ≤ ds.getD j 0 - (vAt rs j).sum := by
 rcases vAt_ok hok j with ⟨e, _⟩ | ⟨_, _, h3, _⟩
 · rw [e]; have := ds_nonneg hc j; simpa using this
 · omega
theorem sumJ_nonneg {f : Nat → Int} {n : Nat} (h : ∀ j, j < n → 0 ≤ f j) : 0 ≤ sumJ f n := by
 have := sumJ_le (f := fun _ => 0) (g := f) (n := n) h
 have e : ∀ n, sumJ (fun _ => 0) n = 0 := fun n => by induction n with | zero => rfl | succ n ih => unfold sumJ; omega
 rw [e] at this; exact this
theorem restD_nonneg {c : Int} {ds : List Int} {rs : List R1} (h : validT c ds rs = true) : 0 ≤ restD ds rs := by
 rw [restD_eq h]
 exact sumJ_nonneg fun j _ => left_nonneg (validT_asc.1 h).1 (validT_asc.1 h).2.1 j
theorem oth_spec (t : List Int) (c : Int) : ∀ k, 0 ≤ othT t c k ∧ (∀ m, m < k → (m : Int) ≠ c → t.getD m 0 ≤ othT t c k) ∧ (othT t c k = 0 ∨ ∃ m, m < k ∧ (m : Int) ≠ c ∧ othT t c k = t.getD m 0)
 | 0 => ⟨Int.le_refl _, fun m h => by omega, .inl rfl⟩
 | k + 1 => by
  obtain ⟨h1, h2, h3⟩ := oth_spec t c k
  have key : othT t c (k + 1) = if (k : Int) ≠ c then (if t.getD k 0 > othT t c k then t.getD k 0 else othT t c k) else othT t c k := rfl
  rw [key]
  by_cases hk : (k : Int) = c
  · rw [if_neg (by omega)]
    refine ⟨h1, fun m hm hne => h2 m (by omega) hne, ?_⟩
    rcases h3 with e | ⟨m, a, b, e⟩
    · exact .inl e
    · exact .inr ⟨m, by omega, b, e⟩
  · rw [if_pos hk]
    by_cases hg : t.getD k 0 > othT t c k
    · rw [if_pos hg]
      refine ⟨by omega, fun m hm hne => ?_, .inr ⟨k, by omega, hk, rfl⟩⟩
      by_cases e : m = k
      · subst e; omega
      · have := h2 m (by omega) hne; omega
    · rw [if_neg hg]
      refine ⟨h1, fun m hm hne => ?_, ?_⟩
      · by_cases e : m = k
        · subst e; omega
        · exact h2 m (by omega) hne
      · rcases h3 with e | ⟨m, a, b, e⟩
        · exact .inl e
        · exact .inr ⟨m, by omega, b, e⟩
theorem sureAt_iff {t : List Int} {r : Int} {a : Nat} : sureAt t r a = true ↔ t.getD a 0 > r ∧ ∀ m, m < t.length → m ≠ a → t.getD a 0 > t.getD m 0 + r := by
 obtain ⟨h1, h2, h3⟩ := oth_spec t (a : Int) t.length
 unfold sureAt
 rw [decide_eq_true_iff]
 show t.getD a 0 > othT t a t.length + r ↔ _
 constructor
 · intro h
   refine ⟨by omega, fun m hm hne => ?_⟩
   have := h2 m hm (by omega)
   omega
 · rintro ⟨g1, g2⟩
   rcases h3 with e | ⟨m, hm, hne, e⟩
   · omega
   · have := g2 m hm (by omega)
     omega
theorem sure_one {t : List Int} {r : Int} (hr : 0 ≤ r) {a b : Nat} (ha : a < t.length) (hb : b < t.length) (h : sureAt t r a = true) (k : sureAt t r b = true) : a = b := by
 by_cases e : a = b
 · exact e
 · have h1 := (sureAt_iff.1 h).2 b hb (fun h => e h.symm)
   have h2 := (sureAt_iff.1 k).2 a ha e
   omega
theorem sureD_some {t : List Int} {r : Int} (hr : 0 ≤ r) {a : Nat} (ha : a < t.length) (h : sureAt t r a = true) : sureD t r = (a : Int) := by
 have hk : sureK t r < t.length := by
  rcases Nat.lt_or_ge (sureK t r) t.length with h' | h'
  · exact h'
  · have := sureK_before (t := t) (r := r) (i := a) (by omega)
    rw [h] at this; cases this
 unfold sureD
 rw [if_pos hk, sure_one hr hk ha (sureK_here hk) h]
theorem sureD_none {t : List Int} {r : Int} (h : ∀ a, a < t.length → sureAt t r a = false) : sureD t r = -1 := by
 unfold sureD
 by_cases hk : sureK t r < t.length
 · have := sureK_here hk
   rw [h _ hk] at this; cases this
 · rw [if_neg hk]
theorem sureD_cases (t : List Int) (r : Int) : (sureD t r = -1 ∧ ∀ a, a < t.length → sureAt t r a = false) ∨ ∃ a, a < t.length ∧ sureD t r = (a : Int) ∧ sureAt t r a = true := by
 by_cases hk : sureK t r < t.length
 · exact .inr ⟨sureK t r, hk, by unfold sureD; rw [if_pos hk], sureK_here hk⟩
 · refine .inl ⟨by unfold sureD; rw [if_neg hk], fun a ha => sureK_before (by omega)⟩
theorem sureAt_rev {t : List Int} {r : Int} {a : Nat} (ha : a < t.length) : sureAt t.reverse r (t.length - 1 - a) = sureAt t r a := by
 rw [Bool.eq_iff_iff, sureAt_iff, sureAt_iff, getD_rev (by omega), show t.length - 1 - (t.length - 1 - a) = a by omega, List.length_reverse]
 constructor
 · rintro ⟨h1, h2⟩
   refine ⟨h1, fun m hm hne => ?_⟩
   have := h2 (t.length - 1 - m) (by omega) (by omega)
   rwa [getD_rev (by omega), show t.length - 1 - (t.length - 1 - m) = m by omega] at this
 · rintro ⟨h1, h2⟩
   refine ⟨h1, fun m hm hne => ?_⟩
   rw [getD_rev hm]
   exact h2 (t.length - 1 - m) (by omega) (by omega)
theorem sureD_rev {t : List Int} {r : Int} (hr : 0 ≤ r) : (sureD t r < 0 ∧ sureD t.reverse r < 0) ∨ (sureD t r ≥ 0 ∧ sureD t r < (t.length : Int) ∧ sureD t.reverse r = (t.length : Int) - 1 - sureD t r) := by
 rcases sureD_cases t r with ⟨e, h⟩ | ⟨a, ha, e, h⟩
 · refine .inl ⟨by omega, ?_⟩
   rw [sureD_none (t := t.reverse) fun b hb => by
    rw [List.length_reverse] at hb
    have := sureAt_rev (t := t) (r := r) (a := t.length - 1 - b) (by omega)
    rw [show t.length - 1 - (t.length - 1 - b) = b by omega] at this
    rw [this]; exact h _ (by omega)]
   omega
 · refine .inr ⟨by omega, by omega, ?_⟩
   rw [e, sureD_some (t := t.reverse) (a := t.length - 1 - a) hr (by rw [List.length_reverse]; omega) (by rw [sureAt_rev ha]; exact h)]
   omega
end T
end Go.Proofs.Ytofbchcclkejgaa

/- Package tally: TallyTotals: the law's function returns true. -/
set_option linter.unusedVariables false
set_option linter.unusedSimpArgs false
set_option maxRecDepth 100000
set_option maxHeartbeats 4000000
namespace Go.Proofs.Ytofbchcclkejgaa
open Go
namespace T
theorem revs_next {rs : List R1} {i : Nat} (hi : i < rs.length) : revs (rs.take (i + 1)) = revs (rs.take i) ++ [revR (rs.getD i retT.dflt)] := by
 unfold revs; rw [take_snoc retT.dflt hi, List.map_append]; rfl
theorem revs_len (rs : List R1) (i : Nat) (hi : i ≤ rs.length) : (revs (rs.take i)).length = i := by unfold revs; rw [List.length_map, List.length_take]; omega
theorem liesTE : Lies (root 7) 1 toE := Lies.of_take (n := 1) (by kernel_rfl)
theorem tS_snoc (c : Int) (ds : List Int) (rs : List R1) (i : Int) (o : List R1) (r : R1) : tS c ds rs i (o ++ [r]) = St.of 192 [7, 8, 9] [.ptr 0 0, .ptr 1 0, .si .i64 i] [oT3 c ds rs, some [.si .i64 c, .slst .ro ity ds, .bs true 0 0 (o.length + 1)]] [bR (o ++ [r])] := by
 unfold tS oU3; rw [snoc_len]
theorem to_round {c : Int} {ds : List Int} {rs : List R1} (hv : validT c ds rs = true) {i : Nat} (hi : i < rs.length) : SemC Try.prog Γ to (tS c ds rs i (revs (rs.take i))) .normal (tS c ds rs ((i + 1 : Nat) : Int) (revs (rs.take (i + 1)))) := by
 have hl := validT_len hv
 have hl2 := validC_len (validT_asc.1 hv).1
 have hc := (validC_iff.1 (validT_asc.1 hv).1).1
 have hr := (validT_asc.1 hv).2.1 _ (getD_mem retT.dflt hi)
 have hvl : (rV (rs.getD i retT.dflt)).length ≤ 1000 := by have := (properD_iff.1 hr).2.2.1; omega
 have hol := revs_len rs i (by omega)
 have hb : (0 : Int) ≤ (i : Int) ∧ (i : Int) < (Nat.cast rs.length : Int) := by omega
 have hA := pc_ok (e := .normal) cfg29_ok Try.func7 bd7 (lies0 (by kernel_rfl)) ((toA_eq c ds rs i (revs (rs.take i))).trans (by rw [decide_eq_true hb.2]; rfl))
 have hC := pc_ok (e := .normal) cfg29_ok Try.func7 bd7 (lies0 (by kernel_rfl)) ((toC_eq c ds rs i (revs (rs.take i))).trans (by rw [decide_eq_true hb, Int.toNat_natCast]; rfl))
 have hD := pc_ok (e := .normal) cfg29_ok Try.func7 bd7 (lies0 (by kernel_rfl)) (toD_eq c ds rs i (rD (rs.getD i retT.dflt)) (rN (rs.getD i retT.dflt)) (rV (rs.getD i retT.dflt)) (revs (rs.take i)))
 have hE := pc_ok (e := .normal) cfg29_ok Try.func7 bd7 liesTE ((toE_eq c ds rs i (rD (rs.getD i retT.dflt)) (rN (rs.getD i retT.dflt)) (rV (rs.getD i retT.dflt)) (revs (rs.take i))).trans (by
  rw [decide_eq_true (show pre_tv c ds rs c ds (revs (rs.take i)).length i (rD (rs.getD i retT.dflt)) (rN (rs.getD i retT.dflt)) (rV (rs.getD i retT.dflt)) 0 (IntKind.i64.wrap ((Nat.cast (rV (rs.getD i retT.dflt)).length : Int) - 1)) [] (revs (rs.take i)) from ⟨rfl, rfl, wrap_in (by omega) (by omega), hvl⟩)]; rfl))
 have hF := pc_ok (e := .normal) cfg29_ok Try.func7 bd7 (lies0 (by kernel_rfl)) (toF_eq c ds rs i (rD (rs.getD i retT.dflt)) (rN (rs.getD i retT.dflt)) (rV (rs.getD i retT.dflt)) (rV (rs.getD i retT.dflt)).reverse (revs (rs.take i)))
 rw [List.length_reverse] at hF
 have hF2 := hF.postW (St.freezeO (o := 2) (k := 2) (s := 1) (sy := true) (L := (rV (rs.getD i retT.dflt)).length) (cs := [.si .i64 (rD (rs.getD i retT.dflt)), .si .i64 (rN (rs.getD i retT.dflt)), .bs true 1 0 (rV (rs.getD i retT.dflt)).length]) (ty := ity) (l := (rV (rs.getD i retT.dflt)).reverse) rfl rfl rfl List.length_reverse.symm)
 have hG := pc_ok (e := .normal) cfg29_ok Try.func7 bd7 (lies0 (by kernel_rfl)) ((toG_eq c ds rs i (rD (rs.getD i retT.dflt)) (rN (rs.getD i retT.dflt)) (rV (rs.getD i retT.dflt)).reverse (revs (rs.take i))).trans (by
  rw [decide_eq_true (by omega : ((revs (rs.take i)).length + 1) * 2 * 40 ≤ 281474976710656), List.drop_zero, List.take_length]; rfl))
 have hG' := hG.post (y' := tS c ds rs i (revs (rs.take (i + 1)))) (fun G a w h => by rw [revs_next hi, tS_snoc]; exact h)
 have hK := pc_ok (e := .normal) cfg29_ok Try.func7 bd7 (lies0 (by kernel_rfl)) ((toK_eq c ds rs i (revs (rs.take (i + 1)))).trans (by rw [wrap_succ hi (by omega)]))
 rw [to_eq]
 exact hA.seq ((SemC.block (x := .normal) (by simp) (hC.seq (hD.seq (hE.seq (hF2.seq hG'))))).seq hK)
theorem to_go {c : Int} {ds : List Int} {rs : List R1} (hv : validT c ds rs = true) : SemL Try.prog Γ to (tS c ds rs 0 []) (.exit 0) (St.of 192 [7, 8] [.ptr 0 0, .ptr 1 0] [oT3 c ds rs, oU3 c ds (revs rs)] [bR (revs rs)]) := by
 refine SemL.scan rs.length 0 (Nat.zero_le _) (fun i => tS c ds rs (i : Nat) (revs (rs.take i))) (fun _ => true) (.exit 0, St.of 192 [7, 8] [.ptr 0 0, .ptr 1 0] [oT3 c ds rs, oU3 c ds (revs rs)] [bR (revs rs)]) ?_ ?_ ?_
 · intro i _ hi _ _
   exact to_round hv hi
 · intro i _ _ _ hp
   cases hp
 · intro _
   refine ⟨by simp [Ex.to], ?_⟩
   have hA := pc_ok (e := .exit 0) cfg29_ok Try.func7 bd7 (lies0 (by kernel_rfl)) ((toA_eq c ds rs rs.length (revs rs)).trans (by rw [decide_eq_false (by omega)]; rfl))
   rw [to_eq, List.take_length]
   exact SemC.seq_out (by simp [Ex.to]) hA
theorem totals_ok (c0 : Int) (ds0 : List Int) (x : List (Ty.den six)) (h : okMd c0 ds0 x) : SemF Try.prog Γ 7 [.si .i64 c0, .slst .ro ity ds0, .slst .ro six x] [] [] (.b true) [] [] := by
 have hv := mR_valid c0 ds0 x
 generalize hc : mC c0 = c at hv
 generalize hd : mD ds0 = ds at hv
 have h2' := pc_ok (e := .normal) cfg29_ok Try.func7 bd7 (lies0 (by kernel_rfl)) ((t2_eq c0 ds0 x).trans (by rw [decide_eq_true h]; rfl))
 rw [hc, hd] at h2'
 generalize hrs : mR c0 ds0 x = rs at hv h2'
 have hsz := validT_sz hv
 have hv2 := revs_valid hv
 have hsz2 := validT_sz hv2
 have h0 := pc_ok (e := .normal) cfg29_ok Try.func7 bd7 (lies0 (by kernel_rfl)) (t0_eq c0 ds0 x)
 have h1 := pc_ok (e := .normal) cfg29_ok Try.func7 bd7 (lies0 (by kernel_rfl)) (t1_eq c0 ds0 x)
 have h3 := pc_ok (e := .normal) cfg29_ok Try.func7 bd7 (lies0 (by kernel_rfl)) (t3_eq c ds rs)
 have h4 := (pc_ok (e := .normal) cfg29_ok Try.func7 bd7 (lies0 (by kernel_rfl)) (t4_eq c ds rs)).post (y' := tS c ds rs 0 []) (imp_trans (St.of_imps (vs' := [.ptr 0 0, .ptr 1 0, .si .i64 0]) rfl fun G j v v' h1 h2 cv hr => by
  match j with
  | 0 => cases h1; cases h2; exact hr
  | 1 => cases h1; cases h2; exact hr
  | 2 => cases h1; cases h2; exact si0 hr
  | j + 3 => cases h1) (St.birthOb 1 2 (cs := [.si .i64 c, .slst .ro ity ds, .lst .full []]) rfl rfl (c := .arr retT []) rfl))
 have hL := (SemC.seq h4 (SemC.block_exit (SemC.loop (to_go hv)))).postW (St.freezeO (o := 1) (k := 2) (s := 0) (sy := true) (L := (revs rs).length) (cs := [.si .i64 c, .slst .ro ity ds, .bs true 0 0 (revs rs).length]) (ty := retT) (l := revs rs) rfl rfl rfl rfl)
 have h5 := pc_ok (e := .normal) cfg29_ok Try.func7 bd7 (lies0 (by kernel_rfl)) ((t5_eq c ds rs (revs rs)).trans (by rw [decide_eq_true hsz, hv]; rfl))
 have h6 := pc_ok (e := .normal) cfg29_ok Try.func7 bd7 (lies0 (by kernel_rfl)) ((t6_eq c ds rs (revs rs) (totD c rs) (restD ds rs) 0).trans (by rw [decide_eq_true hsz2, hv2, totD_rev hv, restD_revs]; rfl))
 have h7 := pc_ok (e := .normal) cfg29_ok Try.func7 bd7 (lies0 (by kernel_rfl)) ((t7_eq c ds rs (revs rs) (totD c rs) (restD ds rs) 0 (totD c rs).reverse (restD ds rs) 0).trans (by rw [decide_eq_true hsz, hv]; rfl))
 have h8 := pc_ok (e := .normal) cfg29_ok Try.func7 bd7 (lies0 (by kernel_rfl)) ((t8_eq c ds rs (revs rs) (totD c rs) (restD ds rs) 0 (totD c rs).reverse (restD ds rs) 0 (sureD (totD c rs) (restD ds rs)) 0).trans (by rw [decide_eq_true hsz2, hv2, totD_rev hv, restD_revs]; rfl))
 have hcc := (validC_iff.1 (validT_asc.1 hv).1)
 obtain ⟨ht1, ht2⟩ := totD_ok hv
 have hr0 := restD_nonneg hv
 have hr1 := restD_ok hv
 have hsum := totD_sum hv
 have h9 := pc_ok (e := .normal) cfg29_ok Try.func7 bd7 (lies0 (by kernel_rfl)) ((t9_eq c ds rs (totD c rs) (restD ds rs) 0 (totD c rs).reverse (restD ds rs) 0 (sureD (totD c rs) (restD ds rs)) 0 (sureD (totD c rs).reverse (restD ds rs)) 0).trans (by
  rw [List.length_reverse, show ((Nat.cast (totD c rs).length : Int) != c) = false by rw [ht1, show ((c.toNat : Nat) : Int) = c by omega, bne_self_eq_false], bne_self_eq_false, bne_self_eq_false, bne_self_eq_false]; rfl))
 have h10 := pc_ok (e := .normal) cfg29_ok Try.func7 bd7 (lies0 (by kernel_rfl)) (t10_eq c ds rs (totD c rs) (restD ds rs) (totD c rs).reverse (sureD (totD c rs) (restD ds rs)) (sureD (totD c rs).reverse (restD ds rs)))
 have h11 := pc_ok (e := .normal) cfg29_ok Try.func7 bd7 (Lies.of_take (n := 1) (by kernel_rfl)) ((t11_eq c ds rs (totD c rs) (restD ds rs) (totD c rs).reverse (sureD (totD c rs) (restD ds rs)) (sureD (totD c rs).reverse (restD ds rs))).trans (by
  rw [decide_eq_true (show pre_tt c ds rs (totD c rs) (totD c rs).reverse (sureD (totD c rs) (restD ds rs)) (sureD (totD c rs).reverse (restD ds rs)) (restD ds rs) 0 from ⟨rfl, rfl, by omega, fun x hx => by have := ht2 x hx; omega, by omega⟩)]; rfl))
 have hs2 := sum_bnd (B := 1200000) (by omega) ht2
 have hs3 : restD ds rs + (totD c rs).sum = ds.sum := by rw [hsum]; unfold restD; omega
 rw [hs3] at h11
 have hs4 := sum_bnd (l := ds) (B := 100000) (by omega) hcc.2.2
 have h12 := pc_ok (e := .normal) cfg29_ok Try.func7 bd7 (Lies.of_take (n := 1) (by kernel_rfl)) ((t12_eq c ds rs (totD c rs) ds.sum (sureD (totD c rs) (restD ds rs)) (sureD (totD c rs).reverse (restD ds rs))).trans (by
  rw [decide_eq_true (show pre_td c ds rs (totD c rs) (sureD (totD c rs) (restD ds rs)) (sureD (totD c rs).reverse (restD ds rs)) ds.sum 0 from ⟨rfl, by omega, fun x hx => by have := hcc.2.2 x hx; omega, by omega⟩), show ds.sum - ds.sum = 0 by omega]; rfl))
 have h13 : SemC Try.prog Γ (tlN 13 (root 7)) (St.of 192 [13, 19, 21, 23] [.slst .ro ity (totD c rs), .si .i64 (sureD (totD c rs) (restD ds rs)), .si .i64 (sureD (totD c rs).reverse (restD ds rs)), .si .i64 0] [] []) .ret (St.of 192 [6] [.b true] [] []) := by
  rcases sureD_rev (t := totD c rs) hr0 with ⟨a, b⟩ | ⟨a, b, e⟩
  · exact pc_ok (e := .ret) cfg29_ok Try.func7 bd7 (lies0 (by kernel_rfl)) ((t13_eq (totD c rs) 0 (sureD (totD c rs) (restD ds rs)) (sureD (totD c rs).reverse (restD ds rs))).trans (by
     rw [decide_eq_true a, decide_eq_true b]; rfl))
  · have := pc_ok (e := .ret) (vs := [.sb true]) cfg29_ok Try.func7 bd7 (lies0 (by kernel_rfl)) ((t13_eq (totD c rs) 0 (sureD (totD c rs) (restD ds rs)) (sureD (totD c rs).reverse (restD ds rs))).trans (by
     rw [decide_eq_false (by omega), decide_eq_true a, wrap_in (n := (Nat.cast (totD c rs).length : Int) - 1) (by omega) (by omega), wrap_in (n := (Nat.cast (totD c rs).length : Int) - 1 - sureD (totD c rs) (restD ds rs)) (by omega) (by omega), e, decide_eq_false (by omega : ¬ (Nat.cast (totD c rs).length : Int) - 1 - sureD (totD c rs) (restD ds rs) < 0), beq_self_eq_true, beq_self_eq_true]; rfl))
    exact this.post (St.of_imps rfl fun G j v v' h1 h2 cv hr => by
     match j with
     | 0 => cases h1; cases h2; cases hr; exact .b _
     | j + 1 => cases h1)
 have hc' := SemC.seq h0 (SemC.seq h1 (SemC.seq h2' (SemC.seq h3 (SemC.seq hL (SemC.seq h5 (SemC.seq h6 (SemC.seq h7 (SemC.seq h8 (SemC.seq h9 (SemC.seq h10 (SemC.seq h11 (SemC.seq h12 h13))))))))))))
 rw [← root7] at hc'
 exact SemF.of_body Try.func7 bd7 (.inl rfl) hc' (by kernel_rfl)
end T
end Go.Proofs.Ytofbchcclkejgaa

