/- Parts of the library of texts, one after the other: P30, T30, T32, T33, P31, T34, T35, T36, T37, T38, P32, T39, T40. -/
import Derived.Test.YtofbchcclkejgaaTOm
/- Package tally: totals and rest, place by place (plain). -/
set_option linter.unusedVariables false
set_option linter.unusedSimpArgs false
set_option maxRecDepth 100000
namespace Go.Proofs.Ytofbchcclkejgaa
open Go
namespace T
theorem addL_getD {b v : List Int} (h : v.length = b.length) (k : Nat) : (addL b v).getD k 0 = b.getD k 0 + v.getD k 0 := by
 unfold addL
 by_cases hk : k < b.length
 · simp only [List.getD_eq_getElem?_getD]
   rw [List.getElem?_eq_getElem (show k < (List.zipWith (· + ·) b v).length by rw [List.length_zipWith]; omega), List.getElem?_eq_getElem hk, List.getElem?_eq_getElem (show k < v.length by omega)]
   simp
 · simp only [List.getD_eq_getElem?_getD]
   rw [List.getElem?_eq_none (show (List.zipWith (· + ·) b v).length ≤ k by rw [List.length_zipWith]; omega), List.getElem?_eq_none (show b.length ≤ k by omega), List.getElem?_eq_none (show v.length ≤ k by omega)]
   simp
theorem totB_getD {rs : List R1} (k : Nat) : ∀ {b : List Int}, (∀ r ∈ rs, (rV r).length = b.length) → (totB rs b).getD k 0 = b.getD k 0 + (rs.map fun r => (rV r).getD k 0).sum := by
 induction rs with
 | nil => intro b h; simp [totB]
 | cons r t ih =>
  intro b h
  have h0 := h r (by simp)
  show (totB t (addL b (rV r))).getD k 0 = _
  rw [ih (fun x hx => by rw [addL_len h0]; exact h x (by simp [hx])), addL_getD h0, List.map_cons, List.sum_cons]
  omega
theorem okLen {c : Int} {ds : List Int} {rs : List R1} (h : validT c ds rs = true) : ∀ r ∈ rs, (rV r).length = (List.replicate c.toNat (0 : Int)).length := fun r hr => by
 rw [List.length_replicate]; exact (validT_ok h r hr).1
theorem totD_getD {c : Int} {ds : List Int} {rs : List R1} (h : validT c ds rs = true) (k : Nat) : (totD c rs).getD k 0 = (rs.map fun r => (rV r).getD k 0).sum := by
 unfold totD
 rw [totB_getD k (okLen h)]
 have : (List.replicate c.toNat (0 : Int)).getD k 0 = 0 := by
  simp only [List.getD_eq_getElem?_getD, List.getElem?_replicate]; split <;> rfl
 rw [this]; omega
def sumJ (f : Nat → Int) : Nat → Int
 | 0 => 0
 | n + 1 => sumJ f n + f n
theorem sumJ_le {f g : Nat → Int} : ∀ {n : Nat}, (∀ j, j < n → f j ≤ g j) → sumJ f n ≤ sumJ g n
 | 0, _ => Int.le_refl _
 | n + 1, h => by
  have := sumJ_le (n := n) fun j hj => h j (by omega)
  have := h n (by omega)
  unfold sumJ; omega
theorem sumJ_congr {f g : Nat → Int} : ∀ {n : Nat}, (∀ j, j < n → f j = g j) → sumJ f n = sumJ g n
 | 0, _ => rfl
 | n + 1, h => by
  have := sumJ_congr (n := n) fun j hj => h j (by omega)
  have := h n (by omega)
  unfold sumJ; omega
theorem sumJ_add (f g : Nat → Int) : ∀ n, sumJ (fun j => f j + g j) n = sumJ f n + sumJ g n
 | 0 => rfl
 | n + 1 => by have := sumJ_add f g n; unfold sumJ; omega
theorem sumJ_sub (f g : Nat → Int) : ∀ n, sumJ (fun j => f j - g j) n = sumJ f n - sumJ g n
 | 0 => rfl
 | n + 1 => by have := sumJ_sub f g n; unfold sumJ; omega
theorem sumJ_take (l : List Int) : ∀ n, n ≤ l.length → sumJ (fun j => l.getD j 0) n = (l.take n).sum
 | 0, _ => by simp [sumJ]
 | n + 1, h => by
  have := sumJ_take l n (by omega)
  rw [sum_take (by omega)]
  unfold sumJ; omega
theorem sumJ_more {f : Nat → Int} {n : Nat} : ∀ {m : Nat}, n ≤ m → (∀ j, n ≤ j → j < m → f j = 0) → sumJ f m = sumJ f n
 | 0, h, _ => by rw [show n = 0 by omega]
 | m + 1, h, h0 => by
  by_cases e : n = m + 1
  · rw [e]
  · have := sumJ_more (m := m) (by omega) fun j a b => h0 j a (by omega)
    have := h0 m (by omega) (by omega)
    show sumJ f m + f m = sumJ f n
    omega
theorem sumJ_list {l : List Int} {m : Nat} (h : l.length ≤ m) : sumJ (fun j => l.getD j 0) m = l.sum := by
 rw [sumJ_more h fun j a _ => by simp [List.getD, a], sumJ_take l l.length (Nat.le_refl _), List.take_length]
theorem sum_outT (f : R1 → Int) (m : Nw) (hz : ∀ j, ¬ rN (m j) > 0 → f (m j) = 0) : ∀ n, ((outT m n).map f).sum = sumJ (fun j => f (m j)) n
 | 0 => rfl
 | n + 1 => by
  have ih := sum_outT f m hz n
  unfold sumJ
  by_cases h : rN (m n) > 0
  · rw [show outT m (n + 1) = outT m n ++ [m n] by rw [outT]; simp [h], List.map_append, List.sum_append, ih]
    show sumJ (fun j => f (m j)) n + ([f (m n)] : List Int).sum = _
    simp
  · rw [show outT m (n + 1) = outT m n by rw [outT]; simp [h], ih, hz n h]; simp
theorem zero_rV (l : List R1) {c : Int} {ds : List Int} (h : okP c ds l) (j : Nat) (h0 : ¬ rN (mapOf l j) > 0) : rV (mapOf l j) = [] := by
 rcases best_map h j with ⟨_, e⟩ | ⟨a, _, _⟩
 · rw [e]; rfl
 · have := prR_N (h _ a)
   omega
theorem sum_valid {c : Int} {ds : List Int} {rs : List R1} (h : validT c ds rs = true) (f : List Int → Int) (h0 : f [] = 0) : (rs.map fun r => f (rV r)).sum = sumJ (fun j => f (rV (mapOf rs j))) 12 := by
 have hok := (validT_asc.1 h).2.1
 have := sum_outT (fun r => f (rV r)) (mapOf rs) (fun j hj => by
  show f (rV (mapOf rs j)) = 0
  rw [zero_rV rs hok j hj, h0]) 12
 rw [← this]
 show _ = (List.map _ (canon rs)).sum
 rw [canon_self h]
def vAt (rs : List R1) (j : Nat) : List Int := rV (mapOf rs j)
theorem vAt_ok {c : Int} {ds : List Int} {rs : List R1} (hok : okP c ds rs) (j : Nat) : vAt rs j = [] ∧ (∀ y ∈ rs, rD y ≠ j) ∨ ((vAt rs j).length : Int) = c ∧ (∀ x ∈ vAt rs j, 0 ≤ x) ∧ (vAt rs j).sum ≤ ds.getD j 0 ∧ j < ds.length := by
 rcases best_map hok j with ⟨a, e⟩ | ⟨a, b, _⟩
 · exact .inl ⟨by unfold vAt; rw [e]; rfl, a⟩
 · obtain ⟨g1, g2, g3, g4, g5⟩ := properD_iff.1 (hok _ a)
   refine .inr ⟨g3, fun x hx => (g4 x hx).1, ?_, by rw [b] at g1; omega⟩
   rw [b] at g5
   exact g5
theorem sum_nonneg {l : List Int} (h : ∀ x ∈ l, 0 ≤ x) : 0 ≤ l.sum := by
 induction l with
 | nil => simp
 | cons y t ih =>
  have h1 := h y (by simp)
  have h2 := ih fun x hx => h x (by simp [hx])
  rw [List.sum_cons]; omega
theorem getD_nonneg {l : List Int} (h : ∀ x ∈ l, 0 ≤ x) (k : Nat) : 0 ≤ l.getD k 0 := by
 by_cases hk : k < l.length
 · exact h _ (getD_mem 0 hk)
 · simp [List.getD, Nat.not_lt.1 hk]
theorem ds_nonneg {c : Int} {ds : List Int} (hc : validC c ds = true) (j : Nat) : 0 ≤ ds.getD j 0 := getD_nonneg (fun x hx => ((validC_iff.1 hc).2.2 x hx).1) j
theorem restD_eq {c : Int} {ds : List Int} {rs : List R1} (h : validT c ds rs = true) : restD ds rs = sumJ (fun j => ds.getD j 0 - (vAt rs j).sum) 12 := by
 have hl := validC_len (validT_asc.1 h).1
 unfold restD
 rw [sumJ_sub, sumJ_list hl]
 congr 1
 exact sum_valid h (fun v => v.sum) rfl
theorem left_nonneg {c : Int} {ds : List Int} {rs : List R1} (hc : validC c ds = true) (hok : okP c ds rs) (j : Nat) : 0 ≤ ds.getD j 0 - (vAt rs j).sum := by
 rcases vAt_ok hok j with ⟨e, _⟩ | ⟨_, _, h3, _⟩
 · rw [e]; have := ds_nonneg hc j; simpa using this
 · omega
theorem sumJ_nonneg {f : Nat → Int} {n : Nat} (h : ∀ j, j < n → 0 ≤ f j) : 0 ≤ sumJ f n := by
 have := sumJ_le (f := fun _ => 0) (g := f) (n := n) h
 have e : ∀ n, sumJ (fun _ => 0) n = 0 := fun n => by induction n with | zero => rfl | succ n ih => unfold sumJ; omega
 rw [e] at this; exact this
theorem restD_nonneg {c : Int} {ds : List Int} {rs : List R1} (h : validT c ds rs = true) : 0 ≤ restD ds rs := by
 rw [restD_eq h]
 exact sumJ_nonneg fun j _ => left_nonneg (validT_asc.1 h).1 (validT_asc.1 h).2.1 j
theorem totD_eq {c : Int} {ds : List Int} {rs : List R1} (h : validT c ds rs = true) (k : Nat) : (totD c rs).getD k 0 = sumJ (fun j => (vAt rs j).getD k 0) 12 := by
 rw [totD_getD h]
 exact sum_valid h (fun v => v.getD k 0) rfl
theorem oth_spec (t : List Int) (c : Int) : ∀ k, 0 ≤ othT t c k ∧ (∀ m, m < k → (m : Int) ≠ c → t.getD m 0 ≤ othT t c k) ∧ (othT t c k = 0 ∨ ∃ m, m < k ∧ (m : Int) ≠ c ∧ othT t c k = t.getD m 0)
 | 0 => ⟨Int.le_refl _, fun m h => by omega, .inl rfl⟩
 | k + 1 => by
  obtain ⟨h1, h2, h3⟩ := oth_spec t c k
  have key : othT t c (k + 1) = if (k : Int) ≠ c then (if t.getD k 0 > othT t c k then t.getD k 0 else othT t c k) else othT t c k := rfl
  rw [key]
  by_cases hk : (k : Int) = c
  · rw [if_neg (by omega)]
    refine ⟨h1, fun m hm hne => h2 m (by omega) hne, ?_⟩
    rcases h3 with e | ⟨m, a, b, e⟩
    · exact .inl e
    · exact .inr ⟨m, by omega, b, e⟩
  · rw [if_pos hk]
    by_cases hg : t.getD k 0 > othT t c k
    · rw [if_pos hg]
      refine ⟨by omega, fun m hm hne => ?_, .inr ⟨k, by omega, hk, rfl⟩⟩
      by_cases e : m = k
      · subst e; omega
      · have := h2 m (by omega) hne; omega
    · rw [if_neg hg]
      refine ⟨h1, fun m hm hne => ?_, ?_⟩
      · by_cases e : m = k
        · subst e; omega
        · exact h2 m (by omega) hne
      · rcases h3 with e | ⟨m, a, b, e⟩
        · exact .inl e
        · exact .inr ⟨m, by omega, b, e⟩
theorem sureAt_iff {t : List Int} {r : Int} {a : Nat} : sureAt t r a = true ↔ t.getD a 0 > r ∧ ∀ m, m < t.length → m ≠ a → t.getD a 0 > t.getD m 0 + r := by
 obtain ⟨h1, h2, h3⟩ := oth_spec t (a : Int) t.length
 unfold sureAt
 rw [decide_eq_true_iff]
 show t.getD a 0 > othT t a t.length + r ↔ _
 constructor
 · intro h
   refine ⟨by omega, fun m hm hne => ?_⟩
   have := h2 m hm (by omega)
   omega
 · rintro ⟨g1, g2⟩
   rcases h3 with e | ⟨m, hm, hne, e⟩
   · omega
   · have := g2 m hm (by omega)
     omega
theorem sureD_cases (t : List Int) (r : Int) : (sureD t r = -1 ∧ ∀ a, a < t.length → sureAt t r a = false) ∨ ∃ a, a < t.length ∧ sureD t r = (a : Int) ∧ sureAt t r a = true := by
 by_cases hk : sureK t r < t.length
 · exact .inr ⟨sureK t r, hk, by unfold sureD; rw [if_pos hk], sureK_here hk⟩
 · refine .inl ⟨by unfold sureD; rw [if_neg hk], fun a ha => sureK_before (by omega)⟩
end T
end Go.Proofs.Ytofbchcclkejgaa


/- Package tally: more: loops. -/
set_option linter.unusedVariables false
set_option linter.unusedSimpArgs false
set_option maxRecDepth 100000
set_option maxHeartbeats 4000000
namespace Go.Proofs.Ytofbchcclkejgaa
open Go
namespace T
abbrev five : Ty := .agg [ity, ity, ity, ity, ity]
def hp_ml : HP := { n := 137, lv := [1, 2, 4, 5, 6, 7, 8, 9, 10], sp := [.ty (.slice five), .ptr 0 0, .ptr 1 0, .ptr 2 0, .ty ity, .ty ity, .ptr 3 0, .ty ity, .ty ity], op := [.cells [.ty ity, .ty (.slice ity), .ty (.slice retT)], .cells [.ci 0, .nl, .nl], .cells [.ty ity, .ty (.slice ity), .ty (.slice retT)], .cells [.ty ity, .ty ity, .bz 0]], bp := [.arr ity] }
def lve_ml : Ex → List Nat
 | .normal => [1, 2, 4, 5, 6, 7, 8, 9, 10]
 | .exit 2 => [1, 2, 4, 5, 6, 8, 9]
 | _ => []
theorem bd_ml : Try.f38.body = some (root 38) := by kernel_rfl
theorem le_ml : (loops (root 38))[1]? = some (lp 38 1) := by kernel_rfl
theorem li_ml : Lies (root 38) 2 (lp 38 1) := Lies.of_take (n := 0) (by kernel_rfl)
def st_ml (x : List (Ty.den five)) (c : Int) (ds : List Int) (rs : List (Ty.den retT)) (c2 : Int) (ds2 : List Int) (o : List (Ty.den retT)) (i d q n : Int) (j : Nat) (lf k : Int) (b : List Int) : St := hp_ml.st ⟨(x, (), (), (), i, d, (), lf, k, ()), ((c, ds, rs, ()), ((), (), (), ()), (c2, ds2, o, ()), (q, n, j, ()), ()), (b, ())⟩
noncomputable def rn_ml (x : List (Ty.den five)) (c : Int) (ds : List Int) (rs : List (Ty.den retT)) (c2 : Int) (ds2 : List Int) (o : List (Ty.den retT)) (i d q n : Int) (j : Nat) (lf k : Int) (b : List Int) := outa lve_ml (evCK Try.prog Γ (cfM Try.prog Γ cfg29 30) (cfg29.lo 38) [] 60 2 (lp 38 1) (st_ml x c ds rs c2 ds2 o i d q n j lf k b))
theorem rn_ml_eq (x : List (Ty.den five)) (c : Int) (ds : List Int) (rs : List (Ty.den retT)) (c2 : Int) (ds2 : List Int) (o : List (Ty.den retT)) (i d q n : Int) (j : Nat) (lf k : Int) (b : List Int) : (rn_ml x c ds rs c2 ds2 o i d q n j lf k b).run = (bif decide (k < (o.length : Int)) then (bif decide ((0 : Int) ≤ k ∧ k < (o.length : Int)) then (bif (rD (o.getD k.toNat retT.dflt)) == d then (bif decide ((0 : Int) ≤ k ∧ k < (o.length : Int)) then (bif decide ((0 : Int) ≤ k ∧ k < (o.length : Int)) then (bif decide (List.length (rV (o.getD k.toNat retT.dflt)) * 2 * 8 ≤ 281474976710656) then (some ((Ex.normal, [V.slst .ro five x, V.ptr 0 0, V.ptr 1 0, V.ptr 2 0, V.si .i64 i, V.si .i64 d, V.ptr 3 0, V.si .i64 lf, V.si .i64 (IntKind.i64.wrap (k + (1 : Int)))], [some [V.si .i64 c, V.slst .ro ity ds, V.slst .ro retT rs], some [V.i .i64 (0 : Int), V.lst .full [], V.lst .full []], some [V.si .i64 c2, V.slst .ro ity ds2, V.slst .ro retT o], some [V.si .i64 q, V.si .i64 (if IntKind.i64.wrap ((rN (o.getD k.toNat retT.dflt)) + (1 : Int)) < (1000 : Int) then IntKind.i64.wrap ((rN (o.getD k.toNat retT.dflt)) + (1 : Int)) else (1000 : Int)), V.bs true 0 0 (List.length (rV (o.getD k.toNat retT.dflt)))]], [some (Bf.live (.arr ity (rV (o.getD k.toNat retT.dflt))))], 137, 0, 0))) else none) else none) else none) else (some ((Ex.normal, [V.slst .ro five x, V.ptr 0 0, V.ptr 1 0, V.ptr 2 0, V.si .i64 i, V.si .i64 d, V.ptr 3 0, V.si .i64 lf, V.si .i64 (IntKind.i64.wrap (k + (1 : Int)))], [some [V.si .i64 c, V.slst .ro ity ds, V.slst .ro retT rs], some [V.i .i64 (0 : Int), V.lst .full [], V.lst .full []], some [V.si .i64 c2, V.slst .ro ity ds2, V.slst .ro retT o], some [V.si .i64 q, V.si .i64 n, V.bs true 0 0 j]], [some (Bf.live (.arr ity b))], 137, 0, 0)))) else none) else (some ((Ex.exit 2, [V.slst .ro five x, V.ptr 0 0, V.ptr 1 0, V.ptr 2 0, V.si .i64 i, V.ptr 3 0, V.si .i64 lf], [some [V.si .i64 c, V.slst .ro ity ds, V.slst .ro retT rs], some [V.i .i64 (0 : Int), V.lst .full [], V.lst .full []], some [V.si .i64 c2, V.slst .ro ity ds2, V.slst .ro retT o], some [V.si .i64 q, V.si .i64 n, V.bs true 0 0 j]], [some (Bf.live (.arr ity b))], 137, 0, 0)))) := by kernel_rfl
theorem rn_ml_c (x : List (Ty.den five)) (c : Int) (ds : List Int) (rs : List (Ty.den retT)) (c2 : Int) (ds2 : List Int) (o : List (Ty.den retT)) (i d q n : Int) (j : Nat) (lf k : Int) (b : List Int) {e : Ex} {vs : List V} {ob : Ob} {nm : Nm} {n' kh kt : Nat} (h : (rn_ml x c ds rs c2 ds2 o i d q n j lf k b).run = some (e, vs, ob, nm, n', kh, kt)) : SemC Try.prog Γ (lp 38 1) (st_ml x c ds rs c2 ds2 o i d q n j lf k b) e.to (St.of n' (lve_ml e) vs ob nm kh kt) := SemC.of_evM cfg29_ok Try.func38 bd_ml li_ml h
def hp_m2 : HP := { n := 137, lv := [1, 2, 4, 5, 6, 8, 9, 11], sp := [.ty (.slice five), .ptr 0 0, .ptr 1 0, .ptr 2 0, .ty ity, .ptr 3 0, .ty ity, .ty ity], op := [.cells [.ty ity, .ty (.slice ity), .ty (.slice retT)], .cells [.ci 0, .nl, .nl], .cells [.ty ity, .ty (.slice ity), .ty (.slice retT)], .cells [.ty ity, .ty ity, .bz 0]], bp := [.arr ity] }
def lve_m2 : Ex → List Nat
 | .normal => [1, 2, 4, 5, 6, 8, 9, 11]
 | .exit 4 => [1, 2, 4, 5, 6, 8, 9]
 | _ => []
theorem bd_m2 : Try.f38.body = some (root 38) := by kernel_rfl
theorem le_m2 : (loops (root 38))[2]? = some (lp 38 2) := by kernel_rfl
theorem li_m2 : Lies (root 38) 3 (lp 38 2) := Lies.of_take (n := 0) (by kernel_rfl)
def st_m2 (x : List (Ty.den five)) (c : Int) (ds : List Int) (rs : List (Ty.den retT)) (c2 : Int) (ds2 : List Int) (o : List (Ty.den retT)) (i q n : Int) (j : Nat) (lf k : Int) (b : List Int) : St := hp_m2.st ⟨(x, (), (), (), i, (), lf, k, ()), ((c, ds, rs, ()), ((), (), (), ()), (c2, ds2, o, ()), (q, n, j, ()), ()), (b, ())⟩
noncomputable def rn_m2 (x : List (Ty.den five)) (c : Int) (ds : List Int) (rs : List (Ty.den retT)) (c2 : Int) (ds2 : List Int) (o : List (Ty.den retT)) (i q n : Int) (j : Nat) (lf k : Int) (b : List Int) := outa lve_m2 (evCK Try.prog Γ (cfM Try.prog Γ cfg29 30) (cfg29.lo 38) [] 60 3 (lp 38 2) (st_m2 x c ds rs c2 ds2 o i q n j lf k b))
theorem rn_m2_eq (x : List (Ty.den five)) (c : Int) (ds : List Int) (rs : List (Ty.den retT)) (c2 : Int) (ds2 : List Int) (o : List (Ty.den retT)) (i q n : Int) (j : Nat) (lf k : Int) (b : List Int) : (rn_m2 x c ds rs c2 ds2 o i q n j lf k b).run = (bif decide (k < (Nat.cast (j) : Int)) then (bif decide ((0 : Int) ≤ k ∧ k < (Nat.cast (j) : Int)) then (bif decide (0 + k.toNat < b.length) then (some ((Ex.normal, [V.slst .ro five x, V.ptr 0 0, V.ptr 1 0, V.ptr 2 0, V.si .i64 i, V.ptr 3 0, V.si .i64 (IntKind.i64.wrap (lf - b.getD (0 + k.toNat) (0 : Int))), V.si .i64 (IntKind.i64.wrap (k + (1 : Int)))], [some [V.si .i64 c, V.slst .ro ity ds, V.slst .ro retT rs], some [V.i .i64 (0 : Int), V.lst .full [], V.lst .full []], some [V.si .i64 c2, V.slst .ro ity ds2, V.slst .ro retT o], some [V.si .i64 q, V.si .i64 n, V.bs true 0 0 j]], [some (Bf.live (.arr ity b))], 137, 0, 0))) else none) else none) else (some ((Ex.exit 4, [V.slst .ro five x, V.ptr 0 0, V.ptr 1 0, V.ptr 2 0, V.si .i64 i, V.ptr 3 0, V.si .i64 lf], [some [V.si .i64 c, V.slst .ro ity ds, V.slst .ro retT rs], some [V.i .i64 (0 : Int), V.lst .full [], V.lst .full []], some [V.si .i64 c2, V.slst .ro ity ds2, V.slst .ro retT o], some [V.si .i64 q, V.si .i64 n, V.bs true 0 0 j]], [some (Bf.live (.arr ity b))], 137, 0, 0)))) := by kernel_rfl
theorem rn_m2_c (x : List (Ty.den five)) (c : Int) (ds : List Int) (rs : List (Ty.den retT)) (c2 : Int) (ds2 : List Int) (o : List (Ty.den retT)) (i q n : Int) (j : Nat) (lf k : Int) (b : List Int) {e : Ex} {vs : List V} {ob : Ob} {nm : Nm} {n' kh kt : Nat} (h : (rn_m2 x c ds rs c2 ds2 o i q n j lf k b).run = some (e, vs, ob, nm, n', kh, kt)) : SemC Try.prog Γ (lp 38 2) (st_m2 x c ds rs c2 ds2 o i q n j lf k b) e.to (St.of n' (lve_m2 e) vs ob nm kh kt) := SemC.of_evM cfg29_ok Try.func38 bd_m2 li_m2 h
def fx (y : Ty.den five) (m : Int) : Int := bif decide (m = 0) then y.1 else bif decide (m - 1 = 0) then y.2.1 else bif decide (m - 1 - 1 = 0) then y.2.2.1 else bif decide (m - 1 - 1 - 1 = 0) then y.2.2.2.1 else y.2.2.2.2.1
def hp_m3 : HP := { n := 137, lv := [1, 2, 4, 5, 6, 8, 9, 12], sp := [.ty (.slice five), .ptr 0 0, .ptr 1 0, .ptr 2 0, .ty ity, .ptr 3 0, .ty ity, .ty ity], op := [.cells [.ty ity, .ty (.slice ity), .ty (.slice retT)], .cells [.ci 0, .nl, .nl], .cells [.ty ity, .ty (.slice ity), .ty (.slice retT)], .cells [.ty ity, .ty ity, .bz 0]], bp := [.arr ity] }
def lve_m3 : Ex → List Nat
 | .normal => [1, 2, 4, 5, 6, 8, 9, 12]
 | .exit 6 => [1, 2, 4, 5, 6, 8]
 | _ => []
theorem bd_m3 : Try.f38.body = some (root 38) := by kernel_rfl
theorem le_m3 : (loops (root 38))[3]? = some (lp 38 3) := by kernel_rfl
theorem li_m3 : Lies (root 38) 4 (lp 38 3) := Lies.of_take (n := 0) (by kernel_rfl)
def st_m3 (x : List (Ty.den five)) (c : Int) (ds : List Int) (rs : List (Ty.den retT)) (c2 : Int) (ds2 : List Int) (o : List (Ty.den retT)) (i q n : Int) (j : Nat) (lf k : Int) (b : List Int) : St := hp_m3.st ⟨(x, (), (), (), i, (), lf, k, ()), ((c, ds, rs, ()), ((), (), (), ()), (c2, ds2, o, ()), (q, n, j, ()), ()), (b, ())⟩
noncomputable def rn_m3 (x : List (Ty.den five)) (c : Int) (ds : List Int) (rs : List (Ty.den retT)) (c2 : Int) (ds2 : List Int) (o : List (Ty.den retT)) (i q n : Int) (j : Nat) (lf k : Int) (b : List Int) := outa lve_m3 (evCK Try.prog Γ (cfM Try.prog Γ cfg29 30) (cfg29.lo 38) [] 60 4 (lp 38 3) (st_m3 x c ds rs c2 ds2 o i q n j lf k b))
theorem rn_m3_eq (x : List (Ty.den five)) (c : Int) (ds : List Int) (rs : List (Ty.den retT)) (c2 : Int) (ds2 : List Int) (o : List (Ty.den retT)) (i q n : Int) (j : Nat) (lf k : Int) (b : List Int) : (rn_m3 x c ds rs c2 ds2 o i q n j lf k b).run = (bif decide (k < (Nat.cast (j) : Int)) then (bif decide ((0 : Int) ≤ i ∧ i < (x.length : Int)) then (bif decide ((0 : Int) ≤ IntKind.i64.wrap ((1 : Int) + k) ∧ IntKind.i64.wrap ((1 : Int) + k) < (5 : Int)) then (bif decide (inr (fx (x.getD i.toNat five.dflt) (IntKind.i64.wrap (1 + k))) = true ∧ IntKind.i64.wrap (lf + (1 : Int)) ≠ (0 : Int)) then (bif decide ((0 : Int) ≤ k ∧ k < (Nat.cast (j) : Int)) then (bif decide (0 + k.toNat < b.length) then (bif decide ((0 : Int) ≤ k ∧ k < (Nat.cast (j) : Int)) then (bif decide (0 + k.toNat < b.length) then (some ((Ex.normal, [V.slst .ro five x, V.ptr 0 0, V.ptr 1 0, V.ptr 2 0, V.si .i64 i, V.ptr 3 0, V.si .i64 (IntKind.i64.wrap (lf - pickD (fx (x.getD i.toNat five.dflt) (IntKind.i64.wrap (1 + k))) (IntKind.i64.wrap (lf + (1 : Int))))), V.si .i64 (IntKind.i64.wrap (k + (1 : Int)))], [some [V.si .i64 c, V.slst .ro ity ds, V.slst .ro retT rs], some [V.i .i64 (0 : Int), V.lst .full [], V.lst .full []], some [V.si .i64 c2, V.slst .ro ity ds2, V.slst .ro retT o], some [V.si .i64 q, V.si .i64 n, V.bs true 0 0 j]], [some (Bf.live (.arr ity (b.set (0 + k.toNat) (IntKind.i64.wrap (b.getD (0 + k.toNat) (0 : Int) + pickD (fx (x.getD i.toNat five.dflt) (IntKind.i64.wrap (1 + k))) (IntKind.i64.wrap (lf + (1 : Int))))))))], 137, 0, 0))) else none) else none) else none) else none) else none) else none) else none) else (some ((Ex.exit 6, [V.slst .ro five x, V.ptr 0 0, V.ptr 1 0, V.ptr 2 0, V.si .i64 i, V.ptr 3 0], [some [V.si .i64 c, V.slst .ro ity ds, V.slst .ro retT rs], some [V.i .i64 (0 : Int), V.lst .full [], V.lst .full []], some [V.si .i64 c2, V.slst .ro ity ds2, V.slst .ro retT o], some [V.si .i64 q, V.si .i64 n, V.bs true 0 0 j]], [some (Bf.live (.arr ity b))], 137, 0, 0)))) := by kernel_rfl
theorem rn_m3_c (x : List (Ty.den five)) (c : Int) (ds : List Int) (rs : List (Ty.den retT)) (c2 : Int) (ds2 : List Int) (o : List (Ty.den retT)) (i q n : Int) (j : Nat) (lf k : Int) (b : List Int) {e : Ex} {vs : List V} {ob : Ob} {nm : Nm} {n' kh kt : Nat} (h : (rn_m3 x c ds rs c2 ds2 o i q n j lf k b).run = some (e, vs, ob, nm, n', kh, kt)) : SemC Try.prog Γ (lp 38 3) (st_m3 x c ds rs c2 ds2 o i q n j lf k b) e.to (St.of n' (lve_m3 e) vs ob nm kh kt) := SemC.of_evM cfg29_ok Try.func38 bd_m3 li_m3 h
def nxt (n : Int) : Int := if n + 1 < 1000 then n + 1 else 1000
def nvT (o : List R1) (d n : Int) (b : List Int) : Nat → Int × List Int
 | 0 => (n, b)
 | k + 1 => bif rD (o.getD k retT.dflt) == d then (nxt (rN (o.getD k retT.dflt)), rV (o.getD k retT.dflt)) else nvT o d n b k
theorem nvT_next (o : List R1) (d n : Int) (b : List Int) (k : Nat) : nvT o d n b (k + 1) = bif rD (o.getD k retT.dflt) == d then (nxt (rN (o.getD k retT.dflt)), rV (o.getD k retT.dflt)) else nvT o d n b k := rfl
abbrev okO (o : List R1) : Prop := o.length ≤ 1000 ∧ ∀ r ∈ o, (rV r).length ≤ 1000 ∧ 0 ≤ rN r ∧ rN r ≤ 1000
abbrev pre_ml0 (o : List R1) (j : Nat) (k : Int) (b : List Int) : Prop := k = 0 ∧ j = b.length ∧ okO o
abbrev pre_ml (x : List (Ty.den five)) (c : Int) (ds : List Int) (rs : List (Ty.den retT)) (c2 : Int) (ds2 : List Int) (o : List (Ty.den retT)) (i d q n : Int) (j : Nat) (lf k : Int) (b : List Int) : Prop := pre_ml0 o j k b
def rs_ml (x : List (Ty.den five)) (c : Int) (ds : List Int) (rs : List (Ty.den retT)) (c2 : Int) (ds2 : List Int) (o : List (Ty.den retT)) (i d q n : Int) (j : Nat) (lf k : Int) (b : List Int) : Ex × St := (.exit 2, St.of 137 (lve_ml (.exit 2)) [.slst .ro five x, .ptr 0 0, .ptr 1 0, .ptr 2 0, .si .i64 i, .ptr 3 0, .si .i64 lf] [some [.si .i64 c, .slst .ro ity ds, .slst .ro retT rs], some [.i .i64 0, .lst .full [], .lst .full []], some [.si .i64 c2, .slst .ro ity ds2, .slst .ro retT o], some [.si .i64 q, .si .i64 (nvT o d n b o.length).1, .bs true 0 0 (nvT o d n b o.length).2.length]] [some (.live (.arr ity (nvT o d n b o.length).2))] hp_ml.kh hp_ml.kt)
def res_ml (x : List (Ty.den five)) (c : Int) (ds : List Int) (rs : List (Ty.den retT)) (c2 : Int) (ds2 : List Int) (o : List (Ty.den retT)) (i d q n : Int) (j : Nat) (lf k : Int) (b : List Int) : Tr (Ex × St) := .br (decide (pre_ml x c ds rs c2 ds2 o i d q n j lf k b)) (.leaf (some (.exit 2, St.of 137 (lve_ml (.exit 2)) [.slst .ro five x, .ptr 0 0, .ptr 1 0, .ptr 2 0, .si .i64 i, .ptr 3 0, .si .i64 lf] [some [.si .i64 c, .slst .ro ity ds, .slst .ro retT rs], some [.i .i64 0, .lst .full [], .lst .full []], some [.si .i64 c2, .slst .ro ity ds2, .slst .ro retT o], some [.si .i64 q, .si .i64 (nvT o d n b o.length).1, .bs true 0 0 (nvT o d n b o.length).2.length]] [some (.live (.arr ity (nvT o d n b o.length).2))] hp_ml.kh hp_ml.kt))) (.leaf none)
def ent_ml : LEnt := LEnt.by hp_ml fun ⟨(x, _, _, _, i, d, _, lf, k, _), ((c, ds, rs, _), (_, _, _, _), (c2, ds2, o, _), (q, n, j, _), _), (b, _)⟩ => res_ml x c ds rs c2 ds2 o i d q n j lf k b
theorem ent_ml_ok (hgo : ∀ (x : List (Ty.den five)) (c : Int) (ds : List Int) (rs : List (Ty.den retT)) (c2 : Int) (ds2 : List Int) (o : List (Ty.den retT)) (i d q n : Int) (j : Nat) (lf k : Int) (b : List Int), pre_ml x c ds rs c2 ds2 o i d q n j lf k b → SemL Try.prog Γ (lp 38 1) (st_ml x c ds rs c2 ds2 o i d q n j lf k b) (rs_ml x c ds rs c2 ds2 o i d q n j lf k b).1.to (rs_ml x c ds rs c2 ds2 o i d q n j lf k b).2) : EntOk Try.prog Γ (lp 38 1) ent_ml := LEnt.by_ok fun ⟨(x, _, _, _, i, d, _, lf, k, _), ((c, ds, rs, _), (_, _, _, _), (c2, ds2, o, _), (q, n, j, _), _), (b, _)⟩ _ _ h_ => SemL.br (out := rs_ml x c ds rs c2 ds2 o i d q n j lf k b) rfl (hgo x c ds rs c2 ds2 o i d q n j lf k b) h_
theorem ml_go (x : List (Ty.den five)) (c : Int) (ds : List Int) (rs : List (Ty.den retT)) (c2 : Int) (ds2 : List Int) (o : List (Ty.den retT)) (i d q n : Int) (j : Nat) (lf k : Int) (b : List Int) (h : pre_ml x c ds rs c2 ds2 o i d q n j lf k b) : SemL Try.prog Γ (lp 38 1) (st_ml x c ds rs c2 ds2 o i d q n j lf k b) (rs_ml x c ds rs c2 ds2 o i d q n j lf k b).1.to (rs_ml x c ds rs c2 ds2 o i d q n j lf k b).2 := by
 obtain ⟨rfl, rfl, hol, ho⟩ := h
 refine SemL.scan o.length 0 (Nat.zero_le _) (fun k => st_ml x c ds rs c2 ds2 o i d q (nvT o d n b k).1 (nvT o d n b k).2.length lf (k : Nat) (nvT o d n b k).2) (fun _ => true) _ ?_ ?_ ?_
 · intro k _ hk _ _
   obtain ⟨h1, h2, h3⟩ := ho _ (getD_mem retT.dflt hk)
   have hb : (0 : Int) ≤ (k : Int) ∧ (k : Int) < (Nat.cast o.length : Int) := by omega
   refine rn_ml_c x c ds rs c2 ds2 o i d q _ _ lf k _ (e := .normal) ?_
   rw [rn_ml_eq, wrap_succ hk (by omega), decide_eq_true hb.2, decide_eq_true hb, Int.toNat_natCast, decide_eq_true (by omega : (rV (o.getD k retT.dflt)).length * 2 * 8 ≤ 281474976710656), wrap_in (n := rN (o.getD k retT.dflt) + 1) (by omega) (by omega), nvT_next]
   cases rD (o.getD k retT.dflt) == d <;> rfl
 · intro k _ _ _ hp
   cases hp
 · intro _
   unfold rs_ml
   refine ⟨by simp [Ex.to], rn_ml_c x c ds rs c2 ds2 o i d q _ _ lf o.length _ (e := .exit 2) ?_⟩
   rw [rn_ml_eq, decide_eq_false (by omega)]
   rfl
abbrev pre_m20 (j : Nat) (lf k : Int) (b : List Int) : Prop := k = 0 ∧ j = b.length ∧ b.length ≤ 1000 ∧ (∀ x ∈ b, 0 ≤ x ∧ x ≤ 100000000) ∧ (0 ≤ lf ∧ lf ≤ 100000000)
abbrev pre_m2 (x : List (Ty.den five)) (c : Int) (ds : List Int) (rs : List (Ty.den retT)) (c2 : Int) (ds2 : List Int) (o : List (Ty.den retT)) (i q n : Int) (j : Nat) (lf k : Int) (b : List Int) : Prop := pre_m20 j lf k b
def rs_m2 (x : List (Ty.den five)) (c : Int) (ds : List Int) (rs : List (Ty.den retT)) (c2 : Int) (ds2 : List Int) (o : List (Ty.den retT)) (i q n : Int) (j : Nat) (lf k : Int) (b : List Int) : Ex × St := (.exit 4, St.of 137 (lve_m2 (.exit 4)) [.slst .ro five x, .ptr 0 0, .ptr 1 0, .ptr 2 0, .si .i64 i, .ptr 3 0, .si .i64 (lf - b.sum)] [some [.si .i64 c, .slst .ro ity ds, .slst .ro retT rs], some [.i .i64 0, .lst .full [], .lst .full []], some [.si .i64 c2, .slst .ro ity ds2, .slst .ro retT o], some [.si .i64 q, .si .i64 n, .bs true 0 0 j]] [some (.live (.arr ity b))] hp_m2.kh hp_m2.kt)
def res_m2 (x : List (Ty.den five)) (c : Int) (ds : List Int) (rs : List (Ty.den retT)) (c2 : Int) (ds2 : List Int) (o : List (Ty.den retT)) (i q n : Int) (j : Nat) (lf k : Int) (b : List Int) : Tr (Ex × St) := .br (decide (pre_m2 x c ds rs c2 ds2 o i q n j lf k b)) (.leaf (some (.exit 4, St.of 137 (lve_m2 (.exit 4)) [.slst .ro five x, .ptr 0 0, .ptr 1 0, .ptr 2 0, .si .i64 i, .ptr 3 0, .si .i64 (lf - b.sum)] [some [.si .i64 c, .slst .ro ity ds, .slst .ro retT rs], some [.i .i64 0, .lst .full [], .lst .full []], some [.si .i64 c2, .slst .ro ity ds2, .slst .ro retT o], some [.si .i64 q, .si .i64 n, .bs true 0 0 j]] [some (.live (.arr ity b))] hp_m2.kh hp_m2.kt))) (.leaf none)
def ent_m2 : LEnt := LEnt.by hp_m2 fun ⟨(x, _, _, _, i, _, lf, k, _), ((c, ds, rs, _), (_, _, _, _), (c2, ds2, o, _), (q, n, j, _), _), (b, _)⟩ => res_m2 x c ds rs c2 ds2 o i q n j lf k b
theorem ent_m2_ok (hgo : ∀ (x : List (Ty.den five)) (c : Int) (ds : List Int) (rs : List (Ty.den retT)) (c2 : Int) (ds2 : List Int) (o : List (Ty.den retT)) (i q n : Int) (j : Nat) (lf k : Int) (b : List Int), pre_m2 x c ds rs c2 ds2 o i q n j lf k b → SemL Try.prog Γ (lp 38 2) (st_m2 x c ds rs c2 ds2 o i q n j lf k b) (rs_m2 x c ds rs c2 ds2 o i q n j lf k b).1.to (rs_m2 x c ds rs c2 ds2 o i q n j lf k b).2) : EntOk Try.prog Γ (lp 38 2) ent_m2 := LEnt.by_ok fun ⟨(x, _, _, _, i, _, lf, k, _), ((c, ds, rs, _), (_, _, _, _), (c2, ds2, o, _), (q, n, j, _), _), (b, _)⟩ _ _ h_ => SemL.br (out := rs_m2 x c ds rs c2 ds2 o i q n j lf k b) rfl (hgo x c ds rs c2 ds2 o i q n j lf k b) h_
theorem m2_go (x : List (Ty.den five)) (c : Int) (ds : List Int) (rs : List (Ty.den retT)) (c2 : Int) (ds2 : List Int) (o : List (Ty.den retT)) (i q n : Int) (j : Nat) (lf k : Int) (b : List Int) (h : pre_m2 x c ds rs c2 ds2 o i q n j lf k b) : SemL Try.prog Γ (lp 38 2) (st_m2 x c ds rs c2 ds2 o i q n j lf k b) (rs_m2 x c ds rs c2 ds2 o i q n j lf k b).1.to (rs_m2 x c ds rs c2 ds2 o i q n j lf k b).2 := by
 obtain ⟨rfl, rfl, hl, hn, ha⟩ := h
 have e0 : lf = lf - (b.take 0).sum := by simp
 have key : SemL Try.prog Γ (lp 38 2) (st_m2 x c ds rs c2 ds2 o i q n b.length (lf - (b.take 0).sum) ((0 : Nat) : Int) b) (rs_m2 x c ds rs c2 ds2 o i q n b.length lf 0 b).1.to (rs_m2 x c ds rs c2 ds2 o i q n b.length lf 0 b).2 := by
  refine SemL.scan b.length 0 (Nat.zero_le _) (fun k => st_m2 x c ds rs c2 ds2 o i q n b.length (lf - (b.take k).sum) (k : Nat) b) (fun _ => true) _ ?_ ?_ ?_
  · intro k _ hk _ _
    have h1 := sum_bnd_take (by omega) hn k (by omega)
    have h2 := hn _ (getD_mem 0 hk)
    refine rn_m2_c x c ds rs c2 ds2 o i q n _ _ k _ (e := .normal) ?_
    rw [rn_m2_eq, wrap_succ hk (by omega), decide_eq_true (by omega : (k : Int) < (Nat.cast b.length : Int)), decide_eq_true (by omega : (0 : Int) ≤ (k : Int) ∧ (k : Int) < (Nat.cast b.length : Int)), Int.toNat_natCast, Nat.zero_add, decide_eq_true hk, wrap_in (n := lf - (b.take k).sum - b.getD k 0) (by omega) (by omega), show lf - (b.take k).sum - b.getD k 0 = lf - (b.take (k + 1)).sum by rw [sum_take hk]; omega]
    rfl
  · intro k _ _ _ hp
    cases hp
  · intro _
    unfold rs_m2
    refine ⟨by simp [Ex.to], rn_m2_c x c ds rs c2 ds2 o i q n _ _ b.length _ (e := .exit 4) ?_⟩
    rw [rn_m2_eq, decide_eq_false (by omega), List.take_length]
    rfl
 rwa [← e0] at key
def okF5 (y : Ty.den five) : Bool := inr y.1 && (inr y.2.1 && (inr y.2.2.1 && (inr y.2.2.2.1 && inr y.2.2.2.2.1)))
theorem fx_in {y : Ty.den five} (h : okF5 y = true) (m : Int) : inr (fx y m) = true := by
 unfold okF5 at h
 simp only [Bool.and_eq_true] at h
 unfold fx
 cases decide (m = 0)
 · cases decide (m - 1 = 0)
   · cases decide (m - 1 - 1 = 0)
     · cases decide (m - 1 - 1 - 1 = 0)
       · exact h.2.2.2.2
       · exact h.2.2.2.1
     · exact h.2.2.1
   · exact h.2.1
 · exact h.1
def mvT (y : Ty.den five) (b : List Int) (lf : Int) : Nat → List Int × Int
 | 0 => (b, lf)
 | k + 1 => ((mvT y b lf k).1.set k ((mvT y b lf k).1.getD k 0 + pickD (fx y (1 + k)) ((mvT y b lf k).2 + 1)), (mvT y b lf k).2 - pickD (fx y (1 + k)) ((mvT y b lf k).2 + 1))
theorem mvT_next (y : Ty.den five) (b : List Int) (lf : Int) (k : Nat) : mvT y b lf (k + 1) = ((mvT y b lf k).1.set k ((mvT y b lf k).1.getD k 0 + pickD (fx y (1 + k)) ((mvT y b lf k).2 + 1)), (mvT y b lf k).2 - pickD (fx y (1 + k)) ((mvT y b lf k).2 + 1)) := rfl
theorem sum_set {l : List Int} {k : Nat} (v : Int) (h : k < l.length) : (l.set k v).sum = l.sum - l.getD k 0 + v := by
 induction l generalizing k with
 | nil => simp at h
 | cons y t ih =>
  cases k with
  | zero => simp; omega
  | succ k =>
   have := ih (k := k) (by simpa using h)
   simp only [List.set_cons_succ, List.sum_cons, this]
   have : (y :: t).getD (k + 1) 0 = t.getD k 0 := rfl
   omega
theorem getD_set {l : List Int} {k m : Nat} (v : Int) (h : k < l.length) : (l.set k v).getD m 0 = if m = k then v else l.getD m 0 := by
 simp only [List.getD_eq_getElem?_getD, List.getElem?_set]
 by_cases e : k = m
 · subst e; simp [h]
 · rw [if_neg e, if_neg (fun h => e h.symm)]
theorem mvT_ok {y : Ty.den five} {b : List Int} {lf : Int} (h0 : 0 ≤ lf) (hb : ∀ x ∈ b, 0 ≤ x) : ∀ k, k ≤ b.length → (mvT y b lf k).1.length = b.length ∧ (0 ≤ (mvT y b lf k).2 ∧ (mvT y b lf k).2 ≤ lf) ∧ (mvT y b lf k).1.sum + (mvT y b lf k).2 = b.sum + lf ∧ ∀ m, b.getD m 0 ≤ (mvT y b lf k).1.getD m 0
 | 0, _ => ⟨rfl, ⟨h0, Int.le_refl _⟩, rfl, fun m => Int.le_refl _⟩
 | k + 1, hk => by
  obtain ⟨h1, ⟨h2, h3⟩, h4, h5⟩ := mvT_ok (y := y) h0 hb k (by omega)
  have hp := pickD_lt (k := fx y (1 + k)) (n := (mvT y b lf k).2 + 1) (by omega)
  rw [mvT_next]
  refine ⟨by rw [List.length_set, h1], ⟨by simp only []; omega, by simp only []; omega⟩, ?_, fun m => ?_⟩
  · simp only []
    rw [sum_set _ (by omega)]; omega
  · simp only []
    rw [getD_set _ (by omega)]
    have := h5 m
    by_cases e : m = k
    · subst e; rw [if_pos rfl]; omega
    · rw [if_neg e]; exact this
abbrev pre_m30 (x : List (Ty.den five)) (i : Int) (j : Nat) (lf k : Int) (b : List Int) : Prop := k = 0 ∧ j = b.length ∧ b.length ≤ 4 ∧ (0 ≤ i ∧ i < (x.length : Int)) ∧ okF5 (x.getD i.toNat five.dflt) = true ∧ (0 ≤ lf ∧ lf ≤ 100000000) ∧ (∀ x ∈ b, 0 ≤ x) ∧ b.sum ≤ 100000000
abbrev pre_m3 (x : List (Ty.den five)) (c : Int) (ds : List Int) (rs : List (Ty.den retT)) (c2 : Int) (ds2 : List Int) (o : List (Ty.den retT)) (i q n : Int) (j : Nat) (lf k : Int) (b : List Int) : Prop := pre_m30 x i j lf k b
def rs_m3 (x : List (Ty.den five)) (c : Int) (ds : List Int) (rs : List (Ty.den retT)) (c2 : Int) (ds2 : List Int) (o : List (Ty.den retT)) (i q n : Int) (j : Nat) (lf k : Int) (b : List Int) : Ex × St := (.exit 6, St.of 137 (lve_m3 (.exit 6)) [.slst .ro five x, .ptr 0 0, .ptr 1 0, .ptr 2 0, .si .i64 i, .ptr 3 0] [some [.si .i64 c, .slst .ro ity ds, .slst .ro retT rs], some [.i .i64 0, .lst .full [], .lst .full []], some [.si .i64 c2, .slst .ro ity ds2, .slst .ro retT o], some [.si .i64 q, .si .i64 n, .bs true 0 0 j]] [some (.live (.arr ity (mvT (x.getD i.toNat five.dflt) b lf b.length).1))] hp_m3.kh hp_m3.kt)
def res_m3 (x : List (Ty.den five)) (c : Int) (ds : List Int) (rs : List (Ty.den retT)) (c2 : Int) (ds2 : List Int) (o : List (Ty.den retT)) (i q n : Int) (j : Nat) (lf k : Int) (b : List Int) : Tr (Ex × St) := .br (decide (pre_m3 x c ds rs c2 ds2 o i q n j lf k b)) (.leaf (some (.exit 6, St.of 137 (lve_m3 (.exit 6)) [.slst .ro five x, .ptr 0 0, .ptr 1 0, .ptr 2 0, .si .i64 i, .ptr 3 0] [some [.si .i64 c, .slst .ro ity ds, .slst .ro retT rs], some [.i .i64 0, .lst .full [], .lst .full []], some [.si .i64 c2, .slst .ro ity ds2, .slst .ro retT o], some [.si .i64 q, .si .i64 n, .bs true 0 0 j]] [some (.live (.arr ity (mvT (x.getD i.toNat five.dflt) b lf b.length).1))] hp_m3.kh hp_m3.kt))) (.leaf none)
def ent_m3 : LEnt := LEnt.by hp_m3 fun ⟨(x, _, _, _, i, _, lf, k, _), ((c, ds, rs, _), (_, _, _, _), (c2, ds2, o, _), (q, n, j, _), _), (b, _)⟩ => res_m3 x c ds rs c2 ds2 o i q n j lf k b
theorem ent_m3_ok (hgo : ∀ (x : List (Ty.den five)) (c : Int) (ds : List Int) (rs : List (Ty.den retT)) (c2 : Int) (ds2 : List Int) (o : List (Ty.den retT)) (i q n : Int) (j : Nat) (lf k : Int) (b : List Int), pre_m3 x c ds rs c2 ds2 o i q n j lf k b → SemL Try.prog Γ (lp 38 3) (st_m3 x c ds rs c2 ds2 o i q n j lf k b) (rs_m3 x c ds rs c2 ds2 o i q n j lf k b).1.to (rs_m3 x c ds rs c2 ds2 o i q n j lf k b).2) : EntOk Try.prog Γ (lp 38 3) ent_m3 := LEnt.by_ok fun ⟨(x, _, _, _, i, _, lf, k, _), ((c, ds, rs, _), (_, _, _, _), (c2, ds2, o, _), (q, n, j, _), _), (b, _)⟩ _ _ h_ => SemL.br (out := rs_m3 x c ds rs c2 ds2 o i q n j lf k b) rfl (hgo x c ds rs c2 ds2 o i q n j lf k b) h_
theorem mem_le_sum {l : List Int} (h : ∀ x ∈ l, 0 ≤ x) {x : Int} (hx : x ∈ l) : x ≤ l.sum := by
 induction l with
 | nil => simp at hx
 | cons y t ih =>
  have h0 := h y (by simp)
  have h1 := sum_nonneg (l := t) fun z hz => h z (by simp [hz])
  rw [List.sum_cons]
  simp only [List.mem_cons] at hx
  rcases hx with rfl | hx
  · omega
  · have := ih (fun z hz => h z (by simp [hz])) hx; omega
theorem nonneg_of_ge {b l : List Int} (hl : l.length = b.length) (hb : ∀ x ∈ b, 0 ≤ x) (h : ∀ m, b.getD m 0 ≤ l.getD m 0) : ∀ x ∈ l, 0 ≤ x := fun x hx => by
 obtain ⟨m, hm, rfl⟩ := List.getElem_of_mem hx
 have h1 := h m
 have h2 := getD_nonneg hb m
 have : l.getD m 0 = l[m] := by simp [List.getD, hm]
 omega
theorem m3_go (x : List (Ty.den five)) (c : Int) (ds : List Int) (rs : List (Ty.den retT)) (c2 : Int) (ds2 : List Int) (o : List (Ty.den retT)) (i q n : Int) (j : Nat) (lf k : Int) (b : List Int) (h : pre_m3 x c ds rs c2 ds2 o i q n j lf k b) : SemL Try.prog Γ (lp 38 3) (st_m3 x c ds rs c2 ds2 o i q n j lf k b) (rs_m3 x c ds rs c2 ds2 o i q n j lf k b).1.to (rs_m3 x c ds rs c2 ds2 o i q n j lf k b).2 := by
 obtain ⟨rfl, rfl, hl, hi, hy, hlf, hb, hs⟩ := h
 refine SemL.scan b.length 0 (Nat.zero_le _) (fun k => st_m3 x c ds rs c2 ds2 o i q n b.length (mvT (x.getD i.toNat five.dflt) b lf k).2 (k : Nat) (mvT (x.getD i.toNat five.dflt) b lf k).1) (fun _ => true) _ ?_ ?_ ?_
 · intro k _ hk _ _
   obtain ⟨h1, ⟨h2, h3⟩, h4, h5⟩ := mvT_ok (y := x.getD i.toNat five.dflt) hlf.1 hb k (by omega)
   have hnn := nonneg_of_ge h1 hb h5
   have hp := pickD_lt (k := fx (x.getD i.toNat five.dflt) (1 + k)) (n := (mvT (x.getD i.toNat five.dflt) b lf k).2 + 1) (by omega)
   have hm := mem_le_sum hnn (getD_mem 0 (show k < (mvT (x.getD i.toNat five.dflt) b lf k).1.length by omega))
   have hm0 := getD_nonneg hnn k
   have hbb : (0 : Int) ≤ (k : Int) ∧ (k : Int) < (Nat.cast b.length : Int) := by omega
   refine rn_m3_c x c ds rs c2 ds2 o i q n _ _ k _ (e := .normal) ?_
   rw [rn_m3_eq, mvT_next]
   generalize hP : mvT (x.getD i.toNat five.dflt) b lf k = P at h1 h2 h3 h4 h5 hnn hp hm hm0 ⊢
   rw [wrap_in (n := (1 : Int) + k) (by omega) (by omega), wrap_in (n := P.2 + 1) (by omega) (by omega), wrap_in (n := P.2 - pickD (fx (x.getD i.toNat five.dflt) (1 + k)) (P.2 + 1)) (by omega) (by omega), wrap_succ hk (by omega), Int.toNat_natCast, Nat.zero_add,
    wrap_in (n := P.1.getD k 0 + pickD (fx (x.getD i.toNat five.dflt) (1 + k)) (P.2 + 1)) (by omega) (by omega),
    decide_eq_true hbb.2, decide_eq_true hi, decide_eq_true (by omega : (0 : Int) ≤ 1 + k ∧ 1 + (k : Int) < 5), decide_eq_true (show inr (fx (x.getD i.toNat five.dflt) (1 + k)) = true ∧ P.2 + 1 ≠ 0 from ⟨fx_in hy _, by omega⟩), decide_eq_true hbb, decide_eq_true (show k < P.1.length by omega)]
   rfl
 · intro k _ _ _ hp
   cases hp
 · intro _
   unfold rs_m3
   refine ⟨by simp [Ex.to], rn_m3_c x c ds rs c2 ds2 o i q n _ _ b.length _ (e := .exit 6) ?_⟩
   rw [rn_m3_eq, decide_eq_false (by omega)]
   rfl
def lo32 : LOrc := (LOrc.add (LOrc.add (LOrc.add lo28 38 1 ent_ml) 38 2 ent_m2) 38 3 ent_m3)
theorem lo32_ok : LOrcOk Try.prog Γ lo32 := (LOrcOk.add (LOrcOk.add (LOrcOk.add lo28_ok 38 1 Try.func38 bd_ml le_ml (ent_ml_ok ml_go)) 38 2 Try.func38 bd_m2 le_m2 (ent_m2_ok m2_go)) 38 3 Try.func38 bd_m3 le_m3 (ent_m3_ok m3_go))
noncomputable def cfg32 : Cfg := cfgQ oS9 lo32
theorem cfg32_ok : CfgOk Try.prog Γ cfg32 := cfgQ_ok oS9_ok lo32_ok
end T
end Go.Proofs.Ytofbchcclkejgaa

/- Package tally: more: pieces. -/
set_option linter.unusedVariables false
set_option linter.unusedSimpArgs false
set_option maxRecDepth 100000
set_option maxHeartbeats 4000000
namespace Go.Proofs.Ytofbchcclkejgaa
open Go
namespace T
theorem bd38 : Try.f38.body = some (root 38) := by kernel_rfl
noncomputable def mo : Code := lp 38 0
noncomputable def moA : Code := cA mo
noncomputable def moI : Code := cK (cA (cB mo))
noncomputable def moP (k : Nat) : Code := cA (tlN k moI)
noncomputable def moK : Code := cB (cB mo)
theorem mo_eq : mo = .seq moA (.seq (.block 1 (.seq (moP 0) (.seq (moP 1) (.seq (moP 2) (.seq (moP 3) (.seq (moP 4) (.seq (moP 5) (.seq (moP 6) (tlN 7 moI))))))))) moK) := by kernel_rfl
noncomputable def m7 (k : Nat) : Code := cA (tlN k (root 38))
theorem root38 : root 38 = .seq (m7 0) (.seq (m7 1) (.seq (.seq (cA (m7 2)) (.block 0 (.loop mo))) (tlN 3 (root 38)))) := by kernel_rfl
abbrev zO3 : Option (List V) := some [.i .i64 0, .lst .full [], .lst .full []]
def mS (x : List (Ty.den five)) (c : Int) (ds : List Int) (rs o : List R1) (i : Int) : St := St.of 137 [1, 2, 4, 5, 6] [.slst .ro five x, .ptr 0 0, .ptr 1 0, .ptr 2 0, .si .i64 i] [oT3 c ds rs, zO3, oT3 c ds o] []
theorem moA_eq (x : List (Ty.den five)) (c : Int) (ds : List Int) (rs o : List R1) (i : Int) : (pc 38 1 cfg32 moA [1, 2, 4, 5, 6] [4, 5] (mS x c ds rs o i)).run = (bif bif decide (i < (Nat.cast (x.length) : Int)) then decide (i < (30 : Int)) else false then (some ((Ex.normal, [V.slst Tag.ro five x, V.ptr (0 : Nat) (0 : Nat), V.ptr (1 : Nat) (0 : Nat), V.ptr (2 : Nat) (0 : Nat), V.si IntKind.i64 i], [some [V.si IntKind.i64 c, V.slst Tag.ro ity ds, V.slst Tag.ro retT rs], some [V.i IntKind.i64 (0 : Int), V.lst Tag.full [], V.lst Tag.full []], some [V.si IntKind.i64 c, V.slst Tag.ro ity ds, V.slst Tag.ro retT o]], [], (137 : Nat), (0 : Nat), (0 : Nat)))) else (some ((Ex.exit (0 : Nat), [V.ptr (0 : Nat) (0 : Nat), V.ptr (1 : Nat) (0 : Nat)], [some [V.i IntKind.i64 (0 : Int), V.lst Tag.full [], V.lst Tag.full []], some [V.si IntKind.i64 c, V.slst Tag.ro ity ds, V.slst Tag.ro retT o]], [], (137 : Nat), (0 : Nat), (0 : Nat))))) := by kernel_rfl
theorem mo0_eq (x : List (Ty.den five)) (c : Int) (ds : List Int) (rs o : List R1) (i : Int) : (pc 38 1 cfg32 (moP 0) [1, 2, 4, 5, 6, 7] [] (mS x c ds rs o i)).run = (bif decide ((0 : Int) ≤ i ∧ i < (Nat.cast (x.length) : Int)) then (bif decide (inr (x.getD i.toNat five.dflt).fst = true ∧ (Nat.cast (ds.length) : Int) ≠ (0 : Int)) then (some ((Ex.normal, [V.slst Tag.ro five x, V.ptr (0 : Nat) (0 : Nat), V.ptr (1 : Nat) (0 : Nat), V.ptr (2 : Nat) (0 : Nat), V.si IntKind.i64 i, V.si IntKind.i64 (pickD (x.getD i.toNat five.dflt).fst (Nat.cast (ds.length) : Int))], [some [V.si IntKind.i64 c, V.slst Tag.ro ity ds, V.slst Tag.ro retT rs], some [V.i IntKind.i64 (0 : Int), V.lst Tag.full [], V.lst Tag.full []], some [V.si IntKind.i64 c, V.slst Tag.ro ity ds, V.slst Tag.ro retT o]], [], (137 : Nat), (0 : Nat), (0 : Nat)))) else none) else none) := by kernel_rfl
theorem mo1_eq (x : List (Ty.den five)) (c : Int) (ds : List Int) (rs o : List R1) (i d : Int) : (pc 38 1 cfg32 (moP 1) [1, 2, 4, 5, 6, 7, 8] [] (St.of 137 [1, 2, 4, 5, 6, 7] [.slst .ro five x, .ptr 0 0, .ptr 1 0, .ptr 2 0, .si .i64 i, .si .i64 d] [oT3 c ds rs, zO3, oT3 c ds o] [])).run = (bif decide ((0 : Int) ≤ c ∧ c ≤ c ∧ (8 : Int) * c ≤ (281474976710656 : Int) ∧ c ≤ (9223372036854775807 : Int)) then (some ((Ex.normal, [V.slst Tag.ro five x, V.ptr (0 : Nat) (0 : Nat), V.ptr (1 : Nat) (0 : Nat), V.ptr (2 : Nat) (0 : Nat), V.si IntKind.i64 i, V.si IntKind.i64 d, V.ptr (3 : Nat) (0 : Nat)], [some [V.si IntKind.i64 c, V.slst Tag.ro ity ds, V.slst Tag.ro retT rs], some [V.i IntKind.i64 (0 : Int), V.lst Tag.full [], V.lst Tag.full []], some [V.si IntKind.i64 c, V.slst Tag.ro ity ds, V.slst Tag.ro retT o], some [V.si IntKind.i64 d, V.i IntKind.i64 (1 : Int), V.bs true (0 : Nat) (0 : Nat) c.toNat]], [some (Bf.live (BC.arr (Ty.int IntKind.i64) (List.replicate c.toNat (0 : Int))))], (137 : Nat), (0 : Nat), (0 : Nat)))) else none) := by kernel_rfl
theorem mo2_eq (x : List (Ty.den five)) (c : Int) (ds : List Int) (rs o : List R1) (i d : Int) (j : Nat) (b : List Int) : (pc 38 1 cfg32 (moP 2) [1, 2, 4, 5, 6, 7, 8, 9] [] (St.of 137 [1, 2, 4, 5, 6, 7, 8] [.slst .ro five x, .ptr 0 0, .ptr 1 0, .ptr 2 0, .si .i64 i, .si .i64 d, .ptr 3 0] [oT3 c ds rs, zO3, oT3 c ds o, some [.si .i64 d, .i .i64 1, .bs true 0 0 j]] [some (.live (.arr ity b))])).run = (bif decide ((0 : Int) ≤ d ∧ d < (Nat.cast (ds.length) : Int)) then (some ((Ex.normal, [V.slst Tag.ro five x, V.ptr (0 : Nat) (0 : Nat), V.ptr (1 : Nat) (0 : Nat), V.ptr (2 : Nat) (0 : Nat), V.si IntKind.i64 i, V.si IntKind.i64 d, V.ptr (3 : Nat) (0 : Nat), V.si IntKind.i64 (ds.getD d.toNat (0 : Int))], [some [V.si IntKind.i64 c, V.slst Tag.ro ity ds, V.slst Tag.ro retT rs], some [V.i IntKind.i64 (0 : Int), V.lst Tag.full [], V.lst Tag.full []], some [V.si IntKind.i64 c, V.slst Tag.ro ity ds, V.slst Tag.ro retT o], some [V.si IntKind.i64 d, V.i IntKind.i64 (1 : Int), V.bs true (0 : Nat) (0 : Nat) j]], [some (Bf.live (BC.arr ity b))], (137 : Nat), (0 : Nat), (0 : Nat)))) else none) := by kernel_rfl
theorem mo3_eq (x : List (Ty.den five)) (c : Int) (ds : List Int) (rs o : List R1) (i d lf : Int) (j : Nat) (b : List Int) : (pc 38 1 cfg32 (moP 3) [1, 2, 4, 5, 6, 8, 9] [] (St.of 137 [1, 2, 4, 5, 6, 7, 8, 9] [.slst .ro five x, .ptr 0 0, .ptr 1 0, .ptr 2 0, .si .i64 i, .si .i64 d, .ptr 3 0, .si .i64 lf] [oT3 c ds rs, zO3, oT3 c ds o, some [.si .i64 d, .i .i64 1, .bs true 0 0 j]] [some (.live (.arr ity b))])).run = (bif decide (pre_ml x c ds rs c ds o i d d (1 : Int) j lf (0 : Int) b) then (some ((Ex.normal, [V.slst Tag.ro five x, V.ptr (0 : Nat) (0 : Nat), V.ptr (1 : Nat) (0 : Nat), V.ptr (2 : Nat) (0 : Nat), V.si IntKind.i64 i, V.ptr (3 : Nat) (0 : Nat), V.si IntKind.i64 lf], [some [V.si IntKind.i64 c, V.slst Tag.ro ity ds, V.slst Tag.ro retT rs], some [V.i IntKind.i64 (0 : Int), V.lst Tag.full [], V.lst Tag.full []], some [V.si IntKind.i64 c, V.slst Tag.ro ity ds, V.slst Tag.ro retT o], some [V.si IntKind.i64 d, V.si IntKind.i64 (nvT o d (1 : Int) b o.length).fst, V.bs true (0 : Nat) (0 : Nat) (nvT o d (1 : Int) b o.length).snd.length]], [some (Bf.live (BC.arr ity (nvT o d (1 : Int) b o.length).snd))], (137 : Nat), (0 : Nat), (0 : Nat)))) else none) := by kernel_rfl
theorem mo4_eq (x : List (Ty.den five)) (c : Int) (ds : List Int) (rs o : List R1) (i d n lf : Int) (b : List Int) : (pc 38 2 cfg32 (moP 4) [1, 2, 4, 5, 6, 8, 9] [] (St.of 137 [1, 2, 4, 5, 6, 8, 9] [.slst .ro five x, .ptr 0 0, .ptr 1 0, .ptr 2 0, .si .i64 i, .ptr 3 0, .si .i64 lf] [oT3 c ds rs, zO3, oT3 c ds o, some [.si .i64 d, .si .i64 n, .bs true 0 0 b.length]] [some (.live (.arr ity b))])).run = (bif decide (pre_m2 x c ds rs c ds o i d n b.length lf (0 : Int) b) then (some ((Ex.normal, [V.slst Tag.ro five x, V.ptr (0 : Nat) (0 : Nat), V.ptr (1 : Nat) (0 : Nat), V.ptr (2 : Nat) (0 : Nat), V.si IntKind.i64 i, V.ptr (3 : Nat) (0 : Nat), V.si IntKind.i64 (lf - b.sum)], [some [V.si IntKind.i64 c, V.slst Tag.ro ity ds, V.slst Tag.ro retT rs], some [V.i IntKind.i64 (0 : Int), V.lst Tag.full [], V.lst Tag.full []], some [V.si IntKind.i64 c, V.slst Tag.ro ity ds, V.slst Tag.ro retT o], some [V.si IntKind.i64 d, V.si IntKind.i64 n, V.bs true (0 : Nat) (0 : Nat) b.length]], [some (Bf.live (BC.arr ity b))], (137 : Nat), (0 : Nat), (0 : Nat)))) else none) := by kernel_rfl
theorem mo5_eq (x : List (Ty.den five)) (c : Int) (ds : List Int) (rs o : List R1) (i d n lf : Int) (b : List Int) : (pc 38 3 cfg32 (moP 5) [1, 2, 4, 5, 6, 8] [] (St.of 137 [1, 2, 4, 5, 6, 8, 9] [.slst .ro five x, .ptr 0 0, .ptr 1 0, .ptr 2 0, .si .i64 i, .ptr 3 0, .si .i64 lf] [oT3 c ds rs, zO3, oT3 c ds o, some [.si .i64 d, .si .i64 n, .bs true 0 0 b.length]] [some (.live (.arr ity b))])).run = (bif decide (pre_m3 x c ds rs c ds o i d n b.length lf (0 : Int) b) then (some ((Ex.normal, [V.slst Tag.ro five x, V.ptr (0 : Nat) (0 : Nat), V.ptr (1 : Nat) (0 : Nat), V.ptr (2 : Nat) (0 : Nat), V.si IntKind.i64 i, V.ptr (3 : Nat) (0 : Nat)], [some [V.si IntKind.i64 c, V.slst Tag.ro ity ds, V.slst Tag.ro retT rs], some [V.i IntKind.i64 (0 : Int), V.lst Tag.full [], V.lst Tag.full []], some [V.si IntKind.i64 c, V.slst Tag.ro ity ds, V.slst Tag.ro retT o], some [V.si IntKind.i64 d, V.si IntKind.i64 n, V.bs true (0 : Nat) (0 : Nat) b.length]], [some (Bf.live (BC.arr ity (mvT (x.getD i.toNat five.dflt) b lf b.length).fst))], (137 : Nat), (0 : Nat), (0 : Nat)))) else none) := by kernel_rfl
theorem mo6_eq (x : List (Ty.den five)) (c : Int) (ds : List Int) (rs o : List R1) (i d n : Int) (b : List Int) : (pc 38 4 cfg32 (moP 6) [1, 2, 4, 5, 6, 14, 15] [] (St.of 137 [1, 2, 4, 5, 6, 8] [.slst .ro five x, .ptr 0 0, .ptr 1 0, .ptr 2 0, .si .i64 i, .ptr 3 0] [oT3 c ds rs, zO3, oT3 c ds o, some [.si .i64 d, .si .i64 n, .slst .ro ity b]] [some .dead])).run = (bif decide (szR o ∧ b.length ≤ 1000000) then (some ((Ex.normal, [V.slst Tag.ro five x, V.ptr (0 : Nat) (0 : Nat), V.ptr (1 : Nat) (0 : Nat), V.ptr (2 : Nat) (0 : Nat), V.si IntKind.i64 i, V.ptr (3 : Nat) (0 : Nat), V.si IntKind.i64 (bif addOk c ds o d n b then (0 : Int) else (270 : Int))], [some [V.si IntKind.i64 c, V.slst Tag.ro ity ds, V.slst Tag.ro retT rs], some [V.i IntKind.i64 (0 : Int), V.lst Tag.full [], V.lst Tag.full []], some [V.si IntKind.i64 c, V.slst Tag.ro ity ds, V.slst Tag.ro retT o], some [V.si IntKind.i64 (bif addOk c ds o d n b then c else (0 : Int)), V.slst Tag.ro ity (bif addOk c ds o d n b then ds else []), V.slst Tag.ro retT (bif addOk c ds o d n b then joinD o [(d, n, b, ())] else [])]], [], (137 : Nat), (0 : Nat), (0 : Nat)))) else none) := by kernel_rfl
theorem mo7_eq (x : List (Ty.den five)) (c : Int) (ds : List Int) (rs o : List R1) (i c2 : Int) (ds2 : List Int) (o2 : List R1) (er : Int) : (pc 38 4 cfg32 (tlN 7 moI) [1, 2, 4, 5, 6] [] (St.of 137 [1, 2, 4, 5, 6, 14, 15] [.slst .ro five x, .ptr 0 0, .ptr 1 0, .ptr 2 0, .si .i64 i, .ptr 3 0, .si .i64 er] [oT3 c ds rs, zO3, oT3 c ds o, oT3 c2 ds2 o2] [])).run = (bif er == (0 : Int) then (some ((Ex.normal, [V.slst Tag.ro five x, V.ptr (0 : Nat) (0 : Nat), V.ptr (1 : Nat) (0 : Nat), V.ptr (2 : Nat) (0 : Nat), V.si IntKind.i64 i], [some [V.si IntKind.i64 c, V.slst Tag.ro ity ds, V.slst Tag.ro retT rs], some [V.i IntKind.i64 (0 : Int), V.lst Tag.full [], V.lst Tag.full []], some [V.si IntKind.i64 c2, V.slst Tag.ro ity ds2, V.slst Tag.ro retT o2]], [], (137 : Nat), (0 : Nat), (0 : Nat)))) else (some ((Ex.normal, [V.slst Tag.ro five x, V.ptr (0 : Nat) (0 : Nat), V.ptr (1 : Nat) (0 : Nat), V.ptr (2 : Nat) (0 : Nat), V.si IntKind.i64 i], [some [V.si IntKind.i64 c, V.slst Tag.ro ity ds, V.slst Tag.ro retT rs], some [V.i IntKind.i64 (0 : Int), V.lst Tag.full [], V.lst Tag.full []], some [V.si IntKind.i64 c, V.slst Tag.ro ity ds, V.slst Tag.ro retT o]], [], (137 : Nat), (0 : Nat), (0 : Nat))))) := by kernel_rfl
theorem moK_eq (x : List (Ty.den five)) (c : Int) (ds : List Int) (rs o : List R1) (i : Int) : (pc 38 4 cfg32 moK [1, 2, 4, 5, 6] [] (mS x c ds rs o i)).run = (some ((Ex.normal, [V.slst Tag.ro five x, V.ptr (0 : Nat) (0 : Nat), V.ptr (1 : Nat) (0 : Nat), V.ptr (2 : Nat) (0 : Nat), V.si IntKind.i64 (IntKind.i64.wrap (i + (1 : Int)))], [some [V.si IntKind.i64 c, V.slst Tag.ro ity ds, V.slst Tag.ro retT rs], some [V.i IntKind.i64 (0 : Int), V.lst Tag.full [], V.lst Tag.full []], some [V.si IntKind.i64 c, V.slst Tag.ro ity ds, V.slst Tag.ro retT o]], [], (137 : Nat), (0 : Nat), (0 : Nat)))) := by kernel_rfl
theorem m70_eq (x : List (Ty.den five)) (c : Int) (ds : List Int) (rs : List R1) : (pc 38 0 cfg32 (m7 0) [1, 2, 4] [] (St.start 137 [.agg [.si .i64 c, .slst .ro ity ds, .slst .ro retT rs], .slst .ro five x] [] [])).run = (some ((Ex.normal, [V.slst Tag.ro five x, V.ptr (0 : Nat) (0 : Nat), V.ptr (1 : Nat) (0 : Nat)], [some [V.si IntKind.i64 c, V.slst Tag.ro ity ds, V.slst Tag.ro retT rs], some [V.i IntKind.i64 (0 : Int), V.lst Tag.full [], V.lst Tag.full []]], [], (137 : Nat), (0 : Nat), (0 : Nat)))) := by kernel_rfl
theorem m71_eq (x : List (Ty.den five)) (c : Int) (ds : List Int) (rs : List R1) : (pc 38 0 cfg32 (m7 1) [1, 2, 4, 5] [] (St.of 137 [1, 2, 4] [.slst .ro five x, .ptr 0 0, .ptr 1 0] [oT3 c ds rs, zO3] [])).run = (some ((Ex.normal, [V.slst Tag.ro five x, V.ptr (0 : Nat) (0 : Nat), V.ptr (1 : Nat) (0 : Nat), V.ptr (2 : Nat) (0 : Nat)], [some [V.si IntKind.i64 c, V.slst Tag.ro ity ds, V.slst Tag.ro retT rs], some [V.i IntKind.i64 (0 : Int), V.lst Tag.full [], V.lst Tag.full []], some [V.si IntKind.i64 c, V.slst Tag.ro ity ds, V.slst Tag.ro retT rs]], [], (137 : Nat), (0 : Nat), (0 : Nat)))) := by kernel_rfl
theorem m72_eq (x : List (Ty.den five)) (c : Int) (ds : List Int) (rs : List R1) : (pc 38 0 cfg32 (cA (m7 2)) [1, 2, 4, 5, 6] [] (St.of 137 [1, 2, 4, 5] [.slst .ro five x, .ptr 0 0, .ptr 1 0, .ptr 2 0] [oT3 c ds rs, zO3, oT3 c ds rs] [])).run = (some ((Ex.normal, [V.slst Tag.ro five x, V.ptr (0 : Nat) (0 : Nat), V.ptr (1 : Nat) (0 : Nat), V.ptr (2 : Nat) (0 : Nat), V.i IntKind.i64 (0 : Int)], [some [V.si IntKind.i64 c, V.slst Tag.ro ity ds, V.slst Tag.ro retT rs], some [V.i IntKind.i64 (0 : Int), V.lst Tag.full [], V.lst Tag.full []], some [V.si IntKind.i64 c, V.slst Tag.ro ity ds, V.slst Tag.ro retT rs]], [], (137 : Nat), (0 : Nat), (0 : Nat)))) := by kernel_rfl
theorem m73_eq (c : Int) (ds : List Int) (o : List R1) : (pc 38 4 cfg32 (tlN 3 (root 38)) [] [4] (St.of 137 [4, 5] [.ptr 0 0, .ptr 1 0] [zO3, oT3 c ds o] [])).run = (some ((Ex.ret, [V.ptr (0 : Nat) (0 : Nat)], [some [V.si IntKind.i64 c, V.slst Tag.ro ity ds, V.slst Tag.ro retT o]], [], (137 : Nat), (0 : Nat), (0 : Nat)))) := by kernel_rfl
end T
end Go.Proofs.Ytofbchcclkejgaa

/- Package tally: newer returns of a place; votes that grow (plain). -/
set_option linter.unusedVariables false
set_option linter.unusedSimpArgs false
set_option maxRecDepth 100000
namespace Go.Proofs.Ytofbchcclkejgaa
open Go
namespace T
theorem lexC_ge : ∀ {a b : List Int}, a.length = b.length → (∀ k, b.getD k 0 ≤ a.getD k 0) → 0 ≤ lexC a b
 | [], [], _, _ => Int.le_refl _
 | x :: a, y :: b, hl, h => by
  have h0 : y ≤ x := h 0
  have ih := lexC_ge (a := a) (b := b) (by simpa using hl) fun k => h (k + 1)
  show 0 ≤ if sgn x y ≠ 0 then sgn x y else lexC a b
  unfold sgn
  by_cases h1 : x < y
  · omega
  · by_cases h2 : y < x
    · simp [h1, h2]
    · simp [h1, h2]; exact ih
theorem map_add (o : List R1) (r : R1) : mapOf (o ++ [r]) = stepM (mapOf o) r := foldM_append o [r] zeroM
theorem step_add {c : Int} {ds : List Int} {o : List R1} (hv : validT c ds o = true) {d : Nat} {n : Int} {b : List Int} (hpr : prR c ds (mkR (d : Int) n b) = true)
 (hnew : rN (mapOf o d) > 0 → n > rN (mapOf o d) ∨ (n = rN (mapOf o d) ∧ b.length = (vAt o d).length ∧ ∀ k, (vAt o d).getD k 0 ≤ b.getD k 0)) :
 validT c ds (canon (o ++ [mkR (d : Int) n b])) = true ∧ (∀ j, vAt (canon (o ++ [mkR (d : Int) n b])) j = if j = d then b else vAt o j) ∧ ∀ j, rN (mapOf (canon (o ++ [mkR (d : Int) n b])) j) = if j = d then n else rN (mapOf o j) := by
 obtain ⟨hc, hok, ha⟩ := validT_asc.1 hv
 have hl := validC_len hc
 have hok2 : okP c ds (o ++ [mkR (d : Int) n b]) := okP_app hok fun x hx => by
  have : x = mkR (d : Int) n b := by simpa using hx
  rw [this]; exact hpr
 have key : ∀ j, rV (mapOf (o ++ [mkR (d : Int) n b]) j) = (if j = d then b else vAt o j) ∧ rN (mapOf (o ++ [mkR (d : Int) n b]) j) = if j = d then n else rN (mapOf o j) := fun j => by
  rw [map_add]
  rcases stepM_gt (mapOf o) (mkR (d : Int) n b) j with ⟨e1, e2, e3⟩ | ⟨e1, e2⟩
  · have e1 : (d : Int) = j := e1
    rw [e3, if_pos (by omega), if_pos (by omega)]
    exact ⟨rfl, rfl⟩
  · rw [e2]
    by_cases hj : j = d
    · subst hj
      rw [if_pos rfl, if_pos rfl]
      have hng : ¬ gt (mkR (j : Int) n b) (mapOf o j) := fun h => e1 ⟨rfl, h⟩
      have hp : rN (mapOf o j) > 0 := by
       rcases best_map hok j with ⟨_, e⟩ | ⟨a, _, _⟩
       · rw [e] at hng
         exact absurd (gt_zero hpr j) hng
       · have := prR_N (hok _ a); omega
      rcases hnew hp with h | ⟨h1, h2, h3⟩
      · exfalso
        apply hng
        show cmpD n b (rN (mapOf o j)) (rV (mapOf o j)) > 0
        unfold cmpD
        have : sgn n (rN (mapOf o j)) > 0 := sgn_pos.2 (by omega)
        rw [if_pos (by omega)]; exact this
      · have hge : 0 ≤ cmpD n b (rN (mapOf o j)) (rV (mapOf o j)) := by
         unfold cmpD
         have : sgn n (rN (mapOf o j)) = 0 := by rw [h1]; unfold sgn; simp
         rw [if_neg (by rw [this]; simp)]
         exact lexC_ge h2 h3
        have hle : ¬ cmpD n b (rN (mapOf o j)) (rV (mapOf o j)) > 0 := hng
        have h0 := cmpD_zero.1 (by omega : cmpD n b (rN (mapOf o j)) (rV (mapOf o j)) = 0)
        exact ⟨h0.2.symm, h0.1.symm⟩
    · rw [if_neg hj, if_neg hj]; exact ⟨rfl, rfl⟩
 refine ⟨canon_valid hc hok2, fun j => ?_, fun j => ?_⟩
 · unfold vAt; rw [map_canon hl hok2]; exact (key j).1
 · rw [map_canon hl hok2]; exact (key j).2
theorem nvT_cases (o : List R1) (d n : Int) (b : List Int) : ∀ k, k ≤ o.length → (nvT o d n b k = (n, b) ∧ ∀ j, j < k → rD (o.getD j retT.dflt) ≠ d) ∨ ∃ r, r ∈ o ∧ rD r = d ∧ nvT o d n b k = (nxt (rN r), rV r)
 | 0, _ => .inl ⟨rfl, fun j h => by omega⟩
 | k + 1, hk => by
  rw [nvT_next]
  by_cases h : rD (o.getD k retT.dflt) = d
  · refine .inr ⟨_, getD_mem retT.dflt (show k < o.length by omega), h, ?_⟩
    rw [show (rD (o.getD k retT.dflt) == d) = true by rw [h]; exact beq_self_eq_true d]; rfl
  · rw [show (rD (o.getD k retT.dflt) == d) = false from beq_false_of_ne h]
    rcases nvT_cases o d n b k (by omega) with ⟨e, h2⟩ | h2
    · refine .inl ⟨e, fun j hj => ?_⟩
      by_cases e : j = k
      · subst e; exact h
      · exact h2 j (by omega)
    · exact .inr h2
theorem nvT_map {c : Int} {ds : List Int} {o : List R1} (hv : validT c ds o = true) (d : Nat) (n : Int) (b : List Int) :
 (nvT o d n b o.length = (n, b) ∧ mapOf o d = zeroM d) ∨ (nvT o d n b o.length = (nxt (rN (mapOf o d)), vAt o d) ∧ mapOf o d ∈ o ∧ rD (mapOf o d) = d) := by
 obtain ⟨hc, hok, ha⟩ := validT_asc.1 hv
 rcases nvT_cases o d n b o.length (Nat.le_refl _) with ⟨e, h⟩ | ⟨r, hr, hd, e⟩
 · refine .inl ⟨e, ?_⟩
   rcases best_map hok d with ⟨_, e⟩ | ⟨a, b, _⟩
   · exact e
   · obtain ⟨i, hi, hx⟩ := List.getElem_of_mem a
     have := h i hi
     rw [show o.getD i retT.dflt = mapOf o d by simp [List.getD, hi, hx]] at this
     exact absurd b this
 · rcases best_map hok d with ⟨a, _⟩ | ⟨a, b, _⟩
   · exact absurd hd (a r hr)
   · have := asc_D ha hr a (by rw [hd, b])
     subst this
     exact .inr ⟨e, a, b⟩
def vZ (c : Int) (o : List R1) (d : Nat) : List Int := (nvT o d 1 (List.replicate c.toNat 0) o.length).2
theorem rep_getD (n k : Nat) : (List.replicate n (0 : Int)).getD k 0 = 0 := by
 simp only [List.getD_eq_getElem?_getD, List.getElem?_replicate]; split <;> rfl
theorem nv_ok {c : Int} {ds : List Int} {o : List R1} (hv : validT c ds o = true) (d : Nat) :
 ((vZ c o d).length : Int) = c ∧ (∀ x ∈ vZ c o d, 0 ≤ x) ∧ (vZ c o d).sum ≤ ds.getD d 0 ∧ (∀ k, (vZ c o d).getD k 0 = (vAt o d).getD k 0) ∧ (vZ c o d).sum = (vAt o d).sum ∧
  (1 ≤ (nvT o d 1 (List.replicate c.toNat 0) o.length).1 ∧ (nvT o d 1 (List.replicate c.toNat 0) o.length).1 ≤ 1000) ∧
  (rN (mapOf o d) > 0 → (nvT o d 1 (List.replicate c.toNat 0) o.length).1 = nxt (rN (mapOf o d)) ∧ vZ c o d = vAt o d ∧ rN (mapOf o d) ≤ 1000) := by
 obtain ⟨hc, hok, ha⟩ := validT_asc.1 hv
 have hcc := (validC_iff.1 hc).1
 unfold vZ
 rcases nvT_map hv d 1 (List.replicate c.toNat 0) with ⟨e, hz⟩ | ⟨e, hm, hd⟩
 · rw [e]
   have hva : vAt o d = [] := by unfold vAt; rw [hz]; rfl
   refine ⟨by simp only [List.length_replicate]; omega, fun x hx => by have := (List.mem_replicate.1 hx).2; omega, ?_, fun k => ?_, ?_, by simp only []; omega, fun h => ?_⟩
   · have := ds_nonneg hc d
     simpa using this
   · rw [hva]; simp only [rep_getD]; rfl
   · rw [hva]; simp
   · rw [hz] at h; exact absurd h (by show ¬ (0 : Int) > 0; omega)
 · rw [e]
   have hp := hok _ hm
   obtain ⟨g1, g2, g3, g4, g5⟩ := properD_iff.1 hp
   rw [hd] at g5
   have g2 : 1 ≤ rN (mapOf o d) ∧ rN (mapOf o d) ≤ 1000 := g2
   have hn : 1 ≤ nxt (rN (mapOf o d)) ∧ nxt (rN (mapOf o d)) ≤ 1000 := by
    unfold nxt
    by_cases h : rN (mapOf o d) + 1 < 1000
    · rw [if_pos h]; omega
    · rw [if_neg h]; omega
   exact ⟨g3, fun x hx => (g4 x hx).1, g5, fun k => rfl, rfl, hn, fun _ => ⟨rfl, rfl, g2.2⟩⟩
def Grown (rs o : List R1) : Prop := ∀ j k : Nat, (vAt rs j).getD k 0 ≤ (vAt o j).getD k 0
def moT (c : Int) (ds : List Int) (x : List (Ty.den five)) (rs : List R1) : Nat → List R1
 | 0 => rs
 | i + 1 => joinD (moT c ds x rs i) [mkR (pickD (x.getD i five.dflt).1 (ds.length : Int)) (nvT (moT c ds x rs i) (pickD (x.getD i five.dflt).1 (ds.length : Int)) 1 (List.replicate c.toNat 0) (moT c ds x rs i).length).1
  (mvT (x.getD i five.dflt) (nvT (moT c ds x rs i) (pickD (x.getD i five.dflt).1 (ds.length : Int)) 1 (List.replicate c.toNat 0) (moT c ds x rs i).length).2
   (ds.getD (pickD (x.getD i five.dflt).1 (ds.length : Int)).toNat 0 - (nvT (moT c ds x rs i) (pickD (x.getD i five.dflt).1 (ds.length : Int)) 1 (List.replicate c.toNat 0) (moT c ds x rs i).length).2.sum)
   (nvT (moT c ds x rs i) (pickD (x.getD i five.dflt).1 (ds.length : Int)) 1 (List.replicate c.toNat 0) (moT c ds x rs i).length).2.length).1]
theorem mo_step {c : Int} {ds : List Int} {o : List R1} (hv : validT c ds o = true) {d : Nat} (hd : d < ds.length) (y : Ty.den five) :
 prR c ds (mkR (d : Int) (nvT o d 1 (List.replicate c.toNat 0) o.length).1 (mvT y (vZ c o d) (ds.getD d 0 - (vZ c o d).sum) (vZ c o d).length).1) = true ∧
  validT c ds (joinD o [mkR (d : Int) (nvT o d 1 (List.replicate c.toNat 0) o.length).1 (mvT y (vZ c o d) (ds.getD d 0 - (vZ c o d).sum) (vZ c o d).length).1]) = true ∧
  Grown o (joinD o [mkR (d : Int) (nvT o d 1 (List.replicate c.toNat 0) o.length).1 (mvT y (vZ c o d) (ds.getD d 0 - (vZ c o d).sum) (vZ c o d).length).1]) := by
 obtain ⟨h1, h2, h3, h4, h5, h6, h7⟩ := nv_ok hv d
 have hc := (validT_asc.1 hv).1
 have hdv := (validC_iff.1 hc).2.2 _ (getD_mem 0 hd)
 obtain ⟨k1, ⟨k2, k3⟩, k4, k5⟩ := mvT_ok (y := y) (b := vZ c o d) (lf := ds.getD d 0 - (vZ c o d).sum) (by omega) h2 (vZ c o d).length (Nat.le_refl _)
 have k6 := nonneg_of_ge k1 h2 k5
 have hpr : prR c ds (mkR (d : Int) (nvT o d 1 (List.replicate c.toNat 0) o.length).1 (mvT y (vZ c o d) (ds.getD d 0 - (vZ c o d).sum) (vZ c o d).length).1) = true := by
  refine properD_iff.2 ⟨by show 0 ≤ (d : Int) ∧ (d : Int) < (ds.length : Int); omega, h6, ?_, fun x hx => ⟨k6 x hx, ?_⟩, ?_⟩
  · show ((mvT y (vZ c o d) (ds.getD d 0 - (vZ c o d).sum) (vZ c o d).length).1.length : Int) = c
    rw [k1]; exact h1
  · have := mem_le_sum k6 hx
    omega
  · show (mvT y (vZ c o d) (ds.getD d 0 - (vZ c o d).sum) (vZ c o d).length).1.sum ≤ ds.getD ((d : Int)).toNat 0
    rw [Int.toNat_natCast]; omega
 have hnew : rN (mapOf o d) > 0 → (nvT o d 1 (List.replicate c.toNat 0) o.length).1 > rN (mapOf o d) ∨ ((nvT o d 1 (List.replicate c.toNat 0) o.length).1 = rN (mapOf o d) ∧ (mvT y (vZ c o d) (ds.getD d 0 - (vZ c o d).sum) (vZ c o d).length).1.length = (vAt o d).length ∧ ∀ k, (vAt o d).getD k 0 ≤ (mvT y (vZ c o d) (ds.getD d 0 - (vZ c o d).sum) (vZ c o d).length).1.getD k 0) := fun hp => by
  obtain ⟨g1, g2, g3⟩ := h7 hp
  rw [g1]
  unfold nxt
  by_cases hx : rN (mapOf o d) + 1 < 1000
  · rw [if_pos hx]; exact .inl (by omega)
  · rw [if_neg hx]
    by_cases hy : rN (mapOf o d) < 1000
    · exact .inl (by omega)
    · exact .inr ⟨by omega, by rw [k1, g2], fun k => by rw [← h4]; exact k5 k⟩
 obtain ⟨v1, v2, v3⟩ := step_add hv hpr hnew
 rw [joinD_eq]
 refine ⟨hpr, v1, fun j k => ?_⟩
 rw [v2 j]
 by_cases e : j = d
 · subst e; rw [if_pos rfl, ← h4]; exact k5 k
 · rw [if_neg e]; exact Int.le_refl _
theorem pick_nat {c : Int} {ds : List Int} (hc : validC c ds = true) (z : Int) : ∃ d : Nat, d < ds.length ∧ pickD z (ds.length : Int) = (d : Int) := by
 have h := (validC_iff.1 hc).2.1
 have := pickD_lt (k := z) (n := (ds.length : Int)) (by omega)
 exact ⟨(pickD z (ds.length : Int)).toNat, by omega, by omega⟩
theorem moT_next {c : Int} {ds : List Int} {x : List (Ty.den five)} {rs : List R1} {i d : Nat} (hd : pickD (x.getD i five.dflt).1 (ds.length : Int) = (d : Int)) :
 moT c ds x rs (i + 1) = joinD (moT c ds x rs i) [mkR (d : Int) (nvT (moT c ds x rs i) d 1 (List.replicate c.toNat 0) (moT c ds x rs i).length).1 (mvT (x.getD i five.dflt) (vZ c (moT c ds x rs i) d) (ds.getD d 0 - (vZ c (moT c ds x rs i) d).sum) (vZ c (moT c ds x rs i) d).length).1] := by
 rw [moT, hd, Int.toNat_natCast]; rfl
theorem moT_ok {c : Int} {ds : List Int} {x : List (Ty.den five)} {rs : List R1} (hv : validT c ds rs = true) : ∀ i, validT c ds (moT c ds x rs i) = true ∧ Grown rs (moT c ds x rs i)
 | 0 => ⟨hv, fun j k => Int.le_refl _⟩
 | i + 1 => by
  obtain ⟨h1, h2⟩ := moT_ok (x := x) hv i
  obtain ⟨d, hd, e⟩ := pick_nat (validT_asc.1 hv).1 (x.getD i five.dflt).1
  obtain ⟨_, g2, g3⟩ := mo_step h1 hd (x.getD i five.dflt)
  rw [moT_next e]
  exact ⟨g2, fun j k => Int.le_trans (h2 j k) (g3 j k)⟩
end T
end Go.Proofs.Ytofbchcclkejgaa

/- Package tally: more: contract. -/
set_option linter.unusedVariables false
set_option linter.unusedSimpArgs false
set_option maxRecDepth 100000
set_option maxHeartbeats 4000000
namespace Go.Proofs.Ytofbchcclkejgaa
open Go
namespace T
theorem mo_round {c : Int} {ds : List Int} {x : List (Ty.den five)} {rs o o2 : List R1} (hv : validT c ds o = true) (hx : ∀ y ∈ x, okF5 y = true) {i d : Nat} (hi : i < x.length) (h30 : i < 30) (hd : d < ds.length) (he : pickD (x.getD i five.dflt).1 (ds.length : Int) = (d : Int))
 (ho : joinD o [mkR (d : Int) (nvT o d 1 (List.replicate c.toNat 0) o.length).1 (mvT (x.getD i five.dflt) (vZ c o d) (ds.getD d 0 - (vZ c o d).sum) (vZ c o d).length).1] = o2) : SemC Try.prog Γ mo (mS x c ds rs o i) .normal (mS x c ds rs o2 ((i + 1 : Nat) : Int)) := by
 obtain ⟨hpr, hv2, _⟩ := mo_step hv hd (x.getD i five.dflt)
 obtain ⟨n1, n2, n3, n4, n5, n6, n7⟩ := nv_ok hv d
 have n0 := sum_nonneg n2
 have hc := (validC_iff.1 (validT_asc.1 hv).1)
 have hdv := hc.2.2 _ (getD_mem 0 hd)
 obtain ⟨k1, ⟨k2, k3⟩, k4, k5⟩ := mvT_ok (y := x.getD i five.dflt) (b := vZ c o d) (lf := ds.getD d 0 - (vZ c o d).sum) (by omega) n2 (vZ c o d).length (Nat.le_refl _)
 have hyi := hx _ (getD_mem five.dflt hi)
 have hin : inr (x.getD i five.dflt).1 = true := by
  unfold okF5 at hyi
  simp only [Bool.and_eq_true] at hyi
  exact hyi.1
 have hb : (0 : Int) ≤ (i : Int) ∧ (i : Int) < (Nat.cast x.length : Int) := by omega
 have hsz := validT_sz hv
 have hlen := validT_len hv
 have hokO : okO o := ⟨by omega, fun r hr => by
  have hp := (validT_asc.1 hv).2.1 r hr
  obtain ⟨g1, g2, g3, g4, g5⟩ := properD_iff.1 hp
  have g2 : 1 ≤ rN r ∧ rN r ≤ 1000 := g2
  exact ⟨by have : ((rV r).length : Int) = c := g3; omega, by omega, by omega⟩⟩
 have hA := pc_ok (e := .normal) cfg32_ok Try.func38 bd38 (lies0 (by kernel_rfl)) ((moA_eq x c ds rs o i).trans (by rw [decide_eq_true hb.2, decide_eq_true (by omega : (i : Int) < 30)]; rfl))
 have h0 := pc_ok (e := .normal) cfg32_ok Try.func38 bd38 (lies0 (by kernel_rfl)) ((mo0_eq x c ds rs o i).trans (by
  rw [decide_eq_true hb, Int.toNat_natCast, decide_eq_true (show inr (x.getD i five.dflt).1 = true ∧ (Nat.cast ds.length : Int) ≠ 0 from ⟨hin, by omega⟩), he]; rfl))
 have h1 := pc_ok (e := .normal) cfg32_ok Try.func38 bd38 (lies0 (by kernel_rfl)) ((mo1_eq x c ds rs o i d).trans (by
  rw [decide_eq_true (by omega : 0 ≤ c ∧ c ≤ c ∧ (8 : Int) * c ≤ 281474976710656 ∧ c ≤ 9223372036854775807)]; rfl))
 have h2 := pc_ok (e := .normal) cfg32_ok Try.func38 bd38 (lies0 (by kernel_rfl)) ((mo2_eq x c ds rs o i d c.toNat (List.replicate c.toNat 0)).trans (by
  rw [decide_eq_true (by omega : (0 : Int) ≤ (d : Int) ∧ (d : Int) < (Nat.cast ds.length : Int)), Int.toNat_natCast]; rfl))
 have h3 := pc_ok (e := .normal) cfg32_ok Try.func38 bd38 (Lies.of_take (n := 1) (by kernel_rfl)) ((mo3_eq x c ds rs o i d (ds.getD d 0) c.toNat (List.replicate c.toNat 0)).trans (by
  rw [decide_eq_true (show pre_ml x c ds rs c ds o i d d 1 c.toNat (ds.getD d 0) 0 (List.replicate c.toNat 0) from ⟨rfl, List.length_replicate.symm, hokO⟩)]; rfl))
 have h4 := pc_ok (e := .normal) cfg32_ok Try.func38 bd38 (Lies.of_take (n := 1) (by kernel_rfl)) ((mo4_eq x c ds rs o i d (nvT o d 1 (List.replicate c.toNat 0) o.length).1 (ds.getD d 0) (vZ c o d)).trans (by
  rw [decide_eq_true (show pre_m2 x c ds rs c ds o i d (nvT o d 1 (List.replicate c.toNat 0) o.length).1 (vZ c o d).length (ds.getD d 0) 0 (vZ c o d) from ⟨rfl, rfl, by omega, fun z hz => ⟨n2 z hz, by have := mem_le_sum n2 hz; omega⟩, by omega⟩)]; rfl))
 have h5 := pc_ok (e := .normal) cfg32_ok Try.func38 bd38 (Lies.of_take (n := 1) (by kernel_rfl)) ((mo5_eq x c ds rs o i d (nvT o d 1 (List.replicate c.toNat 0) o.length).1 (ds.getD d 0 - (vZ c o d).sum) (vZ c o d)).trans (by
  rw [decide_eq_true (show pre_m3 x c ds rs c ds o i d (nvT o d 1 (List.replicate c.toNat 0) o.length).1 (vZ c o d).length (ds.getD d 0 - (vZ c o d).sum) 0 (vZ c o d) from ⟨rfl, rfl, by omega, hb, by rw [Int.toNat_natCast]; exact hyi, by omega, n2, by omega⟩), Int.toNat_natCast]; rfl))
 have h5' := h5.postW (St.freezeO (o := 3) (k := 2) (s := 0) (sy := true) (L := (vZ c o d).length) (cs := [.si .i64 d, .si .i64 (nvT o d 1 (List.replicate c.toNat 0) o.length).1, .bs true 0 0 (vZ c o d).length]) (ty := ity) (l := (mvT (x.getD i five.dflt) (vZ c o d) (ds.getD d 0 - (vZ c o d).sum) (vZ c o d).length).1) rfl rfl rfl k1.symm)
 have hadd : addOk c ds o d (nvT o d 1 (List.replicate c.toNat 0) o.length).1 (mvT (x.getD i five.dflt) (vZ c o d) (ds.getD d 0 - (vZ c o d).sum) (vZ c o d).length).1 = true := by
  unfold addOk; rw [hv]; exact hpr
 have h6 := pc_ok (e := .normal) cfg32_ok Try.func38 bd38 (lies0 (by kernel_rfl)) ((mo6_eq x c ds rs o i d (nvT o d 1 (List.replicate c.toNat 0) o.length).1 (mvT (x.getD i five.dflt) (vZ c o d) (ds.getD d 0 - (vZ c o d).sum) (vZ c o d).length).1).trans (by
  rw [decide_eq_true (show szR o ∧ (mvT (x.getD i five.dflt) (vZ c o d) (ds.getD d 0 - (vZ c o d).sum) (vZ c o d).length).1.length ≤ 1000000 from ⟨hsz, by omega⟩), hadd, ho]; rfl))
 have h7 := pc_ok (e := .normal) cfg32_ok Try.func38 bd38 (lies0 (by kernel_rfl)) ((mo7_eq x c ds rs o i c ds o2 0).trans (by rw [beq_self_eq_true]; rfl))
 have hK := pc_ok (e := .normal) cfg32_ok Try.func38 bd38 (lies0 (by kernel_rfl)) ((moK_eq x c ds rs o2 i).trans (by rw [wrap_succ h30 (by omega)]))
 rw [mo_eq]
 exact hA.seq ((SemC.block (x := .normal) (by simp) (SemC.seq h0 (SemC.seq h1 (SemC.seq h2 (SemC.seq h3 (SemC.seq h4 (SemC.seq h5' (SemC.seq h6 h7)))))))).seq hK)
def mo30 (c : Int) (ds : List Int) (x : List (Ty.den five)) (rs : List R1) : List R1 := moT c ds x rs (min x.length 30)
theorem mo_go {c : Int} {ds : List Int} {x : List (Ty.den five)} {rs : List R1} (hv : validT c ds rs = true) (hx : ∀ y ∈ x, okF5 y = true) : SemL Try.prog Γ mo (mS x c ds rs rs 0) (.exit 0) (St.of 137 [4, 5] [.ptr 0 0, .ptr 1 0] [zO3, oT3 c ds (mo30 c ds x rs)] []) := by
 refine SemL.scan (min x.length 30) 0 (Nat.zero_le _) (fun i => mS x c ds rs (moT c ds x rs i) (i : Nat)) (fun _ => true) (.exit 0, St.of 137 [4, 5] [.ptr 0 0, .ptr 1 0] [zO3, oT3 c ds (mo30 c ds x rs)] []) ?_ ?_ ?_
 · intro i _ hi _ _
   obtain ⟨h1, _⟩ := moT_ok (x := x) hv i
   obtain ⟨d, hd, e⟩ := pick_nat (validT_asc.1 hv).1 (x.getD i five.dflt).1
   exact mo_round h1 hx (by omega) (by omega) hd e (moT_next e).symm
 · intro i _ _ _ hp
   cases hp
 · intro _
   refine ⟨by simp [Ex.to], ?_⟩
   have e : (bif decide (((min x.length 30 : Nat) : Int) < (Nat.cast x.length : Int)) then decide (((min x.length 30 : Nat) : Int) < 30) else false) = false := by
    by_cases h : x.length < 30
    · rw [decide_eq_false (by omega)]; rfl
    · rw [decide_eq_false (by omega : ¬ ((min x.length 30 : Nat) : Int) < 30)]; cases decide (((min x.length 30 : Nat) : Int) < (Nat.cast x.length : Int)) <;> rfl
   have hA := pc_ok (e := .exit 0) cfg32_ok Try.func38 bd38 (lies0 (by kernel_rfl)) ((moA_eq x c ds rs (mo30 c ds x rs) ((min x.length 30 : Nat) : Int)).trans (by rw [e]; rfl))
   rw [mo_eq]
   exact SemC.seq_out (by simp [Ex.to]) hA
theorem c38_ok (c : Int) (ds : List Int) (rs : List R1) (x : List (Ty.den five)) (h : validT c ds rs = true ∧ ∀ y ∈ x, okF5 y = true) : SemF Try.prog Γ 38 [.agg [.si .i64 c, .slst .ro ity ds, .slst .ro retT rs], .slst .ro five x] [] [] (.agg [.si .i64 c, .slst .ro ity ds, .slst .ro retT (mo30 c ds x rs)]) [] [] := by
 have h0 := pc_ok (e := .normal) cfg32_ok Try.func38 bd38 (lies0 (by kernel_rfl)) (m70_eq x c ds rs)
 have h1 := pc_ok (e := .normal) cfg32_ok Try.func38 bd38 (lies0 (by kernel_rfl)) (m71_eq x c ds rs)
 have h2 := (pc_ok (e := .normal) cfg32_ok Try.func38 bd38 (lies0 (by kernel_rfl)) (m72_eq x c ds rs)).post (y' := mS x c ds rs rs 0) (St.of_imps (vs' := [.slst .ro five x, .ptr 0 0, .ptr 1 0, .ptr 2 0, .si .i64 0]) rfl fun G j v v' h1 h2 cv hr => by
  match j with
  | 0 => cases h1; cases h2; exact hr
  | 1 => cases h1; cases h2; exact hr
  | 2 => cases h1; cases h2; exact hr
  | 3 => cases h1; cases h2; exact hr
  | 4 => cases h1; cases h2; exact si0 hr
  | j + 5 => cases h1)
 have h3 := pc_ok (e := .ret) cfg32_ok Try.func38 bd38 (lies0 (by kernel_rfl)) (m73_eq c ds (mo30 c ds x rs))
 have hc := SemC.seq h0 (SemC.seq h1 (SemC.seq (SemC.seq h2 (SemC.block_exit (SemC.loop (mo_go h.1 h.2)))) h3))
 rw [← root38] at hc
 have hf : SemF Try.prog Γ 38 [.agg [.si .i64 c, .slst .ro ity ds, .slst .ro retT rs], .slst .ro five x] [] [] (.agg [.si .i64 c, .slst .ro ity ds, .slst .ro retT (mo30 c ds x rs)]) [oT3 c ds (mo30 c ds x rs)] [] := SemF.of_body Try.func38 bd38 (.inl rfl) hc (by kernel_rfl)
 exact hf.drop (by kernel_rfl)
end T
end Go.Proofs.Ytofbchcclkejgaa

/- Package tally: TallySure: the law's function returns true. -/
set_option linter.unusedVariables false
set_option linter.unusedSimpArgs false
set_option maxRecDepth 100000
set_option maxHeartbeats 4000000
namespace Go.Proofs.Ytofbchcclkejgaa
open Go
namespace T
noncomputable def gg_o38 (c : Int) (ds : List Int) (rs : List (Ty.den retT)) (x : List (Ty.den five)) : Option Bool × V := (some (decide (validT c ds rs = true ∧ ∀ y ∈ x, okF5 y = true)), .agg [.si .i64 c, .slst .ro ity ds, .slst .ro retT (mo30 c ds x rs)])
theorem gg_o38_c (c : Int) (ds : List Int) (rs : List (Ty.den retT)) (x : List (Ty.den five)) (h : (gg_o38 c ds rs x).1.getD true = true) : validT c ds rs = true ∧ ∀ y ∈ x, okF5 y = true := of_decide_eq_true h
noncomputable def o38 : Orc := fun f args => if f = 38 then (Ty.ofVs [talT, .slice five] args).map (fun x => gg_o38 x.1.1.1 x.1.1.2.1 x.1.2.1 x.2.1) else oS9 f args
theorem o38_ok : OrcOk Try.prog Γ o38 := oS9_ok.plain 38 [talT, .slice five] (fun x => gg_o38 x.1.1.1 x.1.1.2.1 x.1.2.1 x.2.1) Try.f38 Try.func38 rfl (by kernel_rfl) (fun x h => c38_ok x.1.1.1 x.1.1.2.1 x.1.2.1 x.2.1 (gg_o38_c x.1.1.1 x.1.1.2.1 x.1.2.1 x.2.1 h))
noncomputable def cfg34 : Cfg := cfgQ o38 lo32
theorem cfg34_ok : CfgOk Try.prog Γ cfg34 := cfgQ_ok o38_ok lo32_ok
def hp_su : HP := { n := 111, lv := [11, 13, 18, 21], sp := [.ty ity, .ty ity, .ty (.slice ity), .ty ity], op := [], bp := [] }
def lve_su : Ex → List Nat
 | .normal => [11, 13, 18, 21]
 | .ret => [8]
 | .exit 0 => [11, 13]
 | _ => []
theorem bd_su : Try.f5.body = some (root 5) := by kernel_rfl
theorem le_su : (loops (root 5))[0]? = some (lp 5 0) := by kernel_rfl
theorem li_su : Lies (root 5) 1 (lp 5 0) := Lies.of_take (n := 0) (by kernel_rfl)
def st_su (s r : Int) (n : List Int) (i : Int) : St := hp_su.st ⟨(s, r, n, i, ()), (), ()⟩
noncomputable def rn_su (s r : Int) (n : List Int) (i : Int) := outa lve_su (evCK Try.prog Γ (cfM Try.prog Γ cfg34 30) (cfg34.lo 5) [] 60 1 (lp 5 0) (st_su s r n i))
theorem rn_su_eq (s r : Int) (n : List Int) (i : Int) : (rn_su s r n i).run = (bif decide (i < (n.length : Int)) then (bif i != s then (bif decide ((0 : Int) ≤ i ∧ i < (n.length : Int)) then (bif decide ((0 : Int) ≤ s ∧ s < (n.length : Int)) then (bif decide (n.getD i.toNat (0 : Int) ≥ n.getD s.toNat (0 : Int)) then (some ((Ex.ret, [V.b false], [], [], 111, 0, 0))) else (some ((Ex.normal, [V.si .i64 s, V.si .i64 r, V.slst .ro ity n, V.si .i64 (IntKind.i64.wrap (i + (1 : Int)))], [], [], 111, 0, 0)))) else none) else none) else (some ((Ex.normal, [V.si .i64 s, V.si .i64 r, V.slst .ro ity n, V.si .i64 (IntKind.i64.wrap (i + (1 : Int)))], [], [], 111, 0, 0)))) else (some ((Ex.exit 0, [V.si .i64 s, V.si .i64 r], [], [], 111, 0, 0)))) := by kernel_rfl
theorem rn_su_c (s r : Int) (n : List Int) (i : Int) {e : Ex} {vs : List V} {ob : Ob} {nm : Nm} {n' kh kt : Nat} (h : (rn_su s r n i).run = some (e, vs, ob, nm, n', kh, kt)) : SemC Try.prog Γ (lp 5 0) (st_su s r n i) e.to (St.of n' (lve_su e) vs ob nm kh kt) := SemC.of_evM cfg34_ok Try.func5 bd_su li_su h
abbrev pre_su0 (s : Int) (n : List Int) (i : Int) : Prop := i = 0 ∧ (0 ≤ s ∧ s < (n.length : Int)) ∧ n.length ≤ 1000 ∧ ∀ m, m < n.length → m ≠ s.toNat → n.getD m 0 < n.getD s.toNat 0
abbrev pre_su (s r : Int) (n : List Int) (i : Int) : Prop := pre_su0 s n i
def rs_su (s r : Int) (n : List Int) (i : Int) : Ex × St := (.exit 0, St.of 111 (lve_su (.exit 0)) [.si .i64 s, .si .i64 r] [] [] hp_su.kh hp_su.kt)
def res_su (s r : Int) (n : List Int) (i : Int) : Tr (Ex × St) := .br (decide (pre_su s r n i)) (.leaf (some (.exit 0, St.of 111 (lve_su (.exit 0)) [.si .i64 s, .si .i64 r] [] [] hp_su.kh hp_su.kt))) (.leaf none)
def ent_su : LEnt := LEnt.by hp_su fun ⟨(s, r, n, i, _), _, _⟩ => res_su s r n i
theorem ent_su_ok (hgo : ∀ (s r : Int) (n : List Int) (i : Int), pre_su s r n i → SemL Try.prog Γ (lp 5 0) (st_su s r n i) (rs_su s r n i).1.to (rs_su s r n i).2) : EntOk Try.prog Γ (lp 5 0) ent_su := LEnt.by_ok fun ⟨(s, r, n, i, _), _, _⟩ _ _ h_ => SemL.br (out := rs_su s r n i) rfl (hgo s r n i) h_
theorem su_go (s r : Int) (n : List Int) (i : Int) (h : pre_su s r n i) : SemL Try.prog Γ (lp 5 0) (st_su s r n i) (rs_su s r n i).1.to (rs_su s r n i).2 := by
 obtain ⟨rfl, hs, hl, hm⟩ := h
 refine SemL.scan n.length 0 (Nat.zero_le _) (fun i => st_su s r n (i : Nat)) (fun _ => true) _ ?_ ?_ ?_
 · intro i _ hi _ _
   refine rn_su_c s r n i (e := .normal) ?_
   rw [rn_su_eq, wrap_succ hi (by omega), decide_eq_true (by omega : (i : Int) < (Nat.cast n.length : Int)), Int.toNat_natCast]
   by_cases e : (i : Int) = s
   · rw [show ((i : Int) != s) = false by rw [e]; exact bne_self_eq_false s]; rfl
   · rw [show ((i : Int) != s) = true from bne_iff_ne.2 e, decide_eq_true (by omega : (0 : Int) ≤ (i : Int) ∧ (i : Int) < (Nat.cast n.length : Int)), decide_eq_true (by omega : (0 : Int) ≤ s ∧ s < (Nat.cast n.length : Int)), decide_eq_false (by have := hm i hi (by omega); omega)]; rfl
 · intro i _ _ _ hp
   cases hp
 · intro _
   unfold rs_su
   refine ⟨by simp [Ex.to], rn_su_c s r n n.length (e := .exit 0) ?_⟩
   rw [rn_su_eq, decide_eq_false (by omega)]
   rfl
def lo35 : LOrc := (LOrc.add lo32 5 0 ent_su)
theorem lo35_ok : LOrcOk Try.prog Γ lo35 := (LOrcOk.add lo32_ok 5 0 Try.func5 bd_su le_su (ent_su_ok su_go))
noncomputable def cfg35 : Cfg := cfgQ o38 lo35
theorem cfg35_ok : CfgOk Try.prog Γ cfg35 := cfgQ_ok o38_ok lo35_ok
end T
end Go.Proofs.Ytofbchcclkejgaa


/- Package tally: TallyOpen: loops. -/
set_option linter.unusedVariables false
set_option linter.unusedSimpArgs false
set_option maxRecDepth 100000
set_option maxHeartbeats 4000000
namespace Go.Proofs.Ytofbchcclkejgaa
open Go
namespace T
def hp_ol : HP := { n := 215, lv := [7, 8, 10, 12, 13, 14, 15, 16, 17], sp := [.ptr 0 0, .ty (.slice ity), .ty ity, .ty ity, .ptr 1 0, .ty ity, .ptr 2 0, .ty ity, .ty ity], op := [.cells [.ty ity, .ty (.slice ity), .ty (.slice retT)], .cells [.ty ity, .ty (.slice ity), .ty (.slice retT)], .cells [.ty ity, .ty ity, .bz 0]], bp := [.arr ity] }
def lve_ol : Ex → List Nat
 | .normal => [7, 8, 10, 12, 13, 14, 15, 16, 17]
 | .exit 4 => [7, 8, 10, 12, 13, 14, 15, 16]
 | _ => []
theorem bd_ol : Try.f6.body = some (root 6) := by kernel_rfl
theorem le_ol : (loops (root 6))[2]? = some (lp 6 2) := by kernel_rfl
theorem li_ol : Lies (root 6) 3 (lp 6 2) := Lies.of_take (n := 0) (by kernel_rfl)
def st_ol (c : Int) (ds : List Int) (rs : List (Ty.den retT)) (c2 : Int) (ds2 : List Int) (o : List (Ty.den retT)) (p : List Int) (s cc d q n : Int) (j : Nat) (lf k : Int) (b : List Int) : St := hp_ol.st ⟨((), p, s, cc, (), d, (), lf, k, ()), ((c, ds, rs, ()), (c2, ds2, o, ()), (q, n, j, ()), ()), (b, ())⟩
noncomputable def rn_ol (c : Int) (ds : List Int) (rs : List (Ty.den retT)) (c2 : Int) (ds2 : List Int) (o : List (Ty.den retT)) (p : List Int) (s cc d q n : Int) (j : Nat) (lf k : Int) (b : List Int) := outa lve_ol (evCK Try.prog Γ (cfM Try.prog Γ cfg35 30) (cfg35.lo 6) [] 60 3 (lp 6 2) (st_ol c ds rs c2 ds2 o p s cc d q n j lf k b))
theorem rn_ol_eq (c : Int) (ds : List Int) (rs : List (Ty.den retT)) (c2 : Int) (ds2 : List Int) (o : List (Ty.den retT)) (p : List Int) (s cc d q n : Int) (j : Nat) (lf k : Int) (b : List Int) : (rn_ol c ds rs c2 ds2 o p s cc d q n j lf k b).run = (bif decide (k < (rs.length : Int)) then (bif decide ((0 : Int) ≤ k ∧ k < (rs.length : Int)) then (bif (rD (rs.getD k.toNat retT.dflt)) == d then (bif decide ((0 : Int) ≤ k ∧ k < (rs.length : Int)) then (bif decide ((0 : Int) ≤ k ∧ k < (rs.length : Int)) then (bif decide (List.length (rV (rs.getD k.toNat retT.dflt)) * 2 * 8 ≤ 281474976710656) then (some ((Ex.normal, [V.ptr 0 0, V.slst .ro ity p, V.si .i64 s, V.si .i64 cc, V.ptr 1 0, V.si .i64 d, V.ptr 2 0, V.si .i64 lf, V.si .i64 (IntKind.i64.wrap (k + (1 : Int)))], [some [V.si .i64 c, V.slst .ro ity ds, V.slst .ro retT rs], some [V.si .i64 c2, V.slst .ro ity ds2, V.slst .ro retT o], some [V.si .i64 q, V.si .i64 (IntKind.i64.wrap ((rN (rs.getD k.toNat retT.dflt)) + (1 : Int))), V.bs true 0 0 (List.length (rV (rs.getD k.toNat retT.dflt)))]], [some (Bf.live (.arr ity (rV (rs.getD k.toNat retT.dflt))))], 215, 0, 0))) else none) else none) else none) else (some ((Ex.normal, [V.ptr 0 0, V.slst .ro ity p, V.si .i64 s, V.si .i64 cc, V.ptr 1 0, V.si .i64 d, V.ptr 2 0, V.si .i64 lf, V.si .i64 (IntKind.i64.wrap (k + (1 : Int)))], [some [V.si .i64 c, V.slst .ro ity ds, V.slst .ro retT rs], some [V.si .i64 c2, V.slst .ro ity ds2, V.slst .ro retT o], some [V.si .i64 q, V.si .i64 n, V.bs true 0 0 j]], [some (Bf.live (.arr ity b))], 215, 0, 0)))) else none) else (some ((Ex.exit 4, [V.ptr 0 0, V.slst .ro ity p, V.si .i64 s, V.si .i64 cc, V.ptr 1 0, V.si .i64 d, V.ptr 2 0, V.si .i64 lf], [some [V.si .i64 c, V.slst .ro ity ds, V.slst .ro retT rs], some [V.si .i64 c2, V.slst .ro ity ds2, V.slst .ro retT o], some [V.si .i64 q, V.si .i64 n, V.bs true 0 0 j]], [some (Bf.live (.arr ity b))], 215, 0, 0)))) := by kernel_rfl
theorem rn_ol_c (c : Int) (ds : List Int) (rs : List (Ty.den retT)) (c2 : Int) (ds2 : List Int) (o : List (Ty.den retT)) (p : List Int) (s cc d q n : Int) (j : Nat) (lf k : Int) (b : List Int) {e : Ex} {vs : List V} {ob : Ob} {nm : Nm} {n' kh kt : Nat} (h : (rn_ol c ds rs c2 ds2 o p s cc d q n j lf k b).run = some (e, vs, ob, nm, n', kh, kt)) : SemC Try.prog Γ (lp 6 2) (st_ol c ds rs c2 ds2 o p s cc d q n j lf k b) e.to (St.of n' (lve_ol e) vs ob nm kh kt) := SemC.of_evM cfg35_ok Try.func6 bd_ol li_ol h
def hp_o3 : HP := { n := 215, lv := [7, 8, 10, 12, 13, 14, 15, 16, 18], sp := [.ptr 0 0, .ty (.slice ity), .ty ity, .ty ity, .ptr 1 0, .ty ity, .ptr 2 0, .ty ity, .ty ity], op := [.cells [.ty ity, .ty (.slice ity), .ty (.slice retT)], .cells [.ty ity, .ty (.slice ity), .ty (.slice retT)], .cells [.ty ity, .ty ity, .bz 0]], bp := [.arr ity] }
def lve_o3 : Ex → List Nat
 | .normal => [7, 8, 10, 12, 13, 14, 15, 16, 18]
 | .exit 6 => [7, 8, 10, 12, 13, 14, 15, 16]
 | _ => []
theorem bd_o3 : Try.f6.body = some (root 6) := by kernel_rfl
theorem le_o3 : (loops (root 6))[3]? = some (lp 6 3) := by kernel_rfl
theorem li_o3 : Lies (root 6) 4 (lp 6 3) := Lies.of_take (n := 0) (by kernel_rfl)
def st_o3 (c : Int) (ds : List Int) (rs : List (Ty.den retT)) (c2 : Int) (ds2 : List Int) (o : List (Ty.den retT)) (p : List Int) (s cc d q n : Int) (j : Nat) (lf k : Int) (b : List Int) : St := hp_o3.st ⟨((), p, s, cc, (), d, (), lf, k, ()), ((c, ds, rs, ()), (c2, ds2, o, ()), (q, n, j, ()), ()), (b, ())⟩
noncomputable def rn_o3 (c : Int) (ds : List Int) (rs : List (Ty.den retT)) (c2 : Int) (ds2 : List Int) (o : List (Ty.den retT)) (p : List Int) (s cc d q n : Int) (j : Nat) (lf k : Int) (b : List Int) := outa lve_o3 (evCK Try.prog Γ (cfM Try.prog Γ cfg35 30) (cfg35.lo 6) [] 60 4 (lp 6 3) (st_o3 c ds rs c2 ds2 o p s cc d q n j lf k b))
theorem rn_o3_eq (c : Int) (ds : List Int) (rs : List (Ty.den retT)) (c2 : Int) (ds2 : List Int) (o : List (Ty.den retT)) (p : List Int) (s cc d q n : Int) (j : Nat) (lf k : Int) (b : List Int) : (rn_o3 c ds rs c2 ds2 o p s cc d q n j lf k b).run = (bif decide (k < (Nat.cast (j) : Int)) then (bif decide ((0 : Int) ≤ k ∧ k < (Nat.cast (j) : Int)) then (bif decide (0 + k.toNat < b.length) then (some ((Ex.normal, [V.ptr 0 0, V.slst .ro ity p, V.si .i64 s, V.si .i64 cc, V.ptr 1 0, V.si .i64 d, V.ptr 2 0, V.si .i64 (IntKind.i64.wrap (lf - b.getD (0 + k.toNat) (0 : Int))), V.si .i64 (IntKind.i64.wrap (k + (1 : Int)))], [some [V.si .i64 c, V.slst .ro ity ds, V.slst .ro retT rs], some [V.si .i64 c2, V.slst .ro ity ds2, V.slst .ro retT o], some [V.si .i64 q, V.si .i64 n, V.bs true 0 0 j]], [some (Bf.live (.arr ity b))], 215, 0, 0))) else none) else none) else (some ((Ex.exit 6, [V.ptr 0 0, V.slst .ro ity p, V.si .i64 s, V.si .i64 cc, V.ptr 1 0, V.si .i64 d, V.ptr 2 0, V.si .i64 lf], [some [V.si .i64 c, V.slst .ro ity ds, V.slst .ro retT rs], some [V.si .i64 c2, V.slst .ro ity ds2, V.slst .ro retT o], some [V.si .i64 q, V.si .i64 n, V.bs true 0 0 j]], [some (Bf.live (.arr ity b))], 215, 0, 0)))) := by kernel_rfl
theorem rn_o3_c (c : Int) (ds : List Int) (rs : List (Ty.den retT)) (c2 : Int) (ds2 : List Int) (o : List (Ty.den retT)) (p : List Int) (s cc d q n : Int) (j : Nat) (lf k : Int) (b : List Int) {e : Ex} {vs : List V} {ob : Ob} {nm : Nm} {n' kh kt : Nat} (h : (rn_o3 c ds rs c2 ds2 o p s cc d q n j lf k b).run = some (e, vs, ob, nm, n', kh, kt)) : SemC Try.prog Γ (lp 6 3) (st_o3 c ds rs c2 ds2 o p s cc d q n j lf k b) e.to (St.of n' (lve_o3 e) vs ob nm kh kt) := SemC.of_evM cfg35_ok Try.func6 bd_o3 li_o3 h
def hp_oc : HP := { n := 215, lv := [7, 8, 10, 12, 21, 24, 25], sp := [.ptr 0 0, .ty (.slice ity), .ty ity, .ty ity, .ty (.slice ity), .ty .bool, .ty ity], op := [.cells [.ty ity, .ty (.slice ity), .ty (.slice retT)]], bp := [] }
def lve_oc : Ex → List Nat
 | .normal => [7, 8, 10, 12, 21, 24, 25]
 | .exit 8 => [7, 8, 10, 12, 21, 24]
 | _ => []
theorem bd_oc : Try.f6.body = some (root 6) := by kernel_rfl
theorem le_oc : (loops (root 6))[4]? = some (lp 6 4) := by kernel_rfl
theorem li_oc : Lies (root 6) 5 (lp 6 4) := Lies.of_take (n := 0) (by kernel_rfl)
def st_oc (c : Int) (ds : List Int) (rs : List (Ty.den retT)) (p : List Int) (s cc : Int) (n : List Int) (a : Bool) (k : Int) : St := hp_oc.st ⟨((), p, s, cc, n, a, k, ()), ((c, ds, rs, ()), ()), ()⟩
noncomputable def rn_oc (c : Int) (ds : List Int) (rs : List (Ty.den retT)) (p : List Int) (s cc : Int) (n : List Int) (a : Bool) (k : Int) := outa lve_oc (evCK Try.prog Γ (cfM Try.prog Γ cfg35 30) (cfg35.lo 6) [24] 60 5 (lp 6 4) (st_oc c ds rs p s cc n a k))
theorem rn_oc_eq (c : Int) (ds : List Int) (rs : List (Ty.den retT)) (p : List Int) (s cc : Int) (n : List Int) (a : Bool) (k : Int) : (rn_oc c ds rs p s cc n a k).run = (bif decide (k < (p.length : Int)) then (bif (some (a || decide ((0 : Int) ≤ k ∧ k < (p.length : Int)))).getD true then (some ((Ex.normal, [V.ptr 0 0, V.slst .ro ity p, V.si .i64 s, V.si .i64 cc, V.slst .ro ity n, V.sb (bif a then true else p.getD k.toNat (0 : Int) == cc), V.si .i64 (IntKind.i64.wrap (k + (1 : Int)))], [some [V.si .i64 c, V.slst .ro ity ds, V.slst .ro retT rs]], [], 215, 0, 0))) else none) else (some ((Ex.exit 8, [V.ptr 0 0, V.slst .ro ity p, V.si .i64 s, V.si .i64 cc, V.slst .ro ity n, V.sb a], [some [V.si .i64 c, V.slst .ro ity ds, V.slst .ro retT rs]], [], 215, 0, 0)))) := by kernel_rfl
theorem rn_oc_c (c : Int) (ds : List Int) (rs : List (Ty.den retT)) (p : List Int) (s cc : Int) (n : List Int) (a : Bool) (k : Int) {e : Ex} {vs : List V} {ob : Ob} {nm : Nm} {n' kh kt : Nat} (h : (rn_oc c ds rs p s cc n a k).run = some (e, vs, ob, nm, n', kh, kt)) : SemC Try.prog Γ (lp 6 4) (st_oc c ds rs p s cc n a k) e.to (St.of n' (lve_oc e) vs ob nm kh kt) := SemC.of_evM cfg35_ok Try.func6 bd_oc li_oc h
def hp_ob : HP := { n := 215, lv := [7, 8, 10, 12, 21, 24, 26, 27], sp := [.ptr 0 0, .ty (.slice ity), .ty ity, .ty ity, .ty (.slice ity), .ty .bool, .ty .bool, .ty ity], op := [.cells [.ty ity, .ty (.slice ity), .ty (.slice retT)]], bp := [] }
def lve_ob : Ex → List Nat
 | .normal => [7, 8, 10, 12, 21, 24, 26, 27]
 | .exit 10 => [7, 8, 10, 12, 24, 26]
 | _ => []
theorem bd_ob : Try.f6.body = some (root 6) := by kernel_rfl
theorem le_ob : (loops (root 6))[5]? = some (lp 6 5) := by kernel_rfl
theorem li_ob : Lies (root 6) 6 (lp 6 5) := Lies.of_take (n := 0) (by kernel_rfl)
def st_ob (c : Int) (ds : List Int) (rs : List (Ty.den retT)) (p : List Int) (s cc : Int) (n : List Int) (a b : Bool) (k : Int) : St := hp_ob.st ⟨((), p, s, cc, n, a, b, k, ()), ((c, ds, rs, ()), ()), ()⟩
noncomputable def rn_ob (c : Int) (ds : List Int) (rs : List (Ty.den retT)) (p : List Int) (s cc : Int) (n : List Int) (a b : Bool) (k : Int) := outa lve_ob (evCK Try.prog Γ (cfM Try.prog Γ cfg35 30) (cfg35.lo 6) [26] 60 6 (lp 6 5) (st_ob c ds rs p s cc n a b k))
theorem rn_ob_eq (c : Int) (ds : List Int) (rs : List (Ty.den retT)) (p : List Int) (s cc : Int) (n : List Int) (a b : Bool) (k : Int) : (rn_ob c ds rs p s cc n a b k).run = (bif decide (k < (n.length : Int)) then (bif (some (!b || decide ((0 : Int) ≤ cc ∧ cc < (n.length : Int)) && decide ((0 : Int) ≤ k ∧ k < (n.length : Int)))).getD true then (some ((Ex.normal, [V.ptr 0 0, V.slst .ro ity p, V.si .i64 s, V.si .i64 cc, V.slst .ro ity n, V.sb a, V.sb (bif b then decide (n.getD cc.toNat (0 : Int) ≥ n.getD k.toNat (0 : Int)) else false), V.si .i64 (IntKind.i64.wrap (k + (1 : Int)))], [some [V.si .i64 c, V.slst .ro ity ds, V.slst .ro retT rs]], [], 215, 0, 0))) else none) else (some ((Ex.exit 10, [V.ptr 0 0, V.slst .ro ity p, V.si .i64 s, V.si .i64 cc, V.sb a, V.sb b], [some [V.si .i64 c, V.slst .ro ity ds, V.slst .ro retT rs]], [], 215, 0, 0)))) := by kernel_rfl
theorem rn_ob_c (c : Int) (ds : List Int) (rs : List (Ty.den retT)) (p : List Int) (s cc : Int) (n : List Int) (a b : Bool) (k : Int) {e : Ex} {vs : List V} {ob : Ob} {nm : Nm} {n' kh kt : Nat} (h : (rn_ob c ds rs p s cc n a b k).run = some (e, vs, ob, nm, n', kh, kt)) : SemC Try.prog Γ (lp 6 5) (st_ob c ds rs p s cc n a b k) e.to (St.of n' (lve_ob e) vs ob nm kh kt) := SemC.of_evM cfg35_ok Try.func6 bd_ob li_ob h
abbrev okO9 (o : List R1) : Prop := o.length ≤ 1000 ∧ ∀ r ∈ o, (rV r).length ≤ 1000 ∧ 0 ≤ rN r ∧ rN r ≤ 900
abbrev pre_ol0 (rs : List R1) (j : Nat) (k : Int) (b : List Int) : Prop := k = 0 ∧ j = b.length ∧ okO9 rs
abbrev pre_ol (c : Int) (ds : List Int) (rs : List (Ty.den retT)) (c2 : Int) (ds2 : List Int) (o : List (Ty.den retT)) (p : List Int) (s cc d q n : Int) (j : Nat) (lf k : Int) (b : List Int) : Prop := pre_ol0 rs j k b
def rs_ol (c : Int) (ds : List Int) (rs : List (Ty.den retT)) (c2 : Int) (ds2 : List Int) (o : List (Ty.den retT)) (p : List Int) (s cc d q n : Int) (j : Nat) (lf k : Int) (b : List Int) : Ex × St := (.exit 4, St.of 215 (lve_ol (.exit 4)) [.ptr 0 0, .slst .ro ity p, .si .i64 s, .si .i64 cc, .ptr 1 0, .si .i64 d, .ptr 2 0, .si .i64 lf] [some [.si .i64 c, .slst .ro ity ds, .slst .ro retT rs], some [.si .i64 c2, .slst .ro ity ds2, .slst .ro retT o], some [.si .i64 q, .si .i64 (nvT rs d n b rs.length).1, .bs true 0 0 (nvT rs d n b rs.length).2.length]] [some (.live (.arr ity (nvT rs d n b rs.length).2))] hp_ol.kh hp_ol.kt)
def res_ol (c : Int) (ds : List Int) (rs : List (Ty.den retT)) (c2 : Int) (ds2 : List Int) (o : List (Ty.den retT)) (p : List Int) (s cc d q n : Int) (j : Nat) (lf k : Int) (b : List Int) : Tr (Ex × St) := .br (decide (pre_ol c ds rs c2 ds2 o p s cc d q n j lf k b)) (.leaf (some (.exit 4, St.of 215 (lve_ol (.exit 4)) [.ptr 0 0, .slst .ro ity p, .si .i64 s, .si .i64 cc, .ptr 1 0, .si .i64 d, .ptr 2 0, .si .i64 lf] [some [.si .i64 c, .slst .ro ity ds, .slst .ro retT rs], some [.si .i64 c2, .slst .ro ity ds2, .slst .ro retT o], some [.si .i64 q, .si .i64 (nvT rs d n b rs.length).1, .bs true 0 0 (nvT rs d n b rs.length).2.length]] [some (.live (.arr ity (nvT rs d n b rs.length).2))] hp_ol.kh hp_ol.kt))) (.leaf none)
def ent_ol : LEnt := LEnt.by hp_ol fun ⟨(_, p, s, cc, _, d, _, lf, k, _), ((c, ds, rs, _), (c2, ds2, o, _), (q, n, j, _), _), (b, _)⟩ => res_ol c ds rs c2 ds2 o p s cc d q n j lf k b
theorem ent_ol_ok (hgo : ∀ (c : Int) (ds : List Int) (rs : List (Ty.den retT)) (c2 : Int) (ds2 : List Int) (o : List (Ty.den retT)) (p : List Int) (s cc d q n : Int) (j : Nat) (lf k : Int) (b : List Int), pre_ol c ds rs c2 ds2 o p s cc d q n j lf k b → SemL Try.prog Γ (lp 6 2) (st_ol c ds rs c2 ds2 o p s cc d q n j lf k b) (rs_ol c ds rs c2 ds2 o p s cc d q n j lf k b).1.to (rs_ol c ds rs c2 ds2 o p s cc d q n j lf k b).2) : EntOk Try.prog Γ (lp 6 2) ent_ol := LEnt.by_ok fun ⟨(_, p, s, cc, _, d, _, lf, k, _), ((c, ds, rs, _), (c2, ds2, o, _), (q, n, j, _), _), (b, _)⟩ _ _ h_ => SemL.br (out := rs_ol c ds rs c2 ds2 o p s cc d q n j lf k b) rfl (hgo c ds rs c2 ds2 o p s cc d q n j lf k b) h_
theorem nxt_small {n : Int} (h : n ≤ 900) : nxt n = n + 1 := by unfold nxt; rw [if_pos (by omega)]
theorem ol_go (c : Int) (ds : List Int) (rs : List (Ty.den retT)) (c2 : Int) (ds2 : List Int) (o : List (Ty.den retT)) (p : List Int) (s cc d q n : Int) (j : Nat) (lf k : Int) (b : List Int) (h : pre_ol c ds rs c2 ds2 o p s cc d q n j lf k b) : SemL Try.prog Γ (lp 6 2) (st_ol c ds rs c2 ds2 o p s cc d q n j lf k b) (rs_ol c ds rs c2 ds2 o p s cc d q n j lf k b).1.to (rs_ol c ds rs c2 ds2 o p s cc d q n j lf k b).2 := by
 obtain ⟨rfl, rfl, hol, ho⟩ := h
 refine SemL.scan rs.length 0 (Nat.zero_le _) (fun k => st_ol c ds rs c2 ds2 o p s cc d q (nvT rs d n b k).1 (nvT rs d n b k).2.length lf (k : Nat) (nvT rs d n b k).2) (fun _ => true) _ ?_ ?_ ?_
 · intro k _ hk _ _
   obtain ⟨h1, h2, h3⟩ := ho _ (getD_mem retT.dflt hk)
   have hb : (0 : Int) ≤ (k : Int) ∧ (k : Int) < (Nat.cast rs.length : Int) := by omega
   refine rn_ol_c c ds rs c2 ds2 o p s cc d q _ _ lf k _ (e := .normal) ?_
   rw [rn_ol_eq, wrap_succ hk (by omega), decide_eq_true hb.2, decide_eq_true hb, Int.toNat_natCast, decide_eq_true (by omega : (rV (rs.getD k retT.dflt)).length * 2 * 8 ≤ 281474976710656), wrap_in (n := rN (rs.getD k retT.dflt) + 1) (by omega) (by omega), nvT_next, nxt_small h3]
   cases rD (rs.getD k retT.dflt) == d <;> rfl
 · intro k _ _ _ hp
   cases hp
 · intro _
   unfold rs_ol
   refine ⟨by simp [Ex.to], rn_ol_c c ds rs c2 ds2 o p s cc d q _ _ lf rs.length _ (e := .exit 4) ?_⟩
   rw [rn_ol_eq, decide_eq_false (by omega)]
   rfl
abbrev pre_o3 (c : Int) (ds : List Int) (rs : List (Ty.den retT)) (c2 : Int) (ds2 : List Int) (o : List (Ty.den retT)) (p : List Int) (s cc d q n : Int) (j : Nat) (lf k : Int) (b : List Int) : Prop := pre_m20 j lf k b
def rs_o3 (c : Int) (ds : List Int) (rs : List (Ty.den retT)) (c2 : Int) (ds2 : List Int) (o : List (Ty.den retT)) (p : List Int) (s cc d q n : Int) (j : Nat) (lf k : Int) (b : List Int) : Ex × St := (.exit 6, St.of 215 (lve_o3 (.exit 6)) [.ptr 0 0, .slst .ro ity p, .si .i64 s, .si .i64 cc, .ptr 1 0, .si .i64 d, .ptr 2 0, .si .i64 (lf - b.sum)] [some [.si .i64 c, .slst .ro ity ds, .slst .ro retT rs], some [.si .i64 c2, .slst .ro ity ds2, .slst .ro retT o], some [.si .i64 q, .si .i64 n, .bs true 0 0 j]] [some (.live (.arr ity b))] hp_o3.kh hp_o3.kt)
def res_o3 (c : Int) (ds : List Int) (rs : List (Ty.den retT)) (c2 : Int) (ds2 : List Int) (o : List (Ty.den retT)) (p : List Int) (s cc d q n : Int) (j : Nat) (lf k : Int) (b : List Int) : Tr (Ex × St) := .br (decide (pre_o3 c ds rs c2 ds2 o p s cc d q n j lf k b)) (.leaf (some (.exit 6, St.of 215 (lve_o3 (.exit 6)) [.ptr 0 0, .slst .ro ity p, .si .i64 s, .si .i64 cc, .ptr 1 0, .si .i64 d, .ptr 2 0, .si .i64 (lf - b.sum)] [some [.si .i64 c, .slst .ro ity ds, .slst .ro retT rs], some [.si .i64 c2, .slst .ro ity ds2, .slst .ro retT o], some [.si .i64 q, .si .i64 n, .bs true 0 0 j]] [some (.live (.arr ity b))] hp_o3.kh hp_o3.kt))) (.leaf none)
def ent_o3 : LEnt := LEnt.by hp_o3 fun ⟨(_, p, s, cc, _, d, _, lf, k, _), ((c, ds, rs, _), (c2, ds2, o, _), (q, n, j, _), _), (b, _)⟩ => res_o3 c ds rs c2 ds2 o p s cc d q n j lf k b
theorem ent_o3_ok (hgo : ∀ (c : Int) (ds : List Int) (rs : List (Ty.den retT)) (c2 : Int) (ds2 : List Int) (o : List (Ty.den retT)) (p : List Int) (s cc d q n : Int) (j : Nat) (lf k : Int) (b : List Int), pre_o3 c ds rs c2 ds2 o p s cc d q n j lf k b → SemL Try.prog Γ (lp 6 3) (st_o3 c ds rs c2 ds2 o p s cc d q n j lf k b) (rs_o3 c ds rs c2 ds2 o p s cc d q n j lf k b).1.to (rs_o3 c ds rs c2 ds2 o p s cc d q n j lf k b).2) : EntOk Try.prog Γ (lp 6 3) ent_o3 := LEnt.by_ok fun ⟨(_, p, s, cc, _, d, _, lf, k, _), ((c, ds, rs, _), (c2, ds2, o, _), (q, n, j, _), _), (b, _)⟩ _ _ h_ => SemL.br (out := rs_o3 c ds rs c2 ds2 o p s cc d q n j lf k b) rfl (hgo c ds rs c2 ds2 o p s cc d q n j lf k b) h_
theorem o3_go (c : Int) (ds : List Int) (rs : List (Ty.den retT)) (c2 : Int) (ds2 : List Int) (o : List (Ty.den retT)) (p : List Int) (s cc d q n : Int) (j : Nat) (lf k : Int) (b : List Int) (h : pre_o3 c ds rs c2 ds2 o p s cc d q n j lf k b) : SemL Try.prog Γ (lp 6 3) (st_o3 c ds rs c2 ds2 o p s cc d q n j lf k b) (rs_o3 c ds rs c2 ds2 o p s cc d q n j lf k b).1.to (rs_o3 c ds rs c2 ds2 o p s cc d q n j lf k b).2 := by
 obtain ⟨rfl, rfl, hl, hn, ha⟩ := h
 have e0 : lf = lf - (b.take 0).sum := by simp
 have key : SemL Try.prog Γ (lp 6 3) (st_o3 c ds rs c2 ds2 o p s cc d q n b.length (lf - (b.take 0).sum) ((0 : Nat) : Int) b) (rs_o3 c ds rs c2 ds2 o p s cc d q n b.length lf 0 b).1.to (rs_o3 c ds rs c2 ds2 o p s cc d q n b.length lf 0 b).2 := by
  refine SemL.scan b.length 0 (Nat.zero_le _) (fun k => st_o3 c ds rs c2 ds2 o p s cc d q n b.length (lf - (b.take k).sum) (k : Nat) b) (fun _ => true) _ ?_ ?_ ?_
  · intro k _ hk _ _
    have h1 := sum_bnd_take (by omega) hn k (by omega)
    have h2 := hn _ (getD_mem 0 hk)
    refine rn_o3_c c ds rs c2 ds2 o p s cc d q n _ _ k _ (e := .normal) ?_
    rw [rn_o3_eq, wrap_succ hk (by omega), decide_eq_true (by omega : (k : Int) < (Nat.cast b.length : Int)), decide_eq_true (by omega : (0 : Int) ≤ (k : Int) ∧ (k : Int) < (Nat.cast b.length : Int)), Int.toNat_natCast, Nat.zero_add, decide_eq_true hk, wrap_in (n := lf - (b.take k).sum - b.getD k 0) (by omega) (by omega), show lf - (b.take k).sum - b.getD k 0 = lf - (b.take (k + 1)).sum by rw [sum_take hk]; omega]
    rfl
  · intro k _ _ _ hp
    cases hp
  · intro _
    unfold rs_o3
    refine ⟨by simp [Ex.to], rn_o3_c c ds rs c2 ds2 o p s cc d q n _ _ b.length _ (e := .exit 6) ?_⟩
    rw [rn_o3_eq, decide_eq_false (by omega), List.take_length]
    rfl
 rwa [← e0] at key
def hasB (p : List Int) (cc : Int) : Bool := p.any fun z => z == cc
theorem has_next {p : List Int} {cc : Int} {k : Nat} (h : k < p.length) : hasB (p.take (k + 1)) cc = (hasB (p.take k) cc || p.getD k 0 == cc) := by
 unfold hasB; rw [take_snoc 0 h, List.any_append]; simp
abbrev pre_oc0 (p : List Int) (a : Bool) (k : Int) : Prop := k = 0 ∧ a = false ∧ p.length ≤ 1000
abbrev pre_oc (c : Int) (ds : List Int) (rs : List (Ty.den retT)) (p : List Int) (s cc : Int) (n : List Int) (a : Bool) (k : Int) : Prop := pre_oc0 p a k
def rs_oc (c : Int) (ds : List Int) (rs : List (Ty.den retT)) (p : List Int) (s cc : Int) (n : List Int) (a : Bool) (k : Int) : Ex × St := (.exit 8, St.of 215 (lve_oc (.exit 8)) [.ptr 0 0, .slst .ro ity p, .si .i64 s, .si .i64 cc, .slst .ro ity n, .sb (hasB p cc)] [some [.si .i64 c, .slst .ro ity ds, .slst .ro retT rs]] [] hp_oc.kh hp_oc.kt)
def res_oc (c : Int) (ds : List Int) (rs : List (Ty.den retT)) (p : List Int) (s cc : Int) (n : List Int) (a : Bool) (k : Int) : Tr (Ex × St) := .br (decide (pre_oc c ds rs p s cc n a k)) (.leaf (some (.exit 8, St.of 215 (lve_oc (.exit 8)) [.ptr 0 0, .slst .ro ity p, .si .i64 s, .si .i64 cc, .slst .ro ity n, .sb (hasB p cc)] [some [.si .i64 c, .slst .ro ity ds, .slst .ro retT rs]] [] hp_oc.kh hp_oc.kt))) (.leaf none)
def ent_oc : LEnt := LEnt.by hp_oc fun ⟨(_, p, s, cc, n, a, k, _), ((c, ds, rs, _), _), _⟩ => res_oc c ds rs p s cc n a k
theorem ent_oc_ok (hgo : ∀ (c : Int) (ds : List Int) (rs : List (Ty.den retT)) (p : List Int) (s cc : Int) (n : List Int) (a : Bool) (k : Int), pre_oc c ds rs p s cc n a k → SemL Try.prog Γ (lp 6 4) (st_oc c ds rs p s cc n a k) (rs_oc c ds rs p s cc n a k).1.to (rs_oc c ds rs p s cc n a k).2) : EntOk Try.prog Γ (lp 6 4) ent_oc := LEnt.by_ok fun ⟨(_, p, s, cc, n, a, k, _), ((c, ds, rs, _), _), _⟩ _ _ h_ => SemL.br (out := rs_oc c ds rs p s cc n a k) rfl (hgo c ds rs p s cc n a k) h_
theorem oc_go (c : Int) (ds : List Int) (rs : List (Ty.den retT)) (p : List Int) (s cc : Int) (n : List Int) (a : Bool) (k : Int) (h : pre_oc c ds rs p s cc n a k) : SemL Try.prog Γ (lp 6 4) (st_oc c ds rs p s cc n a k) (rs_oc c ds rs p s cc n a k).1.to (rs_oc c ds rs p s cc n a k).2 := by
 obtain ⟨rfl, rfl, hl⟩ := h
 refine SemL.scan p.length 0 (Nat.zero_le _) (fun k => st_oc c ds rs p s cc n (hasB (p.take k) cc) (k : Nat)) (fun _ => true) _ ?_ ?_ ?_
 · intro k _ hk _ _
   refine rn_oc_c c ds rs p s cc n _ k (e := .normal) ?_
   rw [rn_oc_eq, wrap_succ hk (by omega), decide_eq_true (by omega : (k : Int) < (Nat.cast p.length : Int)), decide_eq_true (by omega : (0 : Int) ≤ (k : Int) ∧ (k : Int) < (Nat.cast p.length : Int)), Int.toNat_natCast, has_next hk]
   cases hasB (p.take k) cc <;> rfl
 · intro k _ _ _ hp
   cases hp
 · intro _
   unfold rs_oc
   refine ⟨by simp [Ex.to], rn_oc_c c ds rs p s cc n _ p.length (e := .exit 8) ?_⟩
   rw [rn_oc_eq, decide_eq_false (by omega), List.take_length]
   rfl
def bestB (n : List Int) (v : Int) : Bool := n.all fun z => decide (v ≥ z)
theorem best_next {n : List Int} {v : Int} {k : Nat} (h : k < n.length) : bestB (n.take (k + 1)) v = (bestB (n.take k) v && decide (v ≥ n.getD k 0)) := by
 unfold bestB; rw [take_snoc 0 h, List.all_append]; simp
abbrev pre_ob0 (n : List Int) (cc : Int) (b : Bool) (k : Int) : Prop := k = 0 ∧ b = true ∧ n.length ≤ 1000 ∧ 0 ≤ cc ∧ cc < (n.length : Int)
abbrev pre_ob (c : Int) (ds : List Int) (rs : List (Ty.den retT)) (p : List Int) (s cc : Int) (n : List Int) (a b : Bool) (k : Int) : Prop := pre_ob0 n cc b k
def rs_ob (c : Int) (ds : List Int) (rs : List (Ty.den retT)) (p : List Int) (s cc : Int) (n : List Int) (a b : Bool) (k : Int) : Ex × St := (.exit 10, St.of 215 (lve_ob (.exit 10)) [.ptr 0 0, .slst .ro ity p, .si .i64 s, .si .i64 cc, .sb a, .sb (bestB n (n.getD cc.toNat 0))] [some [.si .i64 c, .slst .ro ity ds, .slst .ro retT rs]] [] hp_ob.kh hp_ob.kt)
def res_ob (c : Int) (ds : List Int) (rs : List (Ty.den retT)) (p : List Int) (s cc : Int) (n : List Int) (a b : Bool) (k : Int) : Tr (Ex × St) := .br (decide (pre_ob c ds rs p s cc n a b k)) (.leaf (some (.exit 10, St.of 215 (lve_ob (.exit 10)) [.ptr 0 0, .slst .ro ity p, .si .i64 s, .si .i64 cc, .sb a, .sb (bestB n (n.getD cc.toNat 0))] [some [.si .i64 c, .slst .ro ity ds, .slst .ro retT rs]] [] hp_ob.kh hp_ob.kt))) (.leaf none)
def ent_ob : LEnt := LEnt.by hp_ob fun ⟨(_, p, s, cc, n, a, b, k, _), ((c, ds, rs, _), _), _⟩ => res_ob c ds rs p s cc n a b k
theorem ent_ob_ok (hgo : ∀ (c : Int) (ds : List Int) (rs : List (Ty.den retT)) (p : List Int) (s cc : Int) (n : List Int) (a b : Bool) (k : Int), pre_ob c ds rs p s cc n a b k → SemL Try.prog Γ (lp 6 5) (st_ob c ds rs p s cc n a b k) (rs_ob c ds rs p s cc n a b k).1.to (rs_ob c ds rs p s cc n a b k).2) : EntOk Try.prog Γ (lp 6 5) ent_ob := LEnt.by_ok fun ⟨(_, p, s, cc, n, a, b, k, _), ((c, ds, rs, _), _), _⟩ _ _ h_ => SemL.br (out := rs_ob c ds rs p s cc n a b k) rfl (hgo c ds rs p s cc n a b k) h_
theorem ob_go (c : Int) (ds : List Int) (rs : List (Ty.den retT)) (p : List Int) (s cc : Int) (n : List Int) (a b : Bool) (k : Int) (h : pre_ob c ds rs p s cc n a b k) : SemL Try.prog Γ (lp 6 5) (st_ob c ds rs p s cc n a b k) (rs_ob c ds rs p s cc n a b k).1.to (rs_ob c ds rs p s cc n a b k).2 := by
 obtain ⟨rfl, rfl, hl, hc⟩ := h
 refine SemL.scan n.length 0 (Nat.zero_le _) (fun k => st_ob c ds rs p s cc n a (bestB (n.take k) (n.getD cc.toNat 0)) (k : Nat)) (fun _ => true) _ ?_ ?_ ?_
 · intro k _ hk _ _
   refine rn_ob_c c ds rs p s cc n a _ k (e := .normal) ?_
   rw [rn_ob_eq, wrap_succ hk (by omega), decide_eq_true (by omega : (k : Int) < (Nat.cast n.length : Int)), decide_eq_true (by omega : (0 : Int) ≤ (k : Int) ∧ (k : Int) < (Nat.cast n.length : Int)), decide_eq_true (by omega : (0 : Int) ≤ cc ∧ cc < (Nat.cast n.length : Int)), Int.toNat_natCast, best_next hk]
   cases bestB (n.take k) (n.getD cc.toNat 0) <;> rfl
 · intro k _ _ _ hp
   cases hp
 · intro _
   unfold rs_ob
   refine ⟨by simp [Ex.to], rn_ob_c c ds rs p s cc n a _ n.length (e := .exit 10) ?_⟩
   rw [rn_ob_eq, decide_eq_false (by omega), List.take_length]
   rfl
def lo37 : LOrc := (LOrc.add (LOrc.add (LOrc.add (LOrc.add lo35 6 2 ent_ol) 6 3 ent_o3) 6 4 ent_oc) 6 5 ent_ob)
theorem lo37_ok : LOrcOk Try.prog Γ lo37 := (LOrcOk.add (LOrcOk.add (LOrcOk.add (LOrcOk.add lo35_ok 6 2 Try.func6 bd_ol le_ol (ent_ol_ok ol_go)) 6 3 Try.func6 bd_o3 le_o3 (ent_o3_ok o3_go)) 6 4 Try.func6 bd_oc le_oc (ent_oc_ok oc_go)) 6 5 Try.func6 bd_ob le_ob (ent_ob_ok ob_go))
noncomputable def cfg37 : Cfg := cfgQ o38 lo37
theorem cfg37_ok : CfgOk Try.prog Γ cfg37 := cfgQ_ok o38_ok lo37_ok
end T
end Go.Proofs.Ytofbchcclkejgaa

/- Package tally: TallyOpen: the loop over the districts: pieces. -/
set_option linter.unusedVariables false
set_option linter.unusedSimpArgs false
set_option maxRecDepth 100000
set_option maxHeartbeats 4000000
namespace Go.Proofs.Ytofbchcclkejgaa
open Go
namespace T
theorem bd6 : Try.f6.body = some (root 6) := by kernel_rfl
noncomputable def og : Code := lp 6 1
noncomputable def ogA : Code := cA og
noncomputable def ogI : Code := cK (cA (cB og))
noncomputable def ogP (k : Nat) : Code := cA (tlN k ogI)
noncomputable def ogK : Code := cB (cB og)
theorem og_eq : og = .seq ogA (.seq (.block 3 (.seq (ogP 0) (.seq (ogP 1) (.seq (ogP 2) (.seq (ogP 3) (.seq (ogP 4) (.seq (ogP 5) (.seq (ogP 6) (tlN 7 ogI))))))))) ogK) := by kernel_rfl
def gS (c : Int) (ds : List Int) (rs o : List R1) (p : List Int) (s cc d : Int) : St := St.of 215 [7, 8, 10, 12, 13, 14] [.ptr 0 0, .slst .ro ity p, .si .i64 s, .si .i64 cc, .ptr 1 0, .si .i64 d] [oT3 c ds rs, oT3 c ds o] []
theorem ogA_eq (c : Int) (ds : List Int) (rs o : List R1) (p : List Int) (s cc d : Int) : (pc 6 2 cfg37 ogA [7, 8, 10, 12, 13, 14] [7, 8, 10, 12, 13] (gS c ds rs o p s cc d)).run = (bif decide (d < (Nat.cast (ds.length) : Int)) then (some ((Ex.normal, [V.ptr (0 : Nat) (0 : Nat), V.slst Tag.ro ity p, V.si IntKind.i64 s, V.si IntKind.i64 cc, V.ptr (1 : Nat) (0 : Nat), V.si IntKind.i64 d], [some [V.si IntKind.i64 c, V.slst Tag.ro ity ds, V.slst Tag.ro retT rs], some [V.si IntKind.i64 c, V.slst Tag.ro ity ds, V.slst Tag.ro retT o]], [], (215 : Nat), (0 : Nat), (0 : Nat)))) else (some ((Ex.exit (2 : Nat), [V.ptr (0 : Nat) (0 : Nat), V.slst Tag.ro ity p, V.si IntKind.i64 s, V.si IntKind.i64 cc, V.ptr (1 : Nat) (0 : Nat)], [some [V.si IntKind.i64 c, V.slst Tag.ro ity ds, V.slst Tag.ro retT rs], some [V.si IntKind.i64 c, V.slst Tag.ro ity ds, V.slst Tag.ro retT o]], [], (215 : Nat), (0 : Nat), (0 : Nat))))) := by kernel_rfl
theorem og0_eq (c : Int) (ds : List Int) (rs o : List R1) (p : List Int) (s cc d : Int) : (pc 6 2 cfg37 (ogP 0) [7, 8, 10, 12, 13, 14, 15] [] (gS c ds rs o p s cc d)).run = (bif decide ((0 : Int) ≤ c ∧ c ≤ c ∧ (8 : Int) * c ≤ (281474976710656 : Int) ∧ c ≤ (9223372036854775807 : Int)) then (some ((Ex.normal, [V.ptr (0 : Nat) (0 : Nat), V.slst Tag.ro ity p, V.si IntKind.i64 s, V.si IntKind.i64 cc, V.ptr (1 : Nat) (0 : Nat), V.si IntKind.i64 d, V.ptr (2 : Nat) (0 : Nat)], [some [V.si IntKind.i64 c, V.slst Tag.ro ity ds, V.slst Tag.ro retT rs], some [V.si IntKind.i64 c, V.slst Tag.ro ity ds, V.slst Tag.ro retT o], some [V.si IntKind.i64 d, V.i IntKind.i64 (1 : Int), V.bs true (0 : Nat) (0 : Nat) c.toNat]], [some (Bf.live (BC.arr (Ty.int IntKind.i64) (List.replicate c.toNat (0 : Int))))], (215 : Nat), (0 : Nat), (0 : Nat)))) else none) := by kernel_rfl
theorem og1_eq (c : Int) (ds : List Int) (rs o : List R1) (p : List Int) (s cc d : Int) (j : Nat) (b : List Int) : (pc 6 2 cfg37 (ogP 1) [7, 8, 10, 12, 13, 14, 15, 16] [] (St.of 215 [7, 8, 10, 12, 13, 14, 15] [.ptr 0 0, .slst .ro ity p, .si .i64 s, .si .i64 cc, .ptr 1 0, .si .i64 d, .ptr 2 0] [oT3 c ds rs, oT3 c ds o, some [.si .i64 d, .i .i64 1, .bs true 0 0 j]] [some (.live (.arr ity b))])).run = (bif decide ((0 : Int) ≤ d ∧ d < (Nat.cast (ds.length) : Int)) then (some ((Ex.normal, [V.ptr (0 : Nat) (0 : Nat), V.slst Tag.ro ity p, V.si IntKind.i64 s, V.si IntKind.i64 cc, V.ptr (1 : Nat) (0 : Nat), V.si IntKind.i64 d, V.ptr (2 : Nat) (0 : Nat), V.si IntKind.i64 (ds.getD d.toNat (0 : Int))], [some [V.si IntKind.i64 c, V.slst Tag.ro ity ds, V.slst Tag.ro retT rs], some [V.si IntKind.i64 c, V.slst Tag.ro ity ds, V.slst Tag.ro retT o], some [V.si IntKind.i64 d, V.i IntKind.i64 (1 : Int), V.bs true (0 : Nat) (0 : Nat) j]], [some (Bf.live (BC.arr ity b))], (215 : Nat), (0 : Nat), (0 : Nat)))) else none) := by kernel_rfl
theorem og2_eq (c : Int) (ds : List Int) (rs o : List R1) (p : List Int) (s cc d : Int) (lf : Int) (j : Nat) (b : List Int) : (pc 6 2 cfg37 (ogP 2) [7, 8, 10, 12, 13, 14, 15, 16] [] (St.of 215 [7, 8, 10, 12, 13, 14, 15, 16] [.ptr 0 0, .slst .ro ity p, .si .i64 s, .si .i64 cc, .ptr 1 0, .si .i64 d, .ptr 2 0, .si .i64 lf] [oT3 c ds rs, oT3 c ds o, some [.si .i64 d, .i .i64 1, .bs true 0 0 j]] [some (.live (.arr ity b))])).run = (bif decide (pre_ol c ds rs c ds o p s cc d d (1 : Int) j lf (0 : Int) b) then (some ((Ex.normal, [V.ptr (0 : Nat) (0 : Nat), V.slst Tag.ro ity p, V.si IntKind.i64 s, V.si IntKind.i64 cc, V.ptr (1 : Nat) (0 : Nat), V.si IntKind.i64 d, V.ptr (2 : Nat) (0 : Nat), V.si IntKind.i64 lf], [some [V.si IntKind.i64 c, V.slst Tag.ro ity ds, V.slst Tag.ro retT rs], some [V.si IntKind.i64 c, V.slst Tag.ro ity ds, V.slst Tag.ro retT o], some [V.si IntKind.i64 d, V.si IntKind.i64 (nvT rs d (1 : Int) b rs.length).fst, V.bs true (0 : Nat) (0 : Nat) (nvT rs d (1 : Int) b rs.length).snd.length]], [some (Bf.live (BC.arr ity (nvT rs d (1 : Int) b rs.length).snd))], (215 : Nat), (0 : Nat), (0 : Nat)))) else none) := by kernel_rfl
theorem og3_eq (c : Int) (ds : List Int) (rs o : List R1) (p : List Int) (s cc d : Int) (lf n : Int) (b : List Int) : (pc 6 3 cfg37 (ogP 3) [7, 8, 10, 12, 13, 14, 15, 16] [] (St.of 215 [7, 8, 10, 12, 13, 14, 15, 16] [.ptr 0 0, .slst .ro ity p, .si .i64 s, .si .i64 cc, .ptr 1 0, .si .i64 d, .ptr 2 0, .si .i64 lf] [oT3 c ds rs, oT3 c ds o, some [.si .i64 d, .si .i64 n, .bs true 0 0 b.length]] [some (.live (.arr ity b))])).run = (bif decide (pre_o3 c ds rs c ds o p s cc d d n b.length lf (0 : Int) b) then (some ((Ex.normal, [V.ptr (0 : Nat) (0 : Nat), V.slst Tag.ro ity p, V.si IntKind.i64 s, V.si IntKind.i64 cc, V.ptr (1 : Nat) (0 : Nat), V.si IntKind.i64 d, V.ptr (2 : Nat) (0 : Nat), V.si IntKind.i64 (lf - b.sum)], [some [V.si IntKind.i64 c, V.slst Tag.ro ity ds, V.slst Tag.ro retT rs], some [V.si IntKind.i64 c, V.slst Tag.ro ity ds, V.slst Tag.ro retT o], some [V.si IntKind.i64 d, V.si IntKind.i64 n, V.bs true (0 : Nat) (0 : Nat) b.length]], [some (Bf.live (BC.arr ity b))], (215 : Nat), (0 : Nat), (0 : Nat)))) else none) := by kernel_rfl
theorem og4_eq (c : Int) (ds : List Int) (rs o : List R1) (p : List Int) (s cc d : Int) (lf n : Int) (b : List Int) : (pc 6 4 cfg37 (ogP 4) [7, 8, 10, 12, 13, 14, 15] [] (St.of 215 [7, 8, 10, 12, 13, 14, 15, 16] [.ptr 0 0, .slst .ro ity p, .si .i64 s, .si .i64 cc, .ptr 1 0, .si .i64 d, .ptr 2 0, .si .i64 lf] [oT3 c ds rs, oT3 c ds o, some [.si .i64 d, .si .i64 n, .bs true 0 0 b.length]] [some (.live (.arr ity b))])).run = (bif decide ((0 : Int) ≤ cc ∧ cc < (Nat.cast (b.length) : Int)) then (bif decide (0 + cc.toNat < b.length) then (bif decide ((0 : Int) ≤ cc ∧ cc < (Nat.cast (b.length) : Int)) then (bif decide (0 + cc.toNat < b.length) then (some ((Ex.normal, [V.ptr (0 : Nat) (0 : Nat), V.slst Tag.ro ity p, V.si IntKind.i64 s, V.si IntKind.i64 cc, V.ptr (1 : Nat) (0 : Nat), V.si IntKind.i64 d, V.ptr (2 : Nat) (0 : Nat)], [some [V.si IntKind.i64 c, V.slst Tag.ro ity ds, V.slst Tag.ro retT rs], some [V.si IntKind.i64 c, V.slst Tag.ro ity ds, V.slst Tag.ro retT o], some [V.si IntKind.i64 d, V.si IntKind.i64 n, V.bs true (0 : Nat) (0 : Nat) b.length]], [some (Bf.live (BC.arr ity (b.set (0 + cc.toNat) (IntKind.i64.wrap (b.getD (0 + cc.toNat) (0 : Int) + lf)))))], (215 : Nat), (0 : Nat), (0 : Nat)))) else none) else none) else none) else none) := by kernel_rfl
theorem og5_eq (c : Int) (ds : List Int) (rs o : List R1) (p : List Int) (s cc d : Int) (n : Int) (b : List Int) : (pc 6 4 cfg37 (ogP 5) [7, 8, 10, 12, 13, 14, 19, 20] [] (St.of 215 [7, 8, 10, 12, 13, 14, 15] [.ptr 0 0, .slst .ro ity p, .si .i64 s, .si .i64 cc, .ptr 1 0, .si .i64 d, .ptr 2 0] [oT3 c ds rs, oT3 c ds o, some [.si .i64 d, .si .i64 n, .slst .ro ity b]] [some .dead])).run = (bif decide (szR o ∧ b.length ≤ 1000000) then (some ((Ex.normal, [V.ptr (0 : Nat) (0 : Nat), V.slst Tag.ro ity p, V.si IntKind.i64 s, V.si IntKind.i64 cc, V.ptr (1 : Nat) (0 : Nat), V.si IntKind.i64 d, V.ptr (2 : Nat) (0 : Nat), V.si IntKind.i64 (bif addOk c ds o d n b then (0 : Int) else (270 : Int))], [some [V.si IntKind.i64 c, V.slst Tag.ro ity ds, V.slst Tag.ro retT rs], some [V.si IntKind.i64 c, V.slst Tag.ro ity ds, V.slst Tag.ro retT o], some [V.si IntKind.i64 (bif addOk c ds o d n b then c else (0 : Int)), V.slst Tag.ro ity (bif addOk c ds o d n b then ds else []), V.slst Tag.ro retT (bif addOk c ds o d n b then joinD o [(d, n, b, ())] else [])]], [], (215 : Nat), (0 : Nat), (0 : Nat)))) else none) := by kernel_rfl
theorem og6_eq (c : Int) (ds : List Int) (rs o : List R1) (p : List Int) (s cc d : Int) (c2 : Int) (ds2 : List Int) (o2 : List R1) (er : Int) : (pc 6 4 cfg37 (ogP 6) [7, 8, 10, 12, 13, 14, 19] [6] (St.of 215 [7, 8, 10, 12, 13, 14, 19, 20] [.ptr 0 0, .slst .ro ity p, .si .i64 s, .si .i64 cc, .ptr 1 0, .si .i64 d, .ptr 2 0, .si .i64 er] [oT3 c ds rs, oT3 c ds o, oT3 c2 ds2 o2] [])).run = (bif er != (0 : Int) then (some ((Ex.ret, [V.b false], [], [], (215 : Nat), (0 : Nat), (0 : Nat)))) else (some ((Ex.normal, [V.ptr (0 : Nat) (0 : Nat), V.slst Tag.ro ity p, V.si IntKind.i64 s, V.si IntKind.i64 cc, V.ptr (1 : Nat) (0 : Nat), V.si IntKind.i64 d, V.ptr (2 : Nat) (0 : Nat)], [some [V.si IntKind.i64 c, V.slst Tag.ro ity ds, V.slst Tag.ro retT rs], some [V.si IntKind.i64 c, V.slst Tag.ro ity ds, V.slst Tag.ro retT o], some [V.si IntKind.i64 c2, V.slst Tag.ro ity ds2, V.slst Tag.ro retT o2]], [], (215 : Nat), (0 : Nat), (0 : Nat))))) := by kernel_rfl
theorem og7_eq (c : Int) (ds : List Int) (rs o : List R1) (p : List Int) (s cc d : Int) (c2 : Int) (ds2 : List Int) (o2 : List R1) : (pc 6 4 cfg37 (tlN 7 ogI) [7, 8, 10, 12, 13, 14] [] (St.of 215 [7, 8, 10, 12, 13, 14, 19] [.ptr 0 0, .slst .ro ity p, .si .i64 s, .si .i64 cc, .ptr 1 0, .si .i64 d, .ptr 2 0] [oT3 c ds rs, oT3 c ds o, oT3 c2 ds2 o2] [])).run = (some ((Ex.normal, [V.ptr (0 : Nat) (0 : Nat), V.slst Tag.ro ity p, V.si IntKind.i64 s, V.si IntKind.i64 cc, V.ptr (1 : Nat) (0 : Nat), V.si IntKind.i64 d], [some [V.si IntKind.i64 c, V.slst Tag.ro ity ds, V.slst Tag.ro retT rs], some [V.si IntKind.i64 c2, V.slst Tag.ro ity ds2, V.slst Tag.ro retT o2]], [], (215 : Nat), (0 : Nat), (0 : Nat)))) := by kernel_rfl
theorem ogK_eq (c : Int) (ds : List Int) (rs o : List R1) (p : List Int) (s cc d : Int) : (pc 6 4 cfg37 ogK [7, 8, 10, 12, 13, 14] [] (gS c ds rs o p s cc d)).run = (some ((Ex.normal, [V.ptr (0 : Nat) (0 : Nat), V.slst Tag.ro ity p, V.si IntKind.i64 s, V.si IntKind.i64 cc, V.ptr (1 : Nat) (0 : Nat), V.si IntKind.i64 (IntKind.i64.wrap (d + (1 : Int)))], [some [V.si IntKind.i64 c, V.slst Tag.ro ity ds, V.slst Tag.ro retT rs], some [V.si IntKind.i64 c, V.slst Tag.ro ity ds, V.slst Tag.ro retT o]], [], (215 : Nat), (0 : Nat), (0 : Nat)))) := by kernel_rfl
end T
end Go.Proofs.Ytofbchcclkejgaa

/- Package tally: who can still win (plain). -/
set_option linter.unusedVariables false
set_option linter.unusedSimpArgs false
set_option maxRecDepth 100000
namespace Go.Proofs.Ytofbchcclkejgaa
open Go
namespace T
def opB (c : Int) (ds : List Int) (rs : List R1) (cc j : Nat) : List Int := (vZ c rs j).set cc ((vZ c rs j).getD cc 0 + (ds.getD j 0 - (vZ c rs j).sum))
def opT (c : Int) (ds : List Int) (rs : List R1) (cc : Nat) : Nat → List R1
 | 0 => rs
 | k + 1 => joinD (opT c ds rs cc k) [mkR (k : Int) (nvT rs k 1 (List.replicate c.toNat 0) rs.length).1 (opB c ds rs cc k)]
theorem opT_next (c : Int) (ds : List Int) (rs : List R1) (cc k : Nat) : opT c ds rs cc (k + 1) = joinD (opT c ds rs cc k) [mkR (k : Int) (nvT rs k 1 (List.replicate c.toNat 0) rs.length).1 (opB c ds rs cc k)] := rfl
theorem opB_ok {c : Int} {ds : List Int} {rs : List R1} (hv : validT c ds rs = true) {cc : Nat} (hcc : (cc : Int) < c) (j : Nat) :
 ((opB c ds rs cc j).length : Int) = c ∧ (∀ x ∈ opB c ds rs cc j, 0 ≤ x) ∧ (opB c ds rs cc j).sum = ds.getD j 0 ∧ ∀ m, (opB c ds rs cc j).getD m 0 = (vAt rs j).getD m 0 + if m = cc then ds.getD j 0 - (vAt rs j).sum else 0 := by
 obtain ⟨n1, n2, n3, n4, n5, n6, n7⟩ := nv_ok hv j
 have hlt : cc < (vZ c rs j).length := by omega
 have hl : (opB c ds rs cc j).length = (vZ c rs j).length := by unfold opB; rw [List.length_set]
 have hg : ∀ m, (opB c ds rs cc j).getD m 0 = (vAt rs j).getD m 0 + if m = cc then ds.getD j 0 - (vAt rs j).sum else 0 := fun m => by
  unfold opB
  rw [getD_set _ hlt]
  by_cases e : m = cc
  · subst e; rw [if_pos rfl, if_pos rfl, n4, n5]
  · rw [if_neg e, if_neg e, n4]; omega
 refine ⟨by rw [hl]; exact n1, nonneg_of_ge hl n2 fun m => ?_, ?_, hg⟩
 · rw [hg m, n4]
   by_cases e : m = cc
   · rw [if_pos e]; omega
   · rw [if_neg e]; omega
 · unfold opB; rw [sum_set _ hlt]; omega
theorem op_pr {c : Int} {ds : List Int} {rs : List R1} (hv : validT c ds rs = true) {cc : Nat} (hcc : (cc : Int) < c) {j : Nat} (hj : j < ds.length) : prR c ds (mkR (j : Int) (nvT rs j 1 (List.replicate c.toNat 0) rs.length).1 (opB c ds rs cc j)) = true := by
 obtain ⟨n1, n2, n3, n4, n5, n6, n7⟩ := nv_ok hv j
 obtain ⟨b1, b2, b3, b4⟩ := opB_ok hv hcc j
 have hdv := (validC_iff.1 (validT_asc.1 hv).1).2.2 _ (getD_mem 0 hj)
 refine properD_iff.2 ⟨by show 0 ≤ (j : Int) ∧ (j : Int) < (ds.length : Int); omega, n6, b1, fun x hx => ⟨b2 x hx, ?_⟩, ?_⟩
 · have := mem_le_sum b2 hx; omega
 · show (opB c ds rs cc j).sum ≤ ds.getD ((j : Int)).toNat 0
   rw [Int.toNat_natCast]; omega
theorem opT_ok {c : Int} {ds : List Int} {rs : List R1} (hv : validT c ds rs = true) (hsm : ∀ r ∈ rs, rN r ≤ 900) {cc : Nat} (hcc : (cc : Int) < c) : ∀ k, k ≤ ds.length →
 validT c ds (opT c ds rs cc k) = true ∧ (∀ j, vAt (opT c ds rs cc k) j = if j < k then opB c ds rs cc j else vAt rs j) ∧ ∀ j, k ≤ j → rN (mapOf (opT c ds rs cc k) j) = rN (mapOf rs j)
 | 0, _ => ⟨hv, fun j => by rw [if_neg (by omega)]; rfl, fun j _ => rfl⟩
 | k + 1, hk => by
  obtain ⟨h1, h2, h3⟩ := opT_ok hv hsm hcc k (by omega)
  have hpr := op_pr hv hcc (show k < ds.length by omega)
  obtain ⟨n1, n2, n3, n4, n5, n6, n7⟩ := nv_ok hv k
  obtain ⟨v1, v2, v3⟩ := step_add h1 hpr fun hp => by
   rw [h3 k (Nat.le_refl _)] at hp
   obtain ⟨g1, g2, g3⟩ := n7 hp
   rw [h3 k (Nat.le_refl _), g1]
   have hs : rN (mapOf rs k) ≤ 900 := by
    rcases best_map (validT_asc.1 hv).2.1 k with ⟨_, e⟩ | ⟨a, _, _⟩
    · rw [e]; show (0 : Int) ≤ 900; omega
    · exact hsm _ a
   rw [nxt_small hs]
   exact .inl (by omega)
  rw [opT_next, joinD_eq]
  refine ⟨v1, fun j => ?_, fun j hj => ?_⟩
  · rw [v2 j]
    by_cases e : j = k
    · subst e; rw [if_pos rfl, if_pos (by omega)]
    · rw [if_neg e, h2 j]
      by_cases e2 : j < k
      · rw [if_pos e2, if_pos (by omega)]
      · rw [if_neg e2, if_neg (by omega)]
  · rw [v3 j, if_neg (by omega)]
    exact h3 j (by omega)
def opF (c : Int) (ds : List Int) (rs : List R1) (cc : Nat) : List R1 := opT c ds rs cc ds.length
theorem vAt_far {c : Int} {ds : List Int} {rs : List R1} (hv : validT c ds rs = true) {j : Nat} (hj : ds.length ≤ j) : vAt rs j = [] := by
 rcases vAt_ok (validT_asc.1 hv).2.1 j with ⟨e, _⟩ | ⟨_, _, _, h⟩
 · exact e
 · omega
theorem getD_far {l : List Int} {j : Nat} (h : l.length ≤ j) : l.getD j 0 = 0 := by simp [List.getD, h]
theorem opF_tot {c : Int} {ds : List Int} {rs : List R1} (hv : validT c ds rs = true) (hsm : ∀ r ∈ rs, rN r ≤ 900) {cc : Nat} (hcc : (cc : Int) < c) :
 validT c ds (opF c ds rs cc) = true ∧ restD ds (opF c ds rs cc) = 0 ∧ ∀ m, (totD c (opF c ds rs cc)).getD m 0 = (totD c rs).getD m 0 + if m = cc then restD ds rs else 0 := by
 obtain ⟨h1, h2, _⟩ := opT_ok hv hsm hcc ds.length (Nat.le_refl _)
 have h1 : validT c ds (opF c ds rs cc) = true := h1
 refine ⟨h1, ?_, fun m => ?_⟩
 · rw [restD_eq h1]
   have : sumJ (fun j => ds.getD j 0 - (vAt (opF c ds rs cc) j).sum) 12 = sumJ (fun _ => 0) 12 := sumJ_congr fun j _ => by
    show ds.getD j 0 - (vAt (opT c ds rs cc ds.length) j).sum = 0
    rw [h2 j]
    by_cases e : j < ds.length
    · rw [if_pos e, (opB_ok hv hcc j).2.2.1]; omega
    · rw [if_neg e, vAt_far hv (by omega), getD_far (by omega)]; rfl
   exact this
 · rw [totD_eq h1, totD_eq hv]
   by_cases em : m = cc
   · rw [if_pos em, restD_eq hv, ← sumJ_add]
     refine sumJ_congr fun j _ => ?_
     show (vAt (opT c ds rs cc ds.length) j).getD m 0 = _
     rw [h2 j]
     by_cases e : j < ds.length
     · rw [if_pos e, (opB_ok hv hcc j).2.2.2 m, if_pos em]
     · rw [if_neg e, vAt_far hv (by omega), getD_far (show ds.length ≤ j by omega)]; simp
   · rw [if_neg em]
     have : sumJ (fun j => (vAt (opF c ds rs cc) j).getD m 0) 12 = sumJ (fun j => (vAt rs j).getD m 0) 12 := sumJ_congr fun j _ => by
      show (vAt (opT c ds rs cc ds.length) j).getD m 0 = _
      rw [h2 j]
      by_cases e : j < ds.length
      · rw [if_pos e, (opB_ok hv hcc j).2.2.2 m, if_neg em]; omega
      · rw [if_neg e]
     rw [this]; omega
theorem openB_iff {t : List Int} {r : Int} {a : Nat} : openB t r a = true ↔ t.getD a 0 + r ≥ 0 ∧ ∀ m, m < t.length → m ≠ a → t.getD a 0 + r ≥ t.getD m 0 := by
 obtain ⟨h1, h2, h3⟩ := oth_spec t (a : Int) t.length
 unfold openB
 rw [decide_eq_true_iff]
 show t.getD a 0 + r ≥ othT t a t.length ↔ _
 constructor
 · intro h
   refine ⟨by omega, fun m hm hne => ?_⟩
   have := h2 m hm (by omega)
   omega
 · rintro ⟨g1, g2⟩
   rcases h3 with e | ⟨m, hm, hne, e⟩
   · omega
   · have := g2 m hm (by omega)
     omega
theorem mem_openT {t : List Int} {r : Int} {x : Int} : ∀ {i : Nat}, x ∈ openT t r i ↔ ∃ k, k < i ∧ openB t r k = true ∧ x = (k : Int)
 | 0 => by simp [openT]
 | i + 1 => by
  rw [openT_next]
  cases h : openB t r i with
  | true =>
   show x ∈ openT t r i ++ [(i : Int)] ↔ _
   rw [List.mem_append, mem_openT, List.mem_singleton]
   constructor
   · rintro (⟨k, h1, h2, h3⟩ | e)
     · exact ⟨k, by omega, h2, h3⟩
     · exact ⟨i, by omega, h, e⟩
   · rintro ⟨k, h1, h2, h3⟩
     by_cases e : k = i
     · subst e; exact .inr h3
     · exact .inl ⟨k, by omega, h2, h3⟩
  | false =>
   show x ∈ openT t r i ↔ _
   rw [mem_openT]
   constructor
   · rintro ⟨k, h1, h2, h3⟩
     exact ⟨k, by omega, h2, h3⟩
   · rintro ⟨k, h1, h2, h3⟩
     by_cases e : k = i
     · subst e; rw [h] at h2; cases h2
     · exact ⟨k, by omega, h2, h3⟩
theorem hasB_open {t : List Int} {r : Int} {a : Nat} (ha : a < t.length) : hasB (openD t r) (a : Int) = openB t r a := by
 unfold hasB openD
 rw [Bool.eq_iff_iff, List.any_eq_true]
 constructor
 · rintro ⟨x, hx, he⟩
   obtain ⟨k, h1, h2, h3⟩ := mem_openT.1 hx
   have : x = (a : Int) := eq_of_beq he
   rw [show a = k by omega]; exact h2
 · intro h
   exact ⟨(a : Int), mem_openT.2 ⟨a, ha, h, rfl⟩, beq_self_eq_true _⟩
theorem bestB_iff {n : List Int} {v : Int} : bestB n v = true ↔ ∀ m, m < n.length → v ≥ n.getD m 0 := by
 unfold bestB
 rw [List.all_eq_true]
 constructor
 · intro h m hm
   exact of_decide_eq_true (h _ (getD_mem 0 hm))
 · intro h x hx
   obtain ⟨m, hm, rfl⟩ := List.getElem_of_mem hx
   have := h m hm
   rw [show n.getD m 0 = n[m] by simp [List.getD, hm]] at this
   exact decide_eq_true this
theorem best_open {c : Int} {ds : List Int} {rs : List R1} (hv : validT c ds rs = true) (hsm : ∀ r ∈ rs, rN r ≤ 900) {cc : Nat} (hcc : (cc : Int) < c) :
 bestB (totD c (opF c ds rs cc)) ((totD c (opF c ds rs cc)).getD cc 0) = openB (totD c rs) (restD ds rs) cc := by
 obtain ⟨h1, h2, h3⟩ := opF_tot hv hsm hcc
 obtain ⟨l1, b1⟩ := totD_ok hv
 obtain ⟨l2, _⟩ := totD_ok h1
 have hr := restD_nonneg hv
 rw [Bool.eq_iff_iff, bestB_iff, openB_iff]
 constructor
 · intro h
   refine ⟨?_, fun m hm hne => ?_⟩
   · have := getD_nonneg (fun x hx => (b1 x hx).1) cc; omega
   · have := h m (by omega)
     rw [h3 cc, h3 m, if_pos rfl, if_neg hne] at this
     omega
 · rintro ⟨g1, g2⟩ m hm
   rw [h3 cc, h3 m, if_pos rfl]
   by_cases e : m = cc
   · subst e; rw [if_pos rfl]; omega
   · rw [if_neg e]
     have := g2 m (by omega) e
     omega
theorem two_of {l : List Int} {a b : Int} (ha : a ∈ l) (hb : b ∈ l) (h : a ≠ b) : 2 ≤ l.length := by
 match l, ha, hb with
 | [], ha, _ => simp at ha
 | [x], ha, hb =>
  simp only [List.mem_singleton] at ha hb
  exact absurd (ha.trans hb.symm) h
 | x :: y :: l, _, _ => simp
theorem openT_one {t : List Int} {r : Int} {s : Nat} : ∀ {i : Nat}, (∀ k, k < i → (openB t r k = true ↔ k = s)) → openT t r i = if s < i then [(s : Int)] else []
 | 0, _ => rfl
 | i + 1, h => by
  have ih := openT_one (t := t) (r := r) (s := s) (i := i) fun k hk => h k (by omega)
  rw [openT_next, ih]
  have hi := h i (by omega)
  by_cases e : i = s
  · rw [hi.2 e, if_neg (by omega), if_pos (by omega)]
    subst e; rfl
  · have : openB t r i = false := by
     cases hb : openB t r i with
     | false => rfl
     | true => exact absurd (hi.1 hb) e
    rw [this]
    by_cases e2 : s < i
    · rw [if_pos e2, if_pos (by omega)]; rfl
    · rw [if_neg e2, if_neg (by omega)]; rfl
theorem top_ex (t : List Int) : ∀ n, 0 < n → ∃ a, a < n ∧ ∀ m, m < n → t.getD a 0 ≥ t.getD m 0
 | 1, _ => ⟨0, by omega, fun m hm => by rw [show m = 0 by omega]; omega⟩
 | n + 2, _ => by
  obtain ⟨a, ha, h⟩ := top_ex t (n + 1) (by omega)
  by_cases hg : t.getD (n + 1) 0 > t.getD a 0
  · refine ⟨n + 1, by omega, fun m hm => ?_⟩
    by_cases e : m = n + 1
    · subst e; omega
    · have := h m (by omega); omega
  · refine ⟨a, by omega, fun m hm => ?_⟩
    by_cases e : m = n + 1
    · subst e; omega
    · exact h m (by omega)
theorem open_two {t : List Int} {r : Int} (h2 : 2 ≤ t.length) (ht : ∀ x ∈ t, 0 ≤ x) (hr : 0 ≤ r) (h : ∀ a, a < t.length → sureAt t r a = false) : 2 ≤ (openD t r).length := by
 obtain ⟨a, ha, htop⟩ := top_ex t t.length (by omega)
 have ha0 := getD_nonneg ht a
 have hna : ¬ sureAt t r a = true := by rw [h a ha]; simp
 rw [sureAt_iff] at hna
 have hex : ∃ m, m < t.length ∧ m ≠ a ∧ t.getD a 0 ≤ t.getD m 0 + r := by
  by_cases hp : t.getD a 0 > r
  · have hn : ¬ ∀ m, m < t.length → m ≠ a → t.getD a 0 > t.getD m 0 + r := fun hh => hna ⟨hp, hh⟩
    apply Classical.byContradiction
    intro hne
    refine hn fun m hm hma => ?_
    apply Classical.byContradiction
    intro hle
    exact hne ⟨m, hm, hma, by omega⟩
  · have : ∃ m, m < t.length ∧ m ≠ a := by
     by_cases e : a = 0
     · exact ⟨1, by omega, by omega⟩
     · exact ⟨0, by omega, by omega⟩
    obtain ⟨m, hm, hma⟩ := this
    have := getD_nonneg ht m
    exact ⟨m, hm, hma, by omega⟩
 obtain ⟨m, hm, hma, hle⟩ := hex
 have hm0 := getD_nonneg ht m
 have o1 : (a : Int) ∈ openD t r := mem_openT.2 ⟨a, ha, openB_iff.2 ⟨by omega, fun k hk _ => by have := htop k hk; omega⟩, rfl⟩
 have o2 : (m : Int) ∈ openD t r := mem_openT.2 ⟨m, hm, openB_iff.2 ⟨by omega, fun k hk _ => by have := htop k hk; omega⟩, rfl⟩
 exact two_of o1 o2 (by omega)
theorem open_one {t : List Int} {r : Int} (hr : 0 ≤ r) {a : Nat} (ha : a < t.length) (h : sureAt t r a = true) : openD t r = [(a : Int)] := by
 obtain ⟨g1, g2⟩ := sureAt_iff.1 h
 unfold openD
 rw [openT_one (s := a) fun k hk => ?_, if_pos ha]
 constructor
 · intro ho
   by_cases e : k = a
   · exact e
   · have h1 := (openB_iff.1 ho).2 a ha (fun h => e h.symm)
     have h2 := g2 k hk e
     omega
 · rintro rfl
   refine openB_iff.2 ⟨by omega, fun m hm hne => ?_⟩
   have := g2 m hm hne
   omega
theorem mR_small (c : Int) (ds : List Int) (x : List (Ty.den six)) : ∀ r ∈ mR c ds x, rN r ≤ 900 := fun r hr => by
 have hc := conB_valid c ds
 have hm := ((mem_canon (validC_len hc) (allD_ok hc x)).1 hr).1
 unfold allD allT at hm
 obtain ⟨y, _, rfl⟩ := List.mem_map.1 hm
 have := pickD_lt (k := y.2.1) (n := 4) (by omega)
 show 1 + pickD y.2.1 4 ≤ 900
 omega
end T
end Go.Proofs.Ytofbchcclkejgaa

/- Package tally: TallyOpen: the loop over the districts, the loop over the candidates. -/
set_option linter.unusedVariables false
set_option linter.unusedSimpArgs false
set_option maxRecDepth 100000
set_option maxHeartbeats 4000000
namespace Go.Proofs.Ytofbchcclkejgaa
open Go
namespace T
theorem valid_okO9 {c : Int} {ds : List Int} {rs : List R1} (hv : validT c ds rs = true) (hsm : ∀ r ∈ rs, rN r ≤ 900) : okO9 rs := by
 have hl := validT_len hv
 have hc := (validC_iff.1 (validT_asc.1 hv).1)
 refine ⟨by omega, fun r hr => ?_⟩
 obtain ⟨g1, g2, g3, g4, g5⟩ := properD_iff.1 ((validT_asc.1 hv).2.1 r hr)
 have g2 : 1 ≤ rN r ∧ rN r ≤ 1000 := g2
 exact ⟨by have : ((rV r).length : Int) = c := g3; omega, by omega, hsm r hr⟩
theorem og_round {c : Int} {ds : List Int} {rs o o2 : List R1} {p : List Int} {s : Int} (hv : validT c ds rs = true) (hw : validT c ds o = true) (hsm : ∀ r ∈ rs, rN r ≤ 900) {cc d : Nat} (hcc : (cc : Int) < c) (hd : d < ds.length)
 (ho : joinD o [mkR (d : Int) (nvT rs d 1 (List.replicate c.toNat 0) rs.length).1 (opB c ds rs cc d)] = o2) : SemC Try.prog Γ og (gS c ds rs o p s cc d) .normal (gS c ds rs o2 p s cc ((d + 1 : Nat) : Int)) := by
 have hpr := op_pr hv hcc hd
 obtain ⟨n1, n2, n3, n4, n5, n6, n7⟩ := nv_ok hv d
 have n0 := sum_nonneg n2
 obtain ⟨b1, b2, b3, b4⟩ := opB_ok hv hcc d
 have hc := (validC_iff.1 (validT_asc.1 hv).1)
 have hdv := hc.2.2 _ (getD_mem 0 hd)
 have hsz := validT_sz hw
 have hokO := valid_okO9 hv hsm
 have hlt : cc < (vZ c rs d).length := by omega
 have hm0 := getD_nonneg n2 cc
 have hm := mem_le_sum n2 (getD_mem 0 hlt)
 have hbl : (vZ c rs d).length = (opB c ds rs cc d).length := by unfold opB; rw [List.length_set]
 have hA := pc_ok (e := .normal) cfg37_ok Try.func6 bd6 (lies0 (by kernel_rfl)) ((ogA_eq c ds rs o p s cc d).trans (by rw [decide_eq_true (by omega : (d : Int) < (Nat.cast ds.length : Int))]; rfl))
 have h0 := pc_ok (e := .normal) cfg37_ok Try.func6 bd6 (lies0 (by kernel_rfl)) ((og0_eq c ds rs o p s cc d).trans (by
  rw [decide_eq_true (by omega : 0 ≤ c ∧ c ≤ c ∧ (8 : Int) * c ≤ 281474976710656 ∧ c ≤ 9223372036854775807)]; rfl))
 have h1 := pc_ok (e := .normal) cfg37_ok Try.func6 bd6 (lies0 (by kernel_rfl)) ((og1_eq c ds rs o p s cc d c.toNat (List.replicate c.toNat 0)).trans (by
  rw [decide_eq_true (by omega : (0 : Int) ≤ (d : Int) ∧ (d : Int) < (Nat.cast ds.length : Int)), Int.toNat_natCast]; rfl))
 have h2 := pc_ok (e := .normal) cfg37_ok Try.func6 bd6 (Lies.of_take (n := 1) (by kernel_rfl)) ((og2_eq c ds rs o p s cc d (ds.getD d 0) c.toNat (List.replicate c.toNat 0)).trans (by
  rw [decide_eq_true (show pre_ol c ds rs c ds o p s cc d d 1 c.toNat (ds.getD d 0) 0 (List.replicate c.toNat 0) from ⟨rfl, List.length_replicate.symm, hokO⟩)]; rfl))
 have h3 := pc_ok (e := .normal) cfg37_ok Try.func6 bd6 (Lies.of_take (n := 1) (by kernel_rfl)) ((og3_eq c ds rs o p s cc d (ds.getD d 0) (nvT rs d 1 (List.replicate c.toNat 0) rs.length).1 (vZ c rs d)).trans (by
  rw [decide_eq_true (show pre_o3 c ds rs c ds o p s cc d d (nvT rs d 1 (List.replicate c.toNat 0) rs.length).1 (vZ c rs d).length (ds.getD d 0) 0 (vZ c rs d) from ⟨rfl, rfl, by omega, fun z hz => ⟨n2 z hz, by have := mem_le_sum n2 hz; omega⟩, by omega⟩)]; rfl))
 have h4 := pc_ok (e := .normal) (nm := [some (.live (.arr ity (opB c ds rs cc d)))]) cfg37_ok Try.func6 bd6 (lies0 (by kernel_rfl)) ((og4_eq c ds rs o p s cc d (ds.getD d 0 - (vZ c rs d).sum) (nvT rs d 1 (List.replicate c.toNat 0) rs.length).1 (vZ c rs d)).trans (by
  rw [decide_eq_true (by omega : (0 : Int) ≤ (cc : Int) ∧ (cc : Int) < (Nat.cast (vZ c rs d).length : Int)), Int.toNat_natCast, Nat.zero_add, decide_eq_true hlt, wrap_in (n := (vZ c rs d).getD cc 0 + (ds.getD d 0 - (vZ c rs d).sum)) (by omega) (by omega)]; rfl))
 have h4' := h4.postW (St.freezeO (o := 2) (k := 2) (s := 0) (sy := true) (L := (vZ c rs d).length) (cs := [.si .i64 d, .si .i64 (nvT rs d 1 (List.replicate c.toNat 0) rs.length).1, .bs true 0 0 (vZ c rs d).length]) (ty := ity) (l := opB c ds rs cc d) rfl rfl rfl hbl)
 have hadd : addOk c ds o d (nvT rs d 1 (List.replicate c.toNat 0) rs.length).1 (opB c ds rs cc d) = true := by
  unfold addOk; rw [hw]; exact hpr
 have h5 := pc_ok (e := .normal) cfg37_ok Try.func6 bd6 (lies0 (by kernel_rfl)) ((og5_eq c ds rs o p s cc d (nvT rs d 1 (List.replicate c.toNat 0) rs.length).1 (opB c ds rs cc d)).trans (by
  rw [decide_eq_true (show szR o ∧ (opB c ds rs cc d).length ≤ 1000000 from ⟨hsz, by omega⟩), hadd, ho]; rfl))
 have h6 := pc_ok (e := .normal) cfg37_ok Try.func6 bd6 (lies0 (by kernel_rfl)) ((og6_eq c ds rs o p s cc d c ds o2 0).trans (by rw [bne_self_eq_false]; rfl))
 have h7 := pc_ok (e := .normal) cfg37_ok Try.func6 bd6 (lies0 (by kernel_rfl)) (og7_eq c ds rs o p s cc d c ds o2)
 have hK := pc_ok (e := .normal) cfg37_ok Try.func6 bd6 (lies0 (by kernel_rfl)) ((ogK_eq c ds rs o2 p s cc d).trans (by rw [wrap_succ hd (by omega)]))
 rw [og_eq]
 exact hA.seq ((SemC.block (x := .normal) (by simp) (SemC.seq h0 (SemC.seq h1 (SemC.seq h2 (SemC.seq h3 (SemC.seq h4' (SemC.seq h5 (SemC.seq h6 h7)))))))).seq hK)
def hp_og : HP := { n := 215, lv := [7, 8, 10, 12, 13, 14], sp := [.ptr 0 0, .ty (.slice ity), .ty ity, .ty ity, .ptr 1 0, .ty ity], op := [.cells [.ty ity, .ty (.slice ity), .ty (.slice retT)], .cells [.ty ity, .ty (.slice ity), .ty (.slice retT)]], bp := [] }
def lve_og : Ex → List Nat
 | .normal => [7, 8, 10, 12, 13, 14]
 | .ret => [6]
 | .exit 2 => [7, 8, 10, 12, 13]
 | _ => []
theorem bd_og : Try.f6.body = some (root 6) := by kernel_rfl
theorem le_og : (loops (root 6))[1]? = some (lp 6 1) := by kernel_rfl
def st_og (c : Int) (ds : List Int) (rs : List (Ty.den retT)) (c2 : Int) (ds2 : List Int) (o : List (Ty.den retT)) (p : List Int) (s cc d : Int) : St := hp_og.st ⟨((), p, s, cc, (), d, ()), ((c, ds, rs, ()), (c2, ds2, o, ()), ()), ()⟩
abbrev pre_og0 (c : Int) (ds : List Int) (rs : List R1) (c2 : Int) (ds2 : List Int) (o : List R1) (cc d : Int) : Prop := d = 0 ∧ c2 = c ∧ ds2 = ds ∧ o = rs ∧ validT c ds rs = true ∧ (∀ r ∈ rs, rN r ≤ 900) ∧ 0 ≤ cc ∧ cc < c
abbrev pre_og (c : Int) (ds : List Int) (rs : List (Ty.den retT)) (c2 : Int) (ds2 : List Int) (o : List (Ty.den retT)) (p : List Int) (s cc d : Int) : Prop := pre_og0 c ds rs c2 ds2 o cc d
def rs_og (c : Int) (ds : List Int) (rs : List (Ty.den retT)) (c2 : Int) (ds2 : List Int) (o : List (Ty.den retT)) (p : List Int) (s cc d : Int) : Ex × St := (.exit 2, St.of 215 (lve_og (.exit 2)) [.ptr 0 0, .slst .ro ity p, .si .i64 s, .si .i64 cc, .ptr 1 0] [some [.si .i64 c, .slst .ro ity ds, .slst .ro retT rs], some [.si .i64 c, .slst .ro ity ds, .slst .ro retT (opF c ds rs cc.toNat)]] [] hp_og.kh hp_og.kt)
def res_og (c : Int) (ds : List Int) (rs : List (Ty.den retT)) (c2 : Int) (ds2 : List Int) (o : List (Ty.den retT)) (p : List Int) (s cc d : Int) : Tr (Ex × St) := .br (decide (pre_og c ds rs c2 ds2 o p s cc d)) (.leaf (some (.exit 2, St.of 215 (lve_og (.exit 2)) [.ptr 0 0, .slst .ro ity p, .si .i64 s, .si .i64 cc, .ptr 1 0] [some [.si .i64 c, .slst .ro ity ds, .slst .ro retT rs], some [.si .i64 c, .slst .ro ity ds, .slst .ro retT (opF c ds rs cc.toNat)]] [] hp_og.kh hp_og.kt))) (.leaf none)
def ent_og : LEnt := LEnt.by hp_og fun ⟨(_, p, s, cc, _, d, _), ((c, ds, rs, _), (c2, ds2, o, _), _), _⟩ => res_og c ds rs c2 ds2 o p s cc d
theorem ent_og_ok (hgo : ∀ (c : Int) (ds : List Int) (rs : List (Ty.den retT)) (c2 : Int) (ds2 : List Int) (o : List (Ty.den retT)) (p : List Int) (s cc d : Int), pre_og c ds rs c2 ds2 o p s cc d → SemL Try.prog Γ (lp 6 1) (st_og c ds rs c2 ds2 o p s cc d) (rs_og c ds rs c2 ds2 o p s cc d).1.to (rs_og c ds rs c2 ds2 o p s cc d).2) : EntOk Try.prog Γ (lp 6 1) ent_og := LEnt.by_ok fun ⟨(_, p, s, cc, _, d, _), ((c, ds, rs, _), (c2, ds2, o, _), _), _⟩ _ _ h_ => SemL.br (out := rs_og c ds rs c2 ds2 o p s cc d) rfl (hgo c ds rs c2 ds2 o p s cc d) h_
theorem og_go (c : Int) (ds : List Int) (rs : List (Ty.den retT)) (c2 : Int) (ds2 : List Int) (o : List (Ty.den retT)) (p : List Int) (s cc d : Int) (h : pre_og c ds rs c2 ds2 o p s cc d) : SemL Try.prog Γ (lp 6 1) (st_og c ds rs c2 ds2 o p s cc d) (rs_og c ds rs c2 ds2 o p s cc d).1.to (rs_og c ds rs c2 ds2 o p s cc d).2 := by
 obtain ⟨rfl, rfl, rfl, rfl, hv, hsm, h0, hcc⟩ := h
 obtain ⟨k, rfl⟩ : ∃ k : Nat, cc = (k : Int) := ⟨cc.toNat, by omega⟩
 have hl := validC_len (validT_asc.1 hv).1
 have key : SemL Try.prog Γ og (gS c2 ds2 o o p s k 0) (Exit.exit 2) (St.of 215 [7, 8, 10, 12, 13] [.ptr 0 0, .slst .ro ity p, .si .i64 s, .si .i64 k, .ptr 1 0] [oT3 c2 ds2 o, oT3 c2 ds2 (opF c2 ds2 o k)] []) := by
  refine SemL.scan ds2.length 0 (Nat.zero_le _) (fun d => gS c2 ds2 o (opT c2 ds2 o k d) p s k (d : Nat)) (fun _ => true) (.exit 2, St.of 215 [7, 8, 10, 12, 13] [.ptr 0 0, .slst .ro ity p, .si .i64 s, .si .i64 k, .ptr 1 0] [oT3 c2 ds2 o, oT3 c2 ds2 (opF c2 ds2 o k)] []) ?_ ?_ ?_
  · intro d _ hd _ _
    exact og_round hv (opT_ok hv hsm hcc d (by omega)).1 hsm hcc hd (opT_next c2 ds2 o k d).symm
  · intro d _ _ _ hp
    cases hp
  · intro _
    refine ⟨by simp [Ex.to], ?_⟩
    have hA := pc_ok (e := .exit 2) cfg37_ok Try.func6 bd6 (lies0 (by kernel_rfl)) ((ogA_eq c2 ds2 o (opF c2 ds2 o k) p s k ds2.length).trans (by rw [decide_eq_false (by omega)]; rfl))
    rw [og_eq]
    exact SemC.seq_out (by simp [Ex.to]) hA
 unfold rs_og
 rw [Int.toNat_natCast]
 exact key
def lo39 : LOrc := (LOrc.add lo37 6 1 ent_og)
theorem lo39_ok : LOrcOk Try.prog Γ lo39 := (LOrcOk.add lo37_ok 6 1 Try.func6 bd_og le_og (ent_og_ok og_go))
noncomputable def cfg39 : Cfg := cfgQ o38 lo39
theorem cfg39_ok : CfgOk Try.prog Γ cfg39 := cfgQ_ok o38_ok lo39_ok
def hp_oo : HP := { n := 215, lv := [7, 8, 10, 12], sp := [.ptr 0 0, .ty (.slice ity), .ty ity, .ty ity], op := [.cells [.ty ity, .ty (.slice ity), .ty (.slice retT)]], bp := [] }
def lve_oo : Ex → List Nat
 | .normal => [7, 8, 10, 12]
 | .ret => [6]
 | .exit 0 => [8, 10]
 | _ => []
theorem bd_oo : Try.f6.body = some (root 6) := by kernel_rfl
theorem le_oo : (loops (root 6))[0]? = some (lp 6 0) := by kernel_rfl
theorem li_oo : Lies (root 6) 1 (lp 6 0) := Lies.of_take (n := 5) (by kernel_rfl)
def st_oo (c : Int) (ds : List Int) (rs : List (Ty.den retT)) (p : List Int) (s cc : Int) : St := hp_oo.st ⟨((), p, s, cc, ()), ((c, ds, rs, ()), ()), ()⟩
noncomputable def rn_oo (c : Int) (ds : List Int) (rs : List (Ty.den retT)) (p : List Int) (s cc : Int) := outa lve_oo (evCK Try.prog Γ (cfM Try.prog Γ cfg39 30) (cfg39.lo 6) [] 60 1 (lp 6 0) (st_oo c ds rs p s cc))
theorem rn_oo_eq (c : Int) (ds : List Int) (rs : List (Ty.den retT)) (p : List Int) (s cc : Int) : (rn_oo c ds rs p s cc).run = (bif decide (cc < c) then (bif decide (pre_og c ds rs c ds rs p s cc (0 : Int)) then (bif decide (szR (opF c ds rs cc.toNat)) then (bif (bif validT c ds (opF c ds rs cc.toNat) then (0 : Int) else (270 : Int)) != (0 : Int) then (some ((Ex.ret, [V.b false], [], [], 215, 0, 0))) else (bif (bif validT c ds (opF c ds rs cc.toNat) then restD ds (opF c ds rs cc.toNat) else (0 : Int)) != (0 : Int) then (some ((Ex.ret, [V.b false], [], [], 215, 0, 0))) else (bif (Nat.cast ((bif validT c ds (opF c ds rs cc.toNat) then totD c (opF c ds rs cc.toNat) else []).length) : Int) != c then (some ((Ex.ret, [V.b false], [], [], 215, 0, 0))) else (bif decide (pre_oc c ds rs p s cc (bif validT c ds (opF c ds rs cc.toNat) then totD c (opF c ds rs cc.toNat) else []) false (0 : Int)) then (bif decide (pre_ob c ds rs p s cc (bif validT c ds (opF c ds rs cc.toNat) then totD c (opF c ds rs cc.toNat) else []) (hasB p cc) true (0 : Int)) then (bif !hasB p cc == bestB (bif validT c ds (opF c ds rs cc.toNat) then totD c (opF c ds rs cc.toNat) else []) ((bif validT c ds (opF c ds rs cc.toNat) then totD c (opF c ds rs cc.toNat) else []).getD cc.toNat (0 : Int)) then (some ((Ex.ret, [V.b false], [], [], 215, 0, 0))) else (some ((Ex.normal, [V.ptr 0 0, V.slst .ro ity p, V.si .i64 s, V.si .i64 (IntKind.i64.wrap (cc + (1 : Int)))], [some [V.si .i64 c, V.slst .ro ity ds, V.slst .ro retT rs]], [], 215, 0, 0)))) else none) else none)))) else none) else none) else (some ((Ex.exit 0, [V.slst .ro ity p, V.si .i64 s], [], [], 215, 0, 0)))) := by kernel_rfl
theorem rn_oo_c (c : Int) (ds : List Int) (rs : List (Ty.den retT)) (p : List Int) (s cc : Int) {e : Ex} {vs : List V} {ob : Ob} {nm : Nm} {n' kh kt : Nat} (h : (rn_oo c ds rs p s cc).run = some (e, vs, ob, nm, n', kh, kt)) : SemC Try.prog Γ (lp 6 0) (st_oo c ds rs p s cc) e.to (St.of n' (lve_oo e) vs ob nm kh kt) := SemC.of_evM cfg39_ok Try.func6 bd_oo li_oo h
abbrev pre_oo0 (c : Int) (ds : List Int) (rs : List R1) (p : List Int) (cc : Int) : Prop := cc = 0 ∧ validT c ds rs = true ∧ (∀ r ∈ rs, rN r ≤ 900) ∧ p = openD (totD c rs) (restD ds rs)
abbrev pre_oo (c : Int) (ds : List Int) (rs : List (Ty.den retT)) (p : List Int) (s cc : Int) : Prop := pre_oo0 c ds rs p cc
def rs_oo (c : Int) (ds : List Int) (rs : List (Ty.den retT)) (p : List Int) (s cc : Int) : Ex × St := (.exit 0, St.of 215 (lve_oo (.exit 0)) [.slst .ro ity p, .si .i64 s] [] [] hp_oo.kh hp_oo.kt)
def res_oo (c : Int) (ds : List Int) (rs : List (Ty.den retT)) (p : List Int) (s cc : Int) : Tr (Ex × St) := .br (decide (pre_oo c ds rs p s cc)) (.leaf (some (.exit 0, St.of 215 (lve_oo (.exit 0)) [.slst .ro ity p, .si .i64 s] [] [] hp_oo.kh hp_oo.kt))) (.leaf none)
def ent_oo : LEnt := LEnt.by hp_oo fun ⟨(_, p, s, cc, _), ((c, ds, rs, _), _), _⟩ => res_oo c ds rs p s cc
theorem ent_oo_ok (hgo : ∀ (c : Int) (ds : List Int) (rs : List (Ty.den retT)) (p : List Int) (s cc : Int), pre_oo c ds rs p s cc → SemL Try.prog Γ (lp 6 0) (st_oo c ds rs p s cc) (rs_oo c ds rs p s cc).1.to (rs_oo c ds rs p s cc).2) : EntOk Try.prog Γ (lp 6 0) ent_oo := LEnt.by_ok fun ⟨(_, p, s, cc, _), ((c, ds, rs, _), _), _⟩ _ _ h_ => SemL.br (out := rs_oo c ds rs p s cc) rfl (hgo c ds rs p s cc) h_
theorem oo_go (c : Int) (ds : List Int) (rs : List (Ty.den retT)) (p : List Int) (s cc : Int) (h : pre_oo c ds rs p s cc) : SemL Try.prog Γ (lp 6 0) (st_oo c ds rs p s cc) (rs_oo c ds rs p s cc).1.to (rs_oo c ds rs p s cc).2 := by
 obtain ⟨rfl, hv, hsm, rfl⟩ := h
 have hc := (validC_iff.1 (validT_asc.1 hv).1)
 obtain ⟨l1, _⟩ := totD_ok hv
 refine SemL.scan c.toNat 0 (Nat.zero_le _) (fun k => st_oo c ds rs (openD (totD c rs) (restD ds rs)) s (k : Nat)) (fun _ => true) _ ?_ ?_ ?_
 · intro k _ hk _ _
   have hcc : (k : Int) < c := by omega
   obtain ⟨h1, h2, h3⟩ := opF_tot hv hsm hcc
   obtain ⟨l2, _⟩ := totD_ok h1
   have hol : (openD (totD c rs) (restD ds rs)).length ≤ 1000 := by have := openT_len (totD c rs) (restD ds rs) (totD c rs).length; unfold openD; omega
   refine rn_oo_c c ds rs _ s k (e := .normal) ?_
   rw [rn_oo_eq, wrap_succ hk (by omega), decide_eq_true hcc, decide_eq_true (show pre_og c ds rs c ds rs (openD (totD c rs) (restD ds rs)) s k 0 from ⟨rfl, rfl, rfl, rfl, hv, hsm, by omega, hcc⟩), Int.toNat_natCast, decide_eq_true (validT_sz h1), h1, h2]
   simp only [cond_true, bne_self_eq_false, cond_false]
   rw [show ((Nat.cast (totD c (opF c ds rs k)).length : Int) != c) = false by rw [l2, show ((c.toNat : Nat) : Int) = c by omega, bne_self_eq_false],
    decide_eq_true (show pre_oc c ds rs (openD (totD c rs) (restD ds rs)) s k (totD c (opF c ds rs k)) false 0 from ⟨rfl, rfl, hol⟩),
    decide_eq_true (show pre_ob c ds rs (openD (totD c rs) (restD ds rs)) s k (totD c (opF c ds rs k)) (hasB (openD (totD c rs) (restD ds rs)) k) true 0 from ⟨rfl, rfl, by omega, by omega, by omega⟩),
    hasB_open (by omega), best_open hv hsm hcc, beq_self_eq_true]
   rfl
 · intro k _ _ _ hp
   cases hp
 · intro _
   unfold rs_oo
   refine ⟨by simp [Ex.to], rn_oo_c c ds rs _ s c.toNat (e := .exit 0) ?_⟩
   rw [rn_oo_eq, decide_eq_false (by omega)]
   rfl
def lo40 : LOrc := (LOrc.add lo39 6 0 ent_oo)
theorem lo40_ok : LOrcOk Try.prog Γ lo40 := (LOrcOk.add lo39_ok 6 0 Try.func6 bd_oo le_oo (ent_oo_ok oo_go))
noncomputable def cfg40 : Cfg := cfgQ o38 lo40
theorem cfg40_ok : CfgOk Try.prog Γ cfg40 := cfgQ_ok o38_ok lo40_ok
theorem c6_run (c : Int) (ds : List Int) (x : List (Ty.den six)) : runL cfg40 6 [.si .i64 c, .slst .ro ity ds, .slst .ro six x] = .ok (some (decide (okMd c ds x) && (decide (szR (mR c ds x)) && (decide (szR (mR c ds x)) && ((bif (bif validT (mC c) (mD ds) (mR c ds x) then (0 : Int) else (270 : Int)) != (0 : Int) then true else (bif validT (mC c) (mD ds) (mR c ds x) then (0 : Int) else (270 : Int)) != (0 : Int)) || decide (pre_oo (mC c) (mD ds) (mR c ds x) (bif validT (mC c) (mD ds) (mR c ds x) then openD (totD (mC c) (mR c ds x)) (restD (mD ds) (mR c ds x)) else []) (bif validT (mC c) (mD ds) (mR c ds x) then sureD (totD (mC c) (mR c ds x)) (restD (mD ds) (mR c ds x)) else (0 : Int)) (0 : Int)) && (decide ((bif validT (mC c) (mD ds) (mR c ds x) then sureD (totD (mC c) (mR c ds x)) (restD (mD ds) (mR c ds x)) else (0 : Int)) < (0 : Int)) || (!(Nat.cast ((bif validT (mC c) (mD ds) (mR c ds x) then openD (totD (mC c) (mR c ds x)) (restD (mD ds) (mR c ds x)) else []).length) : Int) == (1 : Int) || decide ((0 : Int) ≤ (0 : Int) ∧ (0 : Int) < (Nat.cast ((bif validT (mC c) (mD ds) (mR c ds x) then openD (totD (mC c) (mR c ds x)) (restD (mD ds) (mR c ds x)) else []).length) : Int))))))))) (V.sb (bif bif (bif validT (mC c) (mD ds) (mR c ds x) then (0 : Int) else (270 : Int)) != (0 : Int) then true else (bif validT (mC c) (mD ds) (mR c ds x) then (0 : Int) else (270 : Int)) != (0 : Int) then false else bif decide ((bif validT (mC c) (mD ds) (mR c ds x) then sureD (totD (mC c) (mR c ds x)) (restD (mD ds) (mR c ds x)) else (0 : Int)) < (0 : Int)) then decide ((Nat.cast ((bif validT (mC c) (mD ds) (mR c ds x) then openD (totD (mC c) (mR c ds x)) (restD (mD ds) (mR c ds x)) else []).length) : Int) ≥ (2 : Int)) else bif (Nat.cast ((bif validT (mC c) (mD ds) (mR c ds x) then openD (totD (mC c) (mR c ds x)) (restD (mD ds) (mR c ds x)) else []).length) : Int) == (1 : Int) then (bif validT (mC c) (mD ds) (mR c ds x) then openD (totD (mC c) (mR c ds x)) (restD (mD ds) (mR c ds x)) else []).getD (0 : Nat) (0 : Int) == bif validT (mC c) (mD ds) (mR c ds x) then sureD (totD (mC c) (mR c ds x)) (restD (mD ds) (mR c ds x)) else (0 : Int) else false)) := by kernel_rfl
end T
end Go.Proofs.Ytofbchcclkejgaa

/- Package tally: TallyOpen: the law's function returns true. -/
set_option linter.unusedVariables false
set_option linter.unusedSimpArgs false
set_option maxRecDepth 100000
set_option maxHeartbeats 4000000
namespace Go.Proofs.Ytofbchcclkejgaa
open Go
namespace T
theorem open_end {t : List Int} {r : Int} (h2 : 2 ≤ t.length) (ht : ∀ x ∈ t, 0 ≤ x) (hr : 0 ≤ r) : (sureD t r < 0 ∧ ((openD t r).length : Int) ≥ 2) ∨ (¬ sureD t r < 0 ∧ openD t r = [sureD t r]) := by
 rcases sureD_cases t r with ⟨e, h⟩ | ⟨a, ha, e, h⟩
 · have := open_two h2 ht hr h
   exact .inl ⟨by omega, by omega⟩
 · exact .inr ⟨by omega, by rw [e]; exact open_one hr ha h⟩
theorem openLaw_ok (c0 : Int) (ds0 : List Int) (x : List (Ty.den six)) (h : okMd c0 ds0 x) : SemF Try.prog Γ 6 [.si .i64 c0, .slst .ro ity ds0, .slst .ro six x] [] [] (.sb true) [] [] := by
 have hv := mR_valid c0 ds0 x
 have hsm := mR_small c0 ds0 x
 have hsz := validT_sz hv
 have hc := (validC_iff.1 (validT_asc.1 hv).1)
 obtain ⟨l1, b1⟩ := totD_ok hv
 have hr := restD_nonneg hv
 have hend := open_end (t := totD (mC c0) (mR c0 ds0 x)) (r := restD (mD ds0) (mR c0 ds0 x)) (by omega) (fun z hz => (b1 z hz).1) hr
 refine of_runL cfg40_ok (c6_run c0 ds0 x) ?_ ?_
 · have hp : pre_oo (mC c0) (mD ds0) (mR c0 ds0 x) (bif validT (mC c0) (mD ds0) (mR c0 ds0 x) then openD (totD (mC c0) (mR c0 ds0 x)) (restD (mD ds0) (mR c0 ds0 x)) else []) (bif validT (mC c0) (mD ds0) (mR c0 ds0 x) then sureD (totD (mC c0) (mR c0 ds0 x)) (restD (mD ds0) (mR c0 ds0 x)) else (0 : Int)) 0 := ⟨rfl, hv, hsm, by rw [hv]; rfl⟩
   rw [decide_eq_true hp, decide_eq_true h, decide_eq_true hsz, hv]
   simp only [cond_true]
   rcases hend with ⟨e1, e2⟩ | ⟨e1, e2⟩
   · rw [decide_eq_true e1]; simp
   · rw [e2]; simp
 · rw [hv]
   simp only [cond_true, bne_self_eq_false, cond_false]
   rcases hend with ⟨e1, e2⟩ | ⟨e1, e2⟩
   · rw [decide_eq_true e1, decide_eq_true e2]; rfl
   · rw [decide_eq_false e1, e2]
     simp
end T
end Go.Proofs.Ytofbchcclkejgaa

