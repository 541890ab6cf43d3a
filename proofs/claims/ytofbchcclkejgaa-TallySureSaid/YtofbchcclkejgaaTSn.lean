/- Parts of the library of texts, one after the other: P30, T30, T32, T33, P31, T34, T35, T36. -/
import Derived.Test.YtofbchcclkejgaaTSm
/- Package tally: totals and rest, place by place (plain). -/
set_option linter.unusedVariables false
set_option linter.unusedSimpArgs false
set_option maxRecDepth 100000
namespace Go.Proofs.Ytofbchcclkejgaa
open Go
namespace T
theorem addL_getD {b v : List Int} (h : v.length = b.length) (k : Nat) : (addL b v).getD k 0 = b.getD k 0 + v.getD k 0 := by
 unfold addL
 by_cases hk : k < b.length
 · simp only [List.getD_eq_getElem?_getD]
   rw [List.getElem?_eq_getElem (show k < (List.zipWith (· + ·) b v).length by rw [List.length_zipWith]; omega), List.getElem?_eq_getElem hk, List.getElem?_eq_getElem (show k < v.length by omega)]
   simp
 · simp only [List.getD_eq_getElem?_getD]
   rw [List.getElem?_eq_none (show (List.zipWith (· + ·) b v).length ≤ k by rw [List.length_zipWith]; omega), List.getElem?_eq_none (show b.length ≤ k by omega), List.getElem?_eq_none (show v.length ≤ k by omega)]
   simp
theorem addL_sum : ∀ {b v : List Int}, v.length = b.length → (addL b v).sum = b.sum + v.sum
 | [], [], _ => by simp [addL]
 | x :: b, y :: v, h => by
  have := addL_sum (b := b) (v := v) (by simpa using h)
  unfold addL at this ⊢
  rw [List.zipWith_cons_cons, List.sum_cons, List.sum_cons, List.sum_cons, this]
  omega
theorem totB_getD {rs : List R1} (k : Nat) : ∀ {b : List Int}, (∀ r ∈ rs, (rV r).length = b.length) → (totB rs b).getD k 0 = b.getD k 0 + (rs.map fun r => (rV r).getD k 0).sum := by
 induction rs with
 | nil => intro b h; simp [totB]
 | cons r t ih =>
  intro b h
  have h0 := h r (by simp)
  show (totB t (addL b (rV r))).getD k 0 = _
  rw [ih (fun x hx => by rw [addL_len h0]; exact h x (by simp [hx])), addL_getD h0, List.map_cons, List.sum_cons]
  omega
theorem totB_sum {rs : List R1} : ∀ {b : List Int}, (∀ r ∈ rs, (rV r).length = b.length) → (totB rs b).sum = b.sum + sumV rs := by
 induction rs with
 | nil => intro b h; simp [totB, sumV]
 | cons r t ih =>
  intro b h
  have h0 := h r (by simp)
  show (totB t (addL b (rV r))).sum = _
  rw [ih (fun x hx => by rw [addL_len h0]; exact h x (by simp [hx])), addL_sum h0]
  show _ = b.sum + (((rV r).sum) :: (t.map fun r => (rV r).sum)).sum
  rw [List.sum_cons]
  show _ + sumV t = _ + (_ + sumV t)
  omega
theorem okLen {c : Int} {ds : List Int} {rs : List R1} (h : validT c ds rs = true) : ∀ r ∈ rs, (rV r).length = (List.replicate c.toNat (0 : Int)).length := fun r hr => by
 rw [List.length_replicate]; exact (validT_ok h r hr).1
theorem totD_getD {c : Int} {ds : List Int} {rs : List R1} (h : validT c ds rs = true) (k : Nat) : (totD c rs).getD k 0 = (rs.map fun r => (rV r).getD k 0).sum := by
 unfold totD
 rw [totB_getD k (okLen h)]
 have : (List.replicate c.toNat (0 : Int)).getD k 0 = 0 := by
  simp only [List.getD_eq_getElem?_getD, List.getElem?_replicate]; split <;> rfl
 rw [this]; omega
theorem totD_sum {c : Int} {ds : List Int} {rs : List R1} (h : validT c ds rs = true) : (totD c rs).sum = sumV rs := by
 unfold totD
 rw [totB_sum (okLen h)]
 have : (List.replicate c.toNat (0 : Int)).sum = 0 := by simp
 rw [this]; omega
def sumJ (f : Nat → Int) : Nat → Int
 | 0 => 0
 | n + 1 => sumJ f n + f n
theorem sumJ_le {f g : Nat → Int} : ∀ {n : Nat}, (∀ j, j < n → f j ≤ g j) → sumJ f n ≤ sumJ g n
 | 0, _ => Int.le_refl _
 | n + 1, h => by
  have := sumJ_le (n := n) fun j hj => h j (by omega)
  have := h n (by omega)
  unfold sumJ; omega
theorem sumJ_add (f g : Nat → Int) : ∀ n, sumJ (fun j => f j + g j) n = sumJ f n + sumJ g n
 | 0 => rfl
 | n + 1 => by have := sumJ_add f g n; unfold sumJ; omega
theorem sumJ_sub (f g : Nat → Int) : ∀ n, sumJ (fun j => f j - g j) n = sumJ f n - sumJ g n
 | 0 => rfl
 | n + 1 => by have := sumJ_sub f g n; unfold sumJ; omega
theorem sumJ_take (l : List Int) : ∀ n, n ≤ l.length → sumJ (fun j => l.getD j 0) n = (l.take n).sum
 | 0, _ => by simp [sumJ]
 | n + 1, h => by
  have := sumJ_take l n (by omega)
  rw [sum_take (by omega)]
  unfold sumJ; omega
theorem sumJ_more {f : Nat → Int} {n : Nat} : ∀ {m : Nat}, n ≤ m → (∀ j, n ≤ j → j < m → f j = 0) → sumJ f m = sumJ f n
 | 0, h, _ => by rw [show n = 0 by omega]
 | m + 1, h, h0 => by
  by_cases e : n = m + 1
  · rw [e]
  · have := sumJ_more (m := m) (by omega) fun j a b => h0 j a (by omega)
    have := h0 m (by omega) (by omega)
    show sumJ f m + f m = sumJ f n
    omega
theorem sumJ_list {l : List Int} {m : Nat} (h : l.length ≤ m) : sumJ (fun j => l.getD j 0) m = l.sum := by
 rw [sumJ_more h fun j a _ => by simp [List.getD, a], sumJ_take l l.length (Nat.le_refl _), List.take_length]
theorem sum_outT (f : R1 → Int) (m : Nw) (hz : ∀ j, ¬ rN (m j) > 0 → f (m j) = 0) : ∀ n, ((outT m n).map f).sum = sumJ (fun j => f (m j)) n
 | 0 => rfl
 | n + 1 => by
  have ih := sum_outT f m hz n
  unfold sumJ
  by_cases h : rN (m n) > 0
  · rw [show outT m (n + 1) = outT m n ++ [m n] by rw [outT]; simp [h], List.map_append, List.sum_append, ih]
    show sumJ (fun j => f (m j)) n + ([f (m n)] : List Int).sum = _
    simp
  · rw [show outT m (n + 1) = outT m n by rw [outT]; simp [h], ih, hz n h]; simp
theorem zero_rV (l : List R1) {c : Int} {ds : List Int} (h : okP c ds l) (j : Nat) (h0 : ¬ rN (mapOf l j) > 0) : rV (mapOf l j) = [] := by
 rcases best_map h j with ⟨_, e⟩ | ⟨a, _, _⟩
 · rw [e]; rfl
 · have := prR_N (h _ a)
   omega
theorem sum_valid {c : Int} {ds : List Int} {rs : List R1} (h : validT c ds rs = true) (f : List Int → Int) (h0 : f [] = 0) : (rs.map fun r => f (rV r)).sum = sumJ (fun j => f (rV (mapOf rs j))) 12 := by
 have hok := (validT_asc.1 h).2.1
 have := sum_outT (fun r => f (rV r)) (mapOf rs) (fun j hj => by
  show f (rV (mapOf rs j)) = 0
  rw [zero_rV rs hok j hj, h0]) 12
 rw [← this]
 show _ = (List.map _ (canon rs)).sum
 rw [canon_self h]
def vAt (rs : List R1) (j : Nat) : List Int := rV (mapOf rs j)
theorem vAt_ok {c : Int} {ds : List Int} {rs : List R1} (hok : okP c ds rs) (j : Nat) : vAt rs j = [] ∧ (∀ y ∈ rs, rD y ≠ j) ∨ ((vAt rs j).length : Int) = c ∧ (∀ x ∈ vAt rs j, 0 ≤ x) ∧ (vAt rs j).sum ≤ ds.getD j 0 ∧ j < ds.length := by
 rcases best_map hok j with ⟨a, e⟩ | ⟨a, b, _⟩
 · exact .inl ⟨by unfold vAt; rw [e]; rfl, a⟩
 · obtain ⟨g1, g2, g3, g4, g5⟩ := properD_iff.1 (hok _ a)
   refine .inr ⟨g3, fun x hx => (g4 x hx).1, ?_, by rw [b] at g1; omega⟩
   rw [b] at g5
   exact g5
theorem sum_nonneg {l : List Int} (h : ∀ x ∈ l, 0 ≤ x) : 0 ≤ l.sum := by
 induction l with
 | nil => simp
 | cons y t ih =>
  have h1 := h y (by simp)
  have h2 := ih fun x hx => h x (by simp [hx])
  rw [List.sum_cons]; omega
theorem getD_nonneg {l : List Int} (h : ∀ x ∈ l, 0 ≤ x) (k : Nat) : 0 ≤ l.getD k 0 := by
 by_cases hk : k < l.length
 · exact h _ (getD_mem 0 hk)
 · simp [List.getD, Nat.not_lt.1 hk]
theorem ds_nonneg {c : Int} {ds : List Int} (hc : validC c ds = true) (j : Nat) : 0 ≤ ds.getD j 0 := getD_nonneg (fun x hx => ((validC_iff.1 hc).2.2 x hx).1) j
theorem restD_eq {c : Int} {ds : List Int} {rs : List R1} (h : validT c ds rs = true) : restD ds rs = sumJ (fun j => ds.getD j 0 - (vAt rs j).sum) 12 := by
 have hl := validC_len (validT_asc.1 h).1
 unfold restD
 rw [sumJ_sub, sumJ_list hl]
 congr 1
 exact sum_valid h (fun v => v.sum) rfl
theorem left_nonneg {c : Int} {ds : List Int} {rs : List R1} (hc : validC c ds = true) (hok : okP c ds rs) (j : Nat) : 0 ≤ ds.getD j 0 - (vAt rs j).sum := by
 rcases vAt_ok hok j with ⟨e, _⟩ | ⟨_, _, h3, _⟩
 · rw [e]; have := ds_nonneg hc j; simpa using this
 · omega
theorem sumJ_nonneg {f : Nat → Int} {n : Nat} (h : ∀ j, j < n → 0 ≤ f j) : 0 ≤ sumJ f n := by
 have := sumJ_le (f := fun _ => 0) (g := f) (n := n) h
 have e : ∀ n, sumJ (fun _ => 0) n = 0 := fun n => by induction n with | zero => rfl | succ n ih => unfold sumJ; omega
 rw [e] at this; exact this
theorem restD_nonneg {c : Int} {ds : List Int} {rs : List R1} (h : validT c ds rs = true) : 0 ≤ restD ds rs := by
 rw [restD_eq h]
 exact sumJ_nonneg fun j _ => left_nonneg (validT_asc.1 h).1 (validT_asc.1 h).2.1 j
theorem totD_eq {c : Int} {ds : List Int} {rs : List R1} (h : validT c ds rs = true) (k : Nat) : (totD c rs).getD k 0 = sumJ (fun j => (vAt rs j).getD k 0) 12 := by
 rw [totD_getD h]
 exact sum_valid h (fun v => v.getD k 0) rfl
theorem oth_spec (t : List Int) (c : Int) : ∀ k, 0 ≤ othT t c k ∧ (∀ m, m < k → (m : Int) ≠ c → t.getD m 0 ≤ othT t c k) ∧ (othT t c k = 0 ∨ ∃ m, m < k ∧ (m : Int) ≠ c ∧ othT t c k = t.getD m 0)
 | 0 => ⟨Int.le_refl _, fun m h => by omega, .inl rfl⟩
 | k + 1 => by
  obtain ⟨h1, h2, h3⟩ := oth_spec t c k
  have key : othT t c (k + 1) = if (k : Int) ≠ c then (if t.getD k 0 > othT t c k then t.getD k 0 else othT t c k) else othT t c k := rfl
  rw [key]
  by_cases hk : (k : Int) = c
  · rw [if_neg (by omega)]
    refine ⟨h1, fun m hm hne => h2 m (by omega) hne, ?_⟩
    rcases h3 with e | ⟨m, a, b, e⟩
    · exact .inl e
    · exact .inr ⟨m, by omega, b, e⟩
  · rw [if_pos hk]
    by_cases hg : t.getD k 0 > othT t c k
    · rw [if_pos hg]
      refine ⟨by omega, fun m hm hne => ?_, .inr ⟨k, by omega, hk, rfl⟩⟩
      by_cases e : m = k
      · subst e; omega
      · have := h2 m (by omega) hne; omega
    · rw [if_neg hg]
      refine ⟨h1, fun m hm hne => ?_, ?_⟩
      · by_cases e : m = k
        · subst e; omega
        · exact h2 m (by omega) hne
      · rcases h3 with e | ⟨m, a, b, e⟩
        · exact .inl e
        · exact .inr ⟨m, by omega, b, e⟩
theorem sureAt_iff {t : List Int} {r : Int} {a : Nat} : sureAt t r a = true ↔ t.getD a 0 > r ∧ ∀ m, m < t.length → m ≠ a → t.getD a 0 > t.getD m 0 + r := by
 obtain ⟨h1, h2, h3⟩ := oth_spec t (a : Int) t.length
 unfold sureAt
 rw [decide_eq_true_iff]
 show t.getD a 0 > othT t a t.length + r ↔ _
 constructor
 · intro h
   refine ⟨by omega, fun m hm hne => ?_⟩
   have := h2 m hm (by omega)
   omega
 · rintro ⟨g1, g2⟩
   rcases h3 with e | ⟨m, hm, hne, e⟩
   · omega
   · have := g2 m hm (by omega)
     omega
theorem sure_one {t : List Int} {r : Int} (hr : 0 ≤ r) {a b : Nat} (ha : a < t.length) (hb : b < t.length) (h : sureAt t r a = true) (k : sureAt t r b = true) : a = b := by
 by_cases e : a = b
 · exact e
 · have h1 := (sureAt_iff.1 h).2 b hb (fun h => e h.symm)
   have h2 := (sureAt_iff.1 k).2 a ha e
   omega
theorem sureD_some {t : List Int} {r : Int} (hr : 0 ≤ r) {a : Nat} (ha : a < t.length) (h : sureAt t r a = true) : sureD t r = (a : Int) := by
 have hk : sureK t r < t.length := by
  rcases Nat.lt_or_ge (sureK t r) t.length with h' | h'
  · exact h'
  · have := sureK_before (t := t) (r := r) (i := a) (by omega)
    rw [h] at this; cases this
 unfold sureD
 rw [if_pos hk, sure_one hr hk ha (sureK_here hk) h]
theorem sureD_cases (t : List Int) (r : Int) : (sureD t r = -1 ∧ ∀ a, a < t.length → sureAt t r a = false) ∨ ∃ a, a < t.length ∧ sureD t r = (a : Int) ∧ sureAt t r a = true := by
 by_cases hk : sureK t r < t.length
 · exact .inr ⟨sureK t r, hk, by unfold sureD; rw [if_pos hk], sureK_here hk⟩
 · refine .inl ⟨by unfold sureD; rw [if_neg hk], fun a ha => sureK_before (by omega)⟩
end T
end Go.Proofs.Ytofbchcclkejgaa


/- Package tally: more: loops. -/
set_option linter.unusedVariables false
set_option linter.unusedSimpArgs false
set_option maxRecDepth 100000
set_option maxHeartbeats 4000000
namespace Go.Proofs.Ytofbchcclkejgaa
open Go
namespace T
abbrev five : Ty := .agg [ity, ity, ity, ity, ity]
def hp_ml : HP := { n := 137, lv := [1, 2, 4, 5, 6, 7, 8, 9, 10], sp := [.ty (.slice five), .ptr 0 0, .ptr 1 0, .ptr 2 0, .ty ity, .ty ity, .ptr 3 0, .ty ity, .ty ity], op := [.cells [.ty ity, .ty (.slice ity), .ty (.slice retT)], .cells [.ci 0, .nl, .nl], .cells [.ty ity, .ty (.slice ity), .ty (.slice retT)], .cells [.ty ity, .ty ity, .bz 0]], bp := [.arr ity] }
def lve_ml : Ex → List Nat
 | .normal => [1, 2, 4, 5, 6, 7, 8, 9, 10]
 | .exit 2 => [1, 2, 4, 5, 6, 8, 9]
 | _ => []
theorem bd_ml : Try.f38.body = some (root 38) := by kernel_rfl
theorem le_ml : (loops (root 38))[1]? = some (lp 38 1) := by kernel_rfl
theorem li_ml : Lies (root 38) 2 (lp 38 1) := Lies.of_take (n := 0) (by kernel_rfl)
def st_ml (x : List (Ty.den five)) (c : Int) (ds : List Int) (rs : List (Ty.den retT)) (c2 : Int) (ds2 : List Int) (o : List (Ty.den retT)) (i d q n : Int) (j : Nat) (lf k : Int) (b : List Int) : St := hp_ml.st ⟨(x, (), (), (), i, d, (), lf, k, ()), ((c, ds, rs, ()), ((), (), (), ()), (c2, ds2, o, ()), (q, n, j, ()), ()), (b, ())⟩
noncomputable def rn_ml (x : List (Ty.den five)) (c : Int) (ds : List Int) (rs : List (Ty.den retT)) (c2 : Int) (ds2 : List Int) (o : List (Ty.den retT)) (i d q n : Int) (j : Nat) (lf k : Int) (b : List Int) := outa lve_ml (evCK Try.prog Γ (cfM Try.prog Γ cfg29 30) (cfg29.lo 38) [] 60 2 (lp 38 1) (st_ml x c ds rs c2 ds2 o i d q n j lf k b))
theorem rn_ml_eq (x : List (Ty.den five)) (c : Int) (ds : List Int) (rs : List (Ty.den retT)) (c2 : Int) (ds2 : List Int) (o : List (Ty.den retT)) (i d q n : Int) (j : Nat) (lf k : Int) (b : List Int) : (rn_ml x c ds rs c2 ds2 o i d q n j lf k b).run = (bif decide (k < (o.length : Int)) then (bif decide ((0 : Int) ≤ k ∧ k < (o.length : Int)) then (bif (rD (o.getD k.toNat retT.dflt)) == d then (bif decide ((0 : Int) ≤ k ∧ k < (o.length : Int)) then (bif decide ((0 : Int) ≤ k ∧ k < (o.length : Int)) then (bif decide (List.length (rV (o.getD k.toNat retT.dflt)) * 2 * 8 ≤ 281474976710656) then (some ((Ex.normal, [V.slst .ro five x, V.ptr 0 0, V.ptr 1 0, V.ptr 2 0, V.si .i64 i, V.si .i64 d, V.ptr 3 0, V.si .i64 lf, V.si .i64 (IntKind.i64.wrap (k + (1 : Int)))], [some [V.si .i64 c, V.slst .ro ity ds, V.slst .ro retT rs], some [V.i .i64 (0 : Int), V.lst .full [], V.lst .full []], some [V.si .i64 c2, V.slst .ro ity ds2, V.slst .ro retT o], some [V.si .i64 q, V.si .i64 (if IntKind.i64.wrap ((rN (o.getD k.toNat retT.dflt)) + (1 : Int)) < (1000 : Int) then IntKind.i64.wrap ((rN (o.getD k.toNat retT.dflt)) + (1 : Int)) else (1000 : Int)), V.bs true 0 0 (List.length (rV (o.getD k.toNat retT.dflt)))]], [some (Bf.live (.arr ity (rV (o.getD k.toNat retT.dflt))))], 137, 0, 0))) else none) else none) else none) else (some ((Ex.normal, [V.slst .ro five x, V.ptr 0 0, V.ptr 1 0, V.ptr 2 0, V.si .i64 i, V.si .i64 d, V.ptr 3 0, V.si .i64 lf, V.si .i64 (IntKind.i64.wrap (k + (1 : Int)))], [some [V.si .i64 c, V.slst .ro ity ds, V.slst .ro retT rs], some [V.i .i64 (0 : Int), V.lst .full [], V.lst .full []], some [V.si .i64 c2, V.slst .ro ity ds2, V.slst .ro retT o], some [V.si .i64 q, V.si .i64 n, V.bs true 0 0 j]], [some (Bf.live (.arr ity b))], 137, 0, 0)))) else none) else (some ((Ex.exit 2, [V.slst .ro five x, V.ptr 0 0, V.ptr 1 0, V.ptr 2 0, V.si .i64 i, V.ptr 3 0, V.si .i64 lf], [some [V.si .i64 c, V.slst .ro ity ds, V.slst .ro retT rs], some [V.i .i64 (0 : Int), V.lst .full [], V.lst .full []], some [V.si .i64 c2, V.slst .ro ity ds2, V.slst .ro retT o], some [V.si .i64 q, V.si .i64 n, V.bs true 0 0 j]], [some (Bf.live (.arr ity b))], 137, 0, 0)))) := by kernel_rfl
theorem rn_ml_c (x : List (Ty.den five)) (c : Int) (ds : List Int) (rs : List (Ty.den retT)) (c2 : Int) (ds2 : List Int) (o : List (Ty.den retT)) (i d q n : Int) (j : Nat) (lf k : Int) (b : List Int) {e : Ex} {vs : List V} {ob : Ob} {nm : Nm} {n' kh kt : Nat} (h : (rn_ml x c ds rs c2 ds2 o i d q n j lf k b).run = some (e, vs, ob, nm, n', kh, kt)) : SemC Try.prog Γ (lp 38 1) (st_ml x c ds rs c2 ds2 o i d q n j lf k b) e.to (St.of n' (lve_ml e) vs ob nm kh kt) := SemC.of_evM cfg29_ok Try.func38 bd_ml li_ml h
def hp_m2 : HP := { n := 137, lv := [1, 2, 4, 5, 6, 8, 9, 11], sp := [.ty (.slice five), .ptr 0 0, .ptr 1 0, .ptr 2 0, .ty ity, .ptr 3 0, .ty ity, .ty ity], op := [.cells [.ty ity, .ty (.slice ity), .ty (.slice retT)], .cells [.ci 0, .nl, .nl], .cells [.ty ity, .ty (.slice ity), .ty (.slice retT)], .cells [.ty ity, .ty ity, .bz 0]], bp := [.arr ity] }
def lve_m2 : Ex → List Nat
 | .normal => [1, 2, 4, 5, 6, 8, 9, 11]
 | .exit 4 => [1, 2, 4, 5, 6, 8, 9]
 | _ => []
theorem bd_m2 : Try.f38.body = some (root 38) := by kernel_rfl
theorem le_m2 : (loops (root 38))[2]? = some (lp 38 2) := by kernel_rfl
theorem li_m2 : Lies (root 38) 3 (lp 38 2) := Lies.of_take (n := 0) (by kernel_rfl)
def st_m2 (x : List (Ty.den five)) (c : Int) (ds : List Int) (rs : List (Ty.den retT)) (c2 : Int) (ds2 : List Int) (o : List (Ty.den retT)) (i q n : Int) (j : Nat) (lf k : Int) (b : List Int) : St := hp_m2.st ⟨(x, (), (), (), i, (), lf, k, ()), ((c, ds, rs, ()), ((), (), (), ()), (c2, ds2, o, ()), (q, n, j, ()), ()), (b, ())⟩
noncomputable def rn_m2 (x : List (Ty.den five)) (c : Int) (ds : List Int) (rs : List (Ty.den retT)) (c2 : Int) (ds2 : List Int) (o : List (Ty.den retT)) (i q n : Int) (j : Nat) (lf k : Int) (b : List Int) := outa lve_m2 (evCK Try.prog Γ (cfM Try.prog Γ cfg29 30) (cfg29.lo 38) [] 60 3 (lp 38 2) (st_m2 x c ds rs c2 ds2 o i q n j lf k b))
theorem rn_m2_eq (x : List (Ty.den five)) (c : Int) (ds : List Int) (rs : List (Ty.den retT)) (c2 : Int) (ds2 : List Int) (o : List (Ty.den retT)) (i q n : Int) (j : Nat) (lf k : Int) (b : List Int) : (rn_m2 x c ds rs c2 ds2 o i q n j lf k b).run = (bif decide (k < (Nat.cast (j) : Int)) then (bif decide ((0 : Int) ≤ k ∧ k < (Nat.cast (j) : Int)) then (bif decide (0 + k.toNat < b.length) then (some ((Ex.normal, [V.slst .ro five x, V.ptr 0 0, V.ptr 1 0, V.ptr 2 0, V.si .i64 i, V.ptr 3 0, V.si .i64 (IntKind.i64.wrap (lf - b.getD (0 + k.toNat) (0 : Int))), V.si .i64 (IntKind.i64.wrap (k + (1 : Int)))], [some [V.si .i64 c, V.slst .ro ity ds, V.slst .ro retT rs], some [V.i .i64 (0 : Int), V.lst .full [], V.lst .full []], some [V.si .i64 c2, V.slst .ro ity ds2, V.slst .ro retT o], some [V.si .i64 q, V.si .i64 n, V.bs true 0 0 j]], [some (Bf.live (.arr ity b))], 137, 0, 0))) else none) else none) else (some ((Ex.exit 4, [V.slst .ro five x, V.ptr 0 0, V.ptr 1 0, V.ptr 2 0, V.si .i64 i, V.ptr 3 0, V.si .i64 lf], [some [V.si .i64 c, V.slst .ro ity ds, V.slst .ro retT rs], some [V.i .i64 (0 : Int), V.lst .full [], V.lst .full []], some [V.si .i64 c2, V.slst .ro ity ds2, V.slst .ro retT o], some [V.si .i64 q, V.si .i64 n, V.bs true 0 0 j]], [some (Bf.live (.arr ity b))], 137, 0, 0)))) := by kernel_rfl
theorem rn_m2_c (x : List (Ty.den five)) (c : Int) (ds : List Int) (rs : List (Ty.den retT)) (c2 : Int) (ds2 : List Int) (o : List (Ty.den retT)) (i q n : Int) (j : Nat) (lf k : Int) (b : List Int) {e : Ex} {vs : List V} {ob : Ob} {nm : Nm} {n' kh kt : Nat} (h : (rn_m2 x c ds rs c2 ds2 o i q n j lf k b).run = some (e, vs, ob, nm, n', kh, kt)) : SemC Try.prog Γ (lp 38 2) (st_m2 x c ds rs c2 ds2 o i q n j lf k b) e.to (St.of n' (lve_m2 e) vs ob nm kh kt) := SemC.of_evM cfg29_ok Try.func38 bd_m2 li_m2 h
def fx (y : Ty.den five) (m : Int) : Int := bif decide (m = 0) then y.1 else bif decide (m - 1 = 0) then y.2.1 else bif decide (m - 1 - 1 = 0) then y.2.2.1 else bif decide (m - 1 - 1 - 1 = 0) then y.2.2.2.1 else y.2.2.2.2.1
def hp_m3 : HP := { n := 137, lv := [1, 2, 4, 5, 6, 8, 9, 12], sp := [.ty (.slice five), .ptr 0 0, .ptr 1 0, .ptr 2 0, .ty ity, .ptr 3 0, .ty ity, .ty ity], op := [.cells [.ty ity, .ty (.slice ity), .ty (.slice retT)], .cells [.ci 0, .nl, .nl], .cells [.ty ity, .ty (.slice ity), .ty (.slice retT)], .cells [.ty ity, .ty ity, .bz 0]], bp := [.arr ity] }
def lve_m3 : Ex → List Nat
 | .normal => [1, 2, 4, 5, 6, 8, 9, 12]
 | .exit 6 => [1, 2, 4, 5, 6, 8]
 | _ => []
theorem bd_m3 : Try.f38.body = some (root 38) := by kernel_rfl
theorem le_m3 : (loops (root 38))[3]? = some (lp 38 3) := by kernel_rfl
theorem li_m3 : Lies (root 38) 4 (lp 38 3) := Lies.of_take (n := 0) (by kernel_rfl)
def st_m3 (x : List (Ty.den five)) (c : Int) (ds : List Int) (rs : List (Ty.den retT)) (c2 : Int) (ds2 : List Int) (o : List (Ty.den retT)) (i q n : Int) (j : Nat) (lf k : Int) (b : List Int) : St := hp_m3.st ⟨(x, (), (), (), i, (), lf, k, ()), ((c, ds, rs, ()), ((), (), (), ()), (c2, ds2, o, ()), (q, n, j, ()), ()), (b, ())⟩
noncomputable def rn_m3 (x : List (Ty.den five)) (c : Int) (ds : List Int) (rs : List (Ty.den retT)) (c2 : Int) (ds2 : List Int) (o : List (Ty.den retT)) (i q n : Int) (j : Nat) (lf k : Int) (b : List Int) := outa lve_m3 (evCK Try.prog Γ (cfM Try.prog Γ cfg29 30) (cfg29.lo 38) [] 60 4 (lp 38 3) (st_m3 x c ds rs c2 ds2 o i q n j lf k b))
theorem rn_m3_eq (x : List (Ty.den five)) (c : Int) (ds : List Int) (rs : List (Ty.den retT)) (c2 : Int) (ds2 : List Int) (o : List (Ty.den retT)) (i q n : Int) (j : Nat) (lf k : Int) (b : List Int) : (rn_m3 x c ds rs c2 ds2 o i q n j lf k b).run = (bif decide (k < (Nat.cast (j) : Int)) then (bif decide ((0 : Int) ≤ i ∧ i < (x.length : Int)) then (bif decide ((0 : Int) ≤ IntKind.i64.wrap ((1 : Int) + k) ∧ IntKind.i64.wrap ((1 : Int) + k) < (5 : Int)) then (bif decide (inr (fx (x.getD i.toNat five.dflt) (IntKind.i64.wrap (1 + k))) = true ∧ IntKind.i64.wrap (lf + (1 : Int)) ≠ (0 : Int)) then (bif decide ((0 : Int) ≤ k ∧ k < (Nat.cast (j) : Int)) then (bif decide (0 + k.toNat < b.length) then (bif decide ((0 : Int) ≤ k ∧ k < (Nat.cast (j) : Int)) then (bif decide (0 + k.toNat < b.length) then (some ((Ex.normal, [V.slst .ro five x, V.ptr 0 0, V.ptr 1 0, V.ptr 2 0, V.si .i64 i, V.ptr 3 0, V.si .i64 (IntKind.i64.wrap (lf - pickD (fx (x.getD i.toNat five.dflt) (IntKind.i64.wrap (1 + k))) (IntKind.i64.wrap (lf + (1 : Int))))), V.si .i64 (IntKind.i64.wrap (k + (1 : Int)))], [some [V.si .i64 c, V.slst .ro ity ds, V.slst .ro retT rs], some [V.i .i64 (0 : Int), V.lst .full [], V.lst .full []], some [V.si .i64 c2, V.slst .ro ity ds2, V.slst .ro retT o], some [V.si .i64 q, V.si .i64 n, V.bs true 0 0 j]], [some (Bf.live (.arr ity (b.set (0 + k.toNat) (IntKind.i64.wrap (b.getD (0 + k.toNat) (0 : Int) + pickD (fx (x.getD i.toNat five.dflt) (IntKind.i64.wrap (1 + k))) (IntKind.i64.wrap (lf + (1 : Int))))))))], 137, 0, 0))) else none) else none) else none) else none) else none) else none) else none) else (some ((Ex.exit 6, [V.slst .ro five x, V.ptr 0 0, V.ptr 1 0, V.ptr 2 0, V.si .i64 i, V.ptr 3 0], [some [V.si .i64 c, V.slst .ro ity ds, V.slst .ro retT rs], some [V.i .i64 (0 : Int), V.lst .full [], V.lst .full []], some [V.si .i64 c2, V.slst .ro ity ds2, V.slst .ro retT o], some [V.si .i64 q, V.si .i64 n, V.bs true 0 0 j]], [some (Bf.live (.arr ity b))], 137, 0, 0)))) := by kernel_rfl
theorem rn_m3_c (x : List (Ty.den five)) (c : Int) (ds : List Int) (rs : List (Ty.den retT)) (c2 : Int) (ds2 : List Int) (o : List (Ty.den retT)) (i q n : Int) (j : Nat) (lf k : Int) (b : List Int) {e : Ex} {vs : List V} {ob : Ob} {nm : Nm} {n' kh kt : Nat} (h : (rn_m3 x c ds rs c2 ds2 o i q n j lf k b).run = some (e, vs, ob, nm, n', kh, kt)) : SemC Try.prog Γ (lp 38 3) (st_m3 x c ds rs c2 ds2 o i q n j lf k b) e.to (St.of n' (lve_m3 e) vs ob nm kh kt) := SemC.of_evM cfg29_ok Try.func38 bd_m3 li_m3 h
def nxt (n : Int) : Int := if n + 1 < 1000 then n + 1 else 1000
def nvT (o : List R1) (d n : Int) (b : List Int) : Nat → Int × List Int
 | 0 => (n, b)
 | k + 1 => bif rD (o.getD k retT.dflt) == d then (nxt (rN (o.getD k retT.dflt)), rV (o.getD k retT.dflt)) else nvT o d n b k
theorem nvT_next (o : List R1) (d n : Int) (b : List Int) (k : Nat) : nvT o d n b (k + 1) = bif rD (o.getD k retT.dflt) == d then (nxt (rN (o.getD k retT.dflt)), rV (o.getD k retT.dflt)) else nvT o d n b k := rfl
abbrev okO (o : List R1) : Prop := o.length ≤ 1000 ∧ ∀ r ∈ o, (rV r).length ≤ 1000 ∧ 0 ≤ rN r ∧ rN r ≤ 1000
abbrev pre_ml0 (o : List R1) (j : Nat) (k : Int) (b : List Int) : Prop := k = 0 ∧ j = b.length ∧ okO o
abbrev pre_ml (x : List (Ty.den five)) (c : Int) (ds : List Int) (rs : List (Ty.den retT)) (c2 : Int) (ds2 : List Int) (o : List (Ty.den retT)) (i d q n : Int) (j : Nat) (lf k : Int) (b : List Int) : Prop := pre_ml0 o j k b
def rs_ml (x : List (Ty.den five)) (c : Int) (ds : List Int) (rs : List (Ty.den retT)) (c2 : Int) (ds2 : List Int) (o : List (Ty.den retT)) (i d q n : Int) (j : Nat) (lf k : Int) (b : List Int) : Ex × St := (.exit 2, St.of 137 (lve_ml (.exit 2)) [.slst .ro five x, .ptr 0 0, .ptr 1 0, .ptr 2 0, .si .i64 i, .ptr 3 0, .si .i64 lf] [some [.si .i64 c, .slst .ro ity ds, .slst .ro retT rs], some [.i .i64 0, .lst .full [], .lst .full []], some [.si .i64 c2, .slst .ro ity ds2, .slst .ro retT o], some [.si .i64 q, .si .i64 (nvT o d n b o.length).1, .bs true 0 0 (nvT o d n b o.length).2.length]] [some (.live (.arr ity (nvT o d n b o.length).2))] hp_ml.kh hp_ml.kt)
def res_ml (x : List (Ty.den five)) (c : Int) (ds : List Int) (rs : List (Ty.den retT)) (c2 : Int) (ds2 : List Int) (o : List (Ty.den retT)) (i d q n : Int) (j : Nat) (lf k : Int) (b : List Int) : Tr (Ex × St) := .br (decide (pre_ml x c ds rs c2 ds2 o i d q n j lf k b)) (.leaf (some (.exit 2, St.of 137 (lve_ml (.exit 2)) [.slst .ro five x, .ptr 0 0, .ptr 1 0, .ptr 2 0, .si .i64 i, .ptr 3 0, .si .i64 lf] [some [.si .i64 c, .slst .ro ity ds, .slst .ro retT rs], some [.i .i64 0, .lst .full [], .lst .full []], some [.si .i64 c2, .slst .ro ity ds2, .slst .ro retT o], some [.si .i64 q, .si .i64 (nvT o d n b o.length).1, .bs true 0 0 (nvT o d n b o.length).2.length]] [some (.live (.arr ity (nvT o d n b o.length).2))] hp_ml.kh hp_ml.kt))) (.leaf none)
def ent_ml : LEnt := LEnt.by hp_ml fun ⟨(x, _, _, _, i, d, _, lf, k, _), ((c, ds, rs, _), (_, _, _, _), (c2, ds2, o, _), (q, n, j, _), _), (b, _)⟩ => res_ml x c ds rs c2 ds2 o i d q n j lf k b
theorem ent_ml_ok (hgo : ∀ (x : List (Ty.den five)) (c : Int) (ds : List Int) (rs : List (Ty.den retT)) (c2 : Int) (ds2 : List Int) (o : List (Ty.den retT)) (i d q n : Int) (j : Nat) (lf k : Int) (b : List Int), pre_ml x c ds rs c2 ds2 o i d q n j lf k b → SemL Try.prog Γ (lp 38 1) (st_ml x c ds rs c2 ds2 o i d q n j lf k b) (rs_ml x c ds rs c2 ds2 o i d q n j lf k b).1.to (rs_ml x c ds rs c2 ds2 o i d q n j lf k b).2) : EntOk Try.prog Γ (lp 38 1) ent_ml := LEnt.by_ok fun ⟨(x, _, _, _, i, d, _, lf, k, _), ((c, ds, rs, _), (_, _, _, _), (c2, ds2, o, _), (q, n, j, _), _), (b, _)⟩ _ _ h_ => SemL.br (out := rs_ml x c ds rs c2 ds2 o i d q n j lf k b) rfl (hgo x c ds rs c2 ds2 o i d q n j lf k b) h_
theorem ml_go (x : List (Ty.den five)) (c : Int) (ds : List Int) (rs : List (Ty.den retT)) (c2 : Int) (ds2 : List Int) (o : List (Ty.den retT)) (i d q n : Int) (j : Nat) (lf k : Int) (b : List Int) (h : pre_ml x c ds rs c2 ds2 o i d q n j lf k b) : SemL Try.prog Γ (lp 38 1) (st_ml x c ds rs c2 ds2 o i d q n j lf k b) (rs_ml x c ds rs c2 ds2 o i d q n j lf k b).1.to (rs_ml x c ds rs c2 ds2 o i d q n j lf k b).2 := by
 obtain ⟨rfl, rfl, hol, ho⟩ := h
 refine SemL.scan o.length 0 (Nat.zero_le _) (fun k => st_ml x c ds rs c2 ds2 o i d q (nvT o d n b k).1 (nvT o d n b k).2.length lf (k : Nat) (nvT o d n b k).2) (fun _ => true) _ ?_ ?_ ?_
 · intro k _ hk _ _
   obtain ⟨h1, h2, h3⟩ := ho _ (getD_mem retT.dflt hk)
   have hb : (0 : Int) ≤ (k : Int) ∧ (k : Int) < (Nat.cast o.length : Int) := by omega
   refine rn_ml_c x c ds rs c2 ds2 o i d q _ _ lf k _ (e := .normal) ?_
   rw [rn_ml_eq, wrap_succ hk (by omega), decide_eq_true hb.2, decide_eq_true hb, Int.toNat_natCast, decide_eq_true (by omega : (rV (o.getD k retT.dflt)).length * 2 * 8 ≤ 281474976710656), wrap_in (n := rN (o.getD k retT.dflt) + 1) (by omega) (by omega), nvT_next]
   cases rD (o.getD k retT.dflt) == d <;> rfl
 · intro k _ _ _ hp
   cases hp
 · intro _
   unfold rs_ml
   refine ⟨by simp [Ex.to], rn_ml_c x c ds rs c2 ds2 o i d q _ _ lf o.length _ (e := .exit 2) ?_⟩
   rw [rn_ml_eq, decide_eq_false (by omega)]
   rfl
abbrev pre_m20 (j : Nat) (lf k : Int) (b : List Int) : Prop := k = 0 ∧ j = b.length ∧ b.length ≤ 1000 ∧ (∀ x ∈ b, 0 ≤ x ∧ x ≤ 100000000) ∧ (0 ≤ lf ∧ lf ≤ 100000000)
abbrev pre_m2 (x : List (Ty.den five)) (c : Int) (ds : List Int) (rs : List (Ty.den retT)) (c2 : Int) (ds2 : List Int) (o : List (Ty.den retT)) (i q n : Int) (j : Nat) (lf k : Int) (b : List Int) : Prop := pre_m20 j lf k b
def rs_m2 (x : List (Ty.den five)) (c : Int) (ds : List Int) (rs : List (Ty.den retT)) (c2 : Int) (ds2 : List Int) (o : List (Ty.den retT)) (i q n : Int) (j : Nat) (lf k : Int) (b : List Int) : Ex × St := (.exit 4, St.of 137 (lve_m2 (.exit 4)) [.slst .ro five x, .ptr 0 0, .ptr 1 0, .ptr 2 0, .si .i64 i, .ptr 3 0, .si .i64 (lf - b.sum)] [some [.si .i64 c, .slst .ro ity ds, .slst .ro retT rs], some [.i .i64 0, .lst .full [], .lst .full []], some [.si .i64 c2, .slst .ro ity ds2, .slst .ro retT o], some [.si .i64 q, .si .i64 n, .bs true 0 0 j]] [some (.live (.arr ity b))] hp_m2.kh hp_m2.kt)
def res_m2 (x : List (Ty.den five)) (c : Int) (ds : List Int) (rs : List (Ty.den retT)) (c2 : Int) (ds2 : List Int) (o : List (Ty.den retT)) (i q n : Int) (j : Nat) (lf k : Int) (b : List Int) : Tr (Ex × St) := .br (decide (pre_m2 x c ds rs c2 ds2 o i q n j lf k b)) (.leaf (some (.exit 4, St.of 137 (lve_m2 (.exit 4)) [.slst .ro five x, .ptr 0 0, .ptr 1 0, .ptr 2 0, .si .i64 i, .ptr 3 0, .si .i64 (lf - b.sum)] [some [.si .i64 c, .slst .ro ity ds, .slst .ro retT rs], some [.i .i64 0, .lst .full [], .lst .full []], some [.si .i64 c2, .slst .ro ity ds2, .slst .ro retT o], some [.si .i64 q, .si .i64 n, .bs true 0 0 j]] [some (.live (.arr ity b))] hp_m2.kh hp_m2.kt))) (.leaf none)
def ent_m2 : LEnt := LEnt.by hp_m2 fun ⟨(x, _, _, _, i, _, lf, k, _), ((c, ds, rs, _), (_, _, _, _), (c2, ds2, o, _), (q, n, j, _), _), (b, _)⟩ => res_m2 x c ds rs c2 ds2 o i q n j lf k b
theorem ent_m2_ok (hgo : ∀ (x : List (Ty.den five)) (c : Int) (ds : List Int) (rs : List (Ty.den retT)) (c2 : Int) (ds2 : List Int) (o : List (Ty.den retT)) (i q n : Int) (j : Nat) (lf k : Int) (b : List Int), pre_m2 x c ds rs c2 ds2 o i q n j lf k b → SemL Try.prog Γ (lp 38 2) (st_m2 x c ds rs c2 ds2 o i q n j lf k b) (rs_m2 x c ds rs c2 ds2 o i q n j lf k b).1.to (rs_m2 x c ds rs c2 ds2 o i q n j lf k b).2) : EntOk Try.prog Γ (lp 38 2) ent_m2 := LEnt.by_ok fun ⟨(x, _, _, _, i, _, lf, k, _), ((c, ds, rs, _), (_, _, _, _), (c2, ds2, o, _), (q, n, j, _), _), (b, _)⟩ _ _ h_ => SemL.br (out := rs_m2 x c ds rs c2 ds2 o i q n j lf k b) rfl (hgo x c ds rs c2 ds2 o i q n j lf k b) h_
theorem m2_go (x : List (Ty.den five)) (c : Int) (ds : List Int) (rs : List (Ty.den retT)) (c2 : Int) (ds2 : List Int) (o : List (Ty.den retT)) (i q n : Int) (j : Nat) (lf k : Int) (b : List Int) (h : pre_m2 x c ds rs c2 ds2 o i q n j lf k b) : SemL Try.prog Γ (lp 38 2) (st_m2 x c ds rs c2 ds2 o i q n j lf k b) (rs_m2 x c ds rs c2 ds2 o i q n j lf k b).1.to (rs_m2 x c ds rs c2 ds2 o i q n j lf k b).2 := by
 obtain ⟨rfl, rfl, hl, hn, ha⟩ := h
 have e0 : lf = lf - (b.take 0).sum := by simp
 have key : SemL Try.prog Γ (lp 38 2) (st_m2 x c ds rs c2 ds2 o i q n b.length (lf - (b.take 0).sum) ((0 : Nat) : Int) b) (rs_m2 x c ds rs c2 ds2 o i q n b.length lf 0 b).1.to (rs_m2 x c ds rs c2 ds2 o i q n b.length lf 0 b).2 := by
  refine SemL.scan b.length 0 (Nat.zero_le _) (fun k => st_m2 x c ds rs c2 ds2 o i q n b.length (lf - (b.take k).sum) (k : Nat) b) (fun _ => true) _ ?_ ?_ ?_
  · intro k _ hk _ _
    have h1 := sum_bnd_take (by omega) hn k (by omega)
    have h2 := hn _ (getD_mem 0 hk)
    refine rn_m2_c x c ds rs c2 ds2 o i q n _ _ k _ (e := .normal) ?_
    rw [rn_m2_eq, wrap_succ hk (by omega), decide_eq_true (by omega : (k : Int) < (Nat.cast b.length : Int)), decide_eq_true (by omega : (0 : Int) ≤ (k : Int) ∧ (k : Int) < (Nat.cast b.length : Int)), Int.toNat_natCast, Nat.zero_add, decide_eq_true hk, wrap_in (n := lf - (b.take k).sum - b.getD k 0) (by omega) (by omega), show lf - (b.take k).sum - b.getD k 0 = lf - (b.take (k + 1)).sum by rw [sum_take hk]; omega]
    rfl
  · intro k _ _ _ hp
    cases hp
  · intro _
    unfold rs_m2
    refine ⟨by simp [Ex.to], rn_m2_c x c ds rs c2 ds2 o i q n _ _ b.length _ (e := .exit 4) ?_⟩
    rw [rn_m2_eq, decide_eq_false (by omega), List.take_length]
    rfl
 rwa [← e0] at key
def okF5 (y : Ty.den five) : Bool := inr y.1 && (inr y.2.1 && (inr y.2.2.1 && (inr y.2.2.2.1 && inr y.2.2.2.2.1)))
theorem fx_in {y : Ty.den five} (h : okF5 y = true) (m : Int) : inr (fx y m) = true := by
 unfold okF5 at h
 simp only [Bool.and_eq_true] at h
 unfold fx
 cases decide (m = 0)
 · cases decide (m - 1 = 0)
   · cases decide (m - 1 - 1 = 0)
     · cases decide (m - 1 - 1 - 1 = 0)
       · exact h.2.2.2.2
       · exact h.2.2.2.1
     · exact h.2.2.1
   · exact h.2.1
 · exact h.1
def mvT (y : Ty.den five) (b : List Int) (lf : Int) : Nat → List Int × Int
 | 0 => (b, lf)
 | k + 1 => ((mvT y b lf k).1.set k ((mvT y b lf k).1.getD k 0 + pickD (fx y (1 + k)) ((mvT y b lf k).2 + 1)), (mvT y b lf k).2 - pickD (fx y (1 + k)) ((mvT y b lf k).2 + 1))
theorem mvT_next (y : Ty.den five) (b : List Int) (lf : Int) (k : Nat) : mvT y b lf (k + 1) = ((mvT y b lf k).1.set k ((mvT y b lf k).1.getD k 0 + pickD (fx y (1 + k)) ((mvT y b lf k).2 + 1)), (mvT y b lf k).2 - pickD (fx y (1 + k)) ((mvT y b lf k).2 + 1)) := rfl
theorem sum_set {l : List Int} {k : Nat} (v : Int) (h : k < l.length) : (l.set k v).sum = l.sum - l.getD k 0 + v := by
 induction l generalizing k with
 | nil => simp at h
 | cons y t ih =>
  cases k with
  | zero => simp; omega
  | succ k =>
   have := ih (k := k) (by simpa using h)
   simp only [List.set_cons_succ, List.sum_cons, this]
   have : (y :: t).getD (k + 1) 0 = t.getD k 0 := rfl
   omega
theorem getD_set {l : List Int} {k m : Nat} (v : Int) (h : k < l.length) : (l.set k v).getD m 0 = if m = k then v else l.getD m 0 := by
 simp only [List.getD_eq_getElem?_getD, List.getElem?_set]
 by_cases e : k = m
 · subst e; simp [h]
 · rw [if_neg e, if_neg (fun h => e h.symm)]
theorem mvT_ok {y : Ty.den five} {b : List Int} {lf : Int} (h0 : 0 ≤ lf) (hb : ∀ x ∈ b, 0 ≤ x) : ∀ k, k ≤ b.length → (mvT y b lf k).1.length = b.length ∧ (0 ≤ (mvT y b lf k).2 ∧ (mvT y b lf k).2 ≤ lf) ∧ (mvT y b lf k).1.sum + (mvT y b lf k).2 = b.sum + lf ∧ ∀ m, b.getD m 0 ≤ (mvT y b lf k).1.getD m 0
 | 0, _ => ⟨rfl, ⟨h0, Int.le_refl _⟩, rfl, fun m => Int.le_refl _⟩
 | k + 1, hk => by
  obtain ⟨h1, ⟨h2, h3⟩, h4, h5⟩ := mvT_ok (y := y) h0 hb k (by omega)
  have hp := pickD_lt (k := fx y (1 + k)) (n := (mvT y b lf k).2 + 1) (by omega)
  rw [mvT_next]
  refine ⟨by rw [List.length_set, h1], ⟨by simp only []; omega, by simp only []; omega⟩, ?_, fun m => ?_⟩
  · simp only []
    rw [sum_set _ (by omega)]; omega
  · simp only []
    rw [getD_set _ (by omega)]
    have := h5 m
    by_cases e : m = k
    · subst e; rw [if_pos rfl]; omega
    · rw [if_neg e]; exact this
abbrev pre_m30 (x : List (Ty.den five)) (i : Int) (j : Nat) (lf k : Int) (b : List Int) : Prop := k = 0 ∧ j = b.length ∧ b.length ≤ 4 ∧ (0 ≤ i ∧ i < (x.length : Int)) ∧ okF5 (x.getD i.toNat five.dflt) = true ∧ (0 ≤ lf ∧ lf ≤ 100000000) ∧ (∀ x ∈ b, 0 ≤ x) ∧ b.sum ≤ 100000000
abbrev pre_m3 (x : List (Ty.den five)) (c : Int) (ds : List Int) (rs : List (Ty.den retT)) (c2 : Int) (ds2 : List Int) (o : List (Ty.den retT)) (i q n : Int) (j : Nat) (lf k : Int) (b : List Int) : Prop := pre_m30 x i j lf k b
def rs_m3 (x : List (Ty.den five)) (c : Int) (ds : List Int) (rs : List (Ty.den retT)) (c2 : Int) (ds2 : List Int) (o : List (Ty.den retT)) (i q n : Int) (j : Nat) (lf k : Int) (b : List Int) : Ex × St := (.exit 6, St.of 137 (lve_m3 (.exit 6)) [.slst .ro five x, .ptr 0 0, .ptr 1 0, .ptr 2 0, .si .i64 i, .ptr 3 0] [some [.si .i64 c, .slst .ro ity ds, .slst .ro retT rs], some [.i .i64 0, .lst .full [], .lst .full []], some [.si .i64 c2, .slst .ro ity ds2, .slst .ro retT o], some [.si .i64 q, .si .i64 n, .bs true 0 0 j]] [some (.live (.arr ity (mvT (x.getD i.toNat five.dflt) b lf b.length).1))] hp_m3.kh hp_m3.kt)
def res_m3 (x : List (Ty.den five)) (c : Int) (ds : List Int) (rs : List (Ty.den retT)) (c2 : Int) (ds2 : List Int) (o : List (Ty.den retT)) (i q n : Int) (j : Nat) (lf k : Int) (b : List Int) : Tr (Ex × St) := .br (decide (pre_m3 x c ds rs c2 ds2 o i q n j lf k b)) (.leaf (some (.exit 6, St.of 137 (lve_m3 (.exit 6)) [.slst .ro five x, .ptr 0 0, .ptr 1 0, .ptr 2 0, .si .i64 i, .ptr 3 0] [some [.si .i64 c, .slst .ro ity ds, .slst .ro retT rs], some [.i .i64 0, .lst .full [], .lst .full []], some [.si .i64 c2, .slst .ro ity ds2, .slst .ro retT o], some [.si .i64 q, .si .i64 n, .bs true 0 0 j]] [some (.live (.arr ity (mvT (x.getD i.toNat five.dflt) b lf b.length).1))] hp_m3.kh hp_m3.kt))) (.leaf none)
def ent_m3 : LEnt := LEnt.by hp_m3 fun ⟨(x, _, _, _, i, _, lf, k, _), ((c, ds, rs, _), (_, _, _, _), (c2, ds2, o, _), (q, n, j, _), _), (b, _)⟩ => res_m3 x c ds rs c2 ds2 o i q n j lf k b
theorem ent_m3_ok (hgo : ∀ (x : List (Ty.den five)) (c : Int) (ds : List Int) (rs : List (Ty.den retT)) (c2 : Int) (ds2 : List Int) (o : List (Ty.den retT)) (i q n : Int) (j : Nat) (lf k : Int) (b : List Int), pre_m3 x c ds rs c2 ds2 o i q n j lf k b → SemL Try.prog Γ (lp 38 3) (st_m3 x c ds rs c2 ds2 o i q n j lf k b) (rs_m3 x c ds rs c2 ds2 o i q n j lf k b).1.to (rs_m3 x c ds rs c2 ds2 o i q n j lf k b).2) : EntOk Try.prog Γ (lp 38 3) ent_m3 := LEnt.by_ok fun ⟨(x, _, _, _, i, _, lf, k, _), ((c, ds, rs, _), (_, _, _, _), (c2, ds2, o, _), (q, n, j, _), _), (b, _)⟩ _ _ h_ => SemL.br (out := rs_m3 x c ds rs c2 ds2 o i q n j lf k b) rfl (hgo x c ds rs c2 ds2 o i q n j lf k b) h_
theorem mem_le_sum {l : List Int} (h : ∀ x ∈ l, 0 ≤ x) {x : Int} (hx : x ∈ l) : x ≤ l.sum := by
 induction l with
 | nil => simp at hx
 | cons y t ih =>
  have h0 := h y (by simp)
  have h1 := sum_nonneg (l := t) fun z hz => h z (by simp [hz])
  rw [List.sum_cons]
  simp only [List.mem_cons] at hx
  rcases hx with rfl | hx
  · omega
  · have := ih (fun z hz => h z (by simp [hz])) hx; omega
theorem nonneg_of_ge {b l : List Int} (hl : l.length = b.length) (hb : ∀ x ∈ b, 0 ≤ x) (h : ∀ m, b.getD m 0 ≤ l.getD m 0) : ∀ x ∈ l, 0 ≤ x := fun x hx => by
 obtain ⟨m, hm, rfl⟩ := List.getElem_of_mem hx
 have h1 := h m
 have h2 := getD_nonneg hb m
 have : l.getD m 0 = l[m] := by simp [List.getD, hm]
 omega
theorem m3_go (x : List (Ty.den five)) (c : Int) (ds : List Int) (rs : List (Ty.den retT)) (c2 : Int) (ds2 : List Int) (o : List (Ty.den retT)) (i q n : Int) (j : Nat) (lf k : Int) (b : List Int) (h : pre_m3 x c ds rs c2 ds2 o i q n j lf k b) : SemL Try.prog Γ (lp 38 3) (st_m3 x c ds rs c2 ds2 o i q n j lf k b) (rs_m3 x c ds rs c2 ds2 o i q n j lf k b).1.to (rs_m3 x c ds rs c2 ds2 o i q n j lf k b).2 := by
 obtain ⟨rfl, rfl, hl, hi, hy, hlf, hb, hs⟩ := h
 refine SemL.scan b.length 0 (Nat.zero_le _) (fun k => st_m3 x c ds rs c2 ds2 o i q n b.length (mvT (x.getD i.toNat five.dflt) b lf k).2 (k : Nat) (mvT (x.getD i.toNat five.dflt) b lf k).1) (fun _ => true) _ ?_ ?_ ?_
 · intro k _ hk _ _
   obtain ⟨h1, ⟨h2, h3⟩, h4, h5⟩ := mvT_ok (y := x.getD i.toNat five.dflt) hlf.1 hb k (by omega)
   have hnn := nonneg_of_ge h1 hb h5
   have hp := pickD_lt (k := fx (x.getD i.toNat five.dflt) (1 + k)) (n := (mvT (x.getD i.toNat five.dflt) b lf k).2 + 1) (by omega)
   have hm := mem_le_sum hnn (getD_mem 0 (show k < (mvT (x.getD i.toNat five.dflt) b lf k).1.length by omega))
   have hm0 := getD_nonneg hnn k
   have hbb : (0 : Int) ≤ (k : Int) ∧ (k : Int) < (Nat.cast b.length : Int) := by omega
   refine rn_m3_c x c ds rs c2 ds2 o i q n _ _ k _ (e := .normal) ?_
   rw [rn_m3_eq, mvT_next]
   generalize hP : mvT (x.getD i.toNat five.dflt) b lf k = P at h1 h2 h3 h4 h5 hnn hp hm hm0 ⊢
   rw [wrap_in (n := (1 : Int) + k) (by omega) (by omega), wrap_in (n := P.2 + 1) (by omega) (by omega), wrap_in (n := P.2 - pickD (fx (x.getD i.toNat five.dflt) (1 + k)) (P.2 + 1)) (by omega) (by omega), wrap_succ hk (by omega), Int.toNat_natCast, Nat.zero_add,
    wrap_in (n := P.1.getD k 0 + pickD (fx (x.getD i.toNat five.dflt) (1 + k)) (P.2 + 1)) (by omega) (by omega),
    decide_eq_true hbb.2, decide_eq_true hi, decide_eq_true (by omega : (0 : Int) ≤ 1 + k ∧ 1 + (k : Int) < 5), decide_eq_true (show inr (fx (x.getD i.toNat five.dflt) (1 + k)) = true ∧ P.2 + 1 ≠ 0 from ⟨fx_in hy _, by omega⟩), decide_eq_true hbb, decide_eq_true (show k < P.1.length by omega)]
   rfl
 · intro k _ _ _ hp
   cases hp
 · intro _
   unfold rs_m3
   refine ⟨by simp [Ex.to], rn_m3_c x c ds rs c2 ds2 o i q n _ _ b.length _ (e := .exit 6) ?_⟩
   rw [rn_m3_eq, decide_eq_false (by omega)]
   rfl
def lo32 : LOrc := (LOrc.add (LOrc.add (LOrc.add lo28 38 1 ent_ml) 38 2 ent_m2) 38 3 ent_m3)
theorem lo32_ok : LOrcOk Try.prog Γ lo32 := (LOrcOk.add (LOrcOk.add (LOrcOk.add lo28_ok 38 1 Try.func38 bd_ml le_ml (ent_ml_ok ml_go)) 38 2 Try.func38 bd_m2 le_m2 (ent_m2_ok m2_go)) 38 3 Try.func38 bd_m3 le_m3 (ent_m3_ok m3_go))
noncomputable def cfg32 : Cfg := cfgQ oS9 lo32
theorem cfg32_ok : CfgOk Try.prog Γ cfg32 := cfgQ_ok oS9_ok lo32_ok
end T
end Go.Proofs.Ytofbchcclkejgaa

/- Package tally: more: pieces. -/
set_option linter.unusedVariables false
set_option linter.unusedSimpArgs false
set_option maxRecDepth 100000
set_option maxHeartbeats 4000000
namespace Go.Proofs.Ytofbchcclkejgaa
open Go
namespace T
theorem bd38 : Try.f38.body = some (root 38) := by kernel_rfl
noncomputable def mo : Code := lp 38 0
noncomputable def moA : Code := cA mo
noncomputable def moI : Code := cK (cA (cB mo))
noncomputable def moP (k : Nat) : Code := cA (tlN k moI)
noncomputable def moK : Code := cB (cB mo)
theorem mo_eq : mo = .seq moA (.seq (.block 1 (.seq (moP 0) (.seq (moP 1) (.seq (moP 2) (.seq (moP 3) (.seq (moP 4) (.seq (moP 5) (.seq (moP 6) (tlN 7 moI))))))))) moK) := by kernel_rfl
noncomputable def m7 (k : Nat) : Code := cA (tlN k (root 38))
theorem root38 : root 38 = .seq (m7 0) (.seq (m7 1) (.seq (.seq (cA (m7 2)) (.block 0 (.loop mo))) (tlN 3 (root 38)))) := by kernel_rfl
abbrev zO3 : Option (List V) := some [.i .i64 0, .lst .full [], .lst .full []]
def mS (x : List (Ty.den five)) (c : Int) (ds : List Int) (rs o : List R1) (i : Int) : St := St.of 137 [1, 2, 4, 5, 6] [.slst .ro five x, .ptr 0 0, .ptr 1 0, .ptr 2 0, .si .i64 i] [oT3 c ds rs, zO3, oT3 c ds o] []
theorem moA_eq (x : List (Ty.den five)) (c : Int) (ds : List Int) (rs o : List R1) (i : Int) : (pc 38 1 cfg32 moA [1, 2, 4, 5, 6] [4, 5] (mS x c ds rs o i)).run = (bif bif decide (i < (Nat.cast (x.length) : Int)) then decide (i < (30 : Int)) else false then (some ((Ex.normal, [V.slst Tag.ro five x, V.ptr (0 : Nat) (0 : Nat), V.ptr (1 : Nat) (0 : Nat), V.ptr (2 : Nat) (0 : Nat), V.si IntKind.i64 i], [some [V.si IntKind.i64 c, V.slst Tag.ro ity ds, V.slst Tag.ro retT rs], some [V.i IntKind.i64 (0 : Int), V.lst Tag.full [], V.lst Tag.full []], some [V.si IntKind.i64 c, V.slst Tag.ro ity ds, V.slst Tag.ro retT o]], [], (137 : Nat), (0 : Nat), (0 : Nat)))) else (some ((Ex.exit (0 : Nat), [V.ptr (0 : Nat) (0 : Nat), V.ptr (1 : Nat) (0 : Nat)], [some [V.i IntKind.i64 (0 : Int), V.lst Tag.full [], V.lst Tag.full []], some [V.si IntKind.i64 c, V.slst Tag.ro ity ds, V.slst Tag.ro retT o]], [], (137 : Nat), (0 : Nat), (0 : Nat))))) := by kernel_rfl
theorem mo0_eq (x : List (Ty.den five)) (c : Int) (ds : List Int) (rs o : List R1) (i : Int) : (pc 38 1 cfg32 (moP 0) [1, 2, 4, 5, 6, 7] [] (mS x c ds rs o i)).run = (bif decide ((0 : Int) ≤ i ∧ i < (Nat.cast (x.length) : Int)) then (bif decide (inr (x.getD i.toNat five.dflt).fst = true ∧ (Nat.cast (ds.length) : Int) ≠ (0 : Int)) then (some ((Ex.normal, [V.slst Tag.ro five x, V.ptr (0 : Nat) (0 : Nat), V.ptr (1 : Nat) (0 : Nat), V.ptr (2 : Nat) (0 : Nat), V.si IntKind.i64 i, V.si IntKind.i64 (pickD (x.getD i.toNat five.dflt).fst (Nat.cast (ds.length) : Int))], [some [V.si IntKind.i64 c, V.slst Tag.ro ity ds, V.slst Tag.ro retT rs], some [V.i IntKind.i64 (0 : Int), V.lst Tag.full [], V.lst Tag.full []], some [V.si IntKind.i64 c, V.slst Tag.ro ity ds, V.slst Tag.ro retT o]], [], (137 : Nat), (0 : Nat), (0 : Nat)))) else none) else none) := by kernel_rfl
theorem mo1_eq (x : List (Ty.den five)) (c : Int) (ds : List Int) (rs o : List R1) (i d : Int) : (pc 38 1 cfg32 (moP 1) [1, 2, 4, 5, 6, 7, 8] [] (St.of 137 [1, 2, 4, 5, 6, 7] [.slst .ro five x, .ptr 0 0, .ptr 1 0, .ptr 2 0, .si .i64 i, .si .i64 d] [oT3 c ds rs, zO3, oT3 c ds o] [])).run = (bif decide ((0 : Int) ≤ c ∧ c ≤ c ∧ (8 : Int) * c ≤ (281474976710656 : Int) ∧ c ≤ (9223372036854775807 : Int)) then (some ((Ex.normal, [V.slst Tag.ro five x, V.ptr (0 : Nat) (0 : Nat), V.ptr (1 : Nat) (0 : Nat), V.ptr (2 : Nat) (0 : Nat), V.si IntKind.i64 i, V.si IntKind.i64 d, V.ptr (3 : Nat) (0 : Nat)], [some [V.si IntKind.i64 c, V.slst Tag.ro ity ds, V.slst Tag.ro retT rs], some [V.i IntKind.i64 (0 : Int), V.lst Tag.full [], V.lst Tag.full []], some [V.si IntKind.i64 c, V.slst Tag.ro ity ds, V.slst Tag.ro retT o], some [V.si IntKind.i64 d, V.i IntKind.i64 (1 : Int), V.bs true (0 : Nat) (0 : Nat) c.toNat]], [some (Bf.live (BC.arr (Ty.int IntKind.i64) (List.replicate c.toNat (0 : Int))))], (137 : Nat), (0 : Nat), (0 : Nat)))) else none) := by kernel_rfl
theorem mo2_eq (x : List (Ty.den five)) (c : Int) (ds : List Int) (rs o : List R1) (i d : Int) (j : Nat) (b : List Int) : (pc 38 1 cfg32 (moP 2) [1, 2, 4, 5, 6, 7, 8, 9] [] (St.of 137 [1, 2, 4, 5, 6, 7, 8] [.slst .ro five x, .ptr 0 0, .ptr 1 0, .ptr 2 0, .si .i64 i, .si .i64 d, .ptr 3 0] [oT3 c ds rs, zO3, oT3 c ds o, some [.si .i64 d, .i .i64 1, .bs true 0 0 j]] [some (.live (.arr ity b))])).run = (bif decide ((0 : Int) ≤ d ∧ d < (Nat.cast (ds.length) : Int)) then (some ((Ex.normal, [V.slst Tag.ro five x, V.ptr (0 : Nat) (0 : Nat), V.ptr (1 : Nat) (0 : Nat), V.ptr (2 : Nat) (0 : Nat), V.si IntKind.i64 i, V.si IntKind.i64 d, V.ptr (3 : Nat) (0 : Nat), V.si IntKind.i64 (ds.getD d.toNat (0 : Int))], [some [V.si IntKind.i64 c, V.slst Tag.ro ity ds, V.slst Tag.ro retT rs], some [V.i IntKind.i64 (0 : Int), V.lst Tag.full [], V.lst Tag.full []], some [V.si IntKind.i64 c, V.slst Tag.ro ity ds, V.slst Tag.ro retT o], some [V.si IntKind.i64 d, V.i IntKind.i64 (1 : Int), V.bs true (0 : Nat) (0 : Nat) j]], [some (Bf.live (BC.arr ity b))], (137 : Nat), (0 : Nat), (0 : Nat)))) else none) := by kernel_rfl
theorem mo3_eq (x : List (Ty.den five)) (c : Int) (ds : List Int) (rs o : List R1) (i d lf : Int) (j : Nat) (b : List Int) : (pc 38 1 cfg32 (moP 3) [1, 2, 4, 5, 6, 8, 9] [] (St.of 137 [1, 2, 4, 5, 6, 7, 8, 9] [.slst .ro five x, .ptr 0 0, .ptr 1 0, .ptr 2 0, .si .i64 i, .si .i64 d, .ptr 3 0, .si .i64 lf] [oT3 c ds rs, zO3, oT3 c ds o, some [.si .i64 d, .i .i64 1, .bs true 0 0 j]] [some (.live (.arr ity b))])).run = (bif decide (pre_ml x c ds rs c ds o i d d (1 : Int) j lf (0 : Int) b) then (some ((Ex.normal, [V.slst Tag.ro five x, V.ptr (0 : Nat) (0 : Nat), V.ptr (1 : Nat) (0 : Nat), V.ptr (2 : Nat) (0 : Nat), V.si IntKind.i64 i, V.ptr (3 : Nat) (0 : Nat), V.si IntKind.i64 lf], [some [V.si IntKind.i64 c, V.slst Tag.ro ity ds, V.slst Tag.ro retT rs], some [V.i IntKind.i64 (0 : Int), V.lst Tag.full [], V.lst Tag.full []], some [V.si IntKind.i64 c, V.slst Tag.ro ity ds, V.slst Tag.ro retT o], some [V.si IntKind.i64 d, V.si IntKind.i64 (nvT o d (1 : Int) b o.length).fst, V.bs true (0 : Nat) (0 : Nat) (nvT o d (1 : Int) b o.length).snd.length]], [some (Bf.live (BC.arr ity (nvT o d (1 : Int) b o.length).snd))], (137 : Nat), (0 : Nat), (0 : Nat)))) else none) := by kernel_rfl
theorem mo4_eq (x : List (Ty.den five)) (c : Int) (ds : List Int) (rs o : List R1) (i d n lf : Int) (b : List Int) : (pc 38 2 cfg32 (moP 4) [1, 2, 4, 5, 6, 8, 9] [] (St.of 137 [1, 2, 4, 5, 6, 8, 9] [.slst .ro five x, .ptr 0 0, .ptr 1 0, .ptr 2 0, .si .i64 i, .ptr 3 0, .si .i64 lf] [oT3 c ds rs, zO3, oT3 c ds o, some [.si .i64 d, .si .i64 n, .bs true 0 0 b.length]] [some (.live (.arr ity b))])).run = (bif decide (pre_m2 x c ds rs c ds o i d n b.length lf (0 : Int) b) then (some ((Ex.normal, [V.slst Tag.ro five x, V.ptr (0 : Nat) (0 : Nat), V.ptr (1 : Nat) (0 : Nat), V.ptr (2 : Nat) (0 : Nat), V.si IntKind.i64 i, V.ptr (3 : Nat) (0 : Nat), V.si IntKind.i64 (lf - b.sum)], [some [V.si IntKind.i64 c, V.slst Tag.ro ity ds, V.slst Tag.ro retT rs], some [V.i IntKind.i64 (0 : Int), V.lst Tag.full [], V.lst Tag.full []], some [V.si IntKind.i64 c, V.slst Tag.ro ity ds, V.slst Tag.ro retT o], some [V.si IntKind.i64 d, V.si IntKind.i64 n, V.bs true (0 : Nat) (0 : Nat) b.length]], [some (Bf.live (BC.arr ity b))], (137 : Nat), (0 : Nat), (0 : Nat)))) else none) := by kernel_rfl
theorem mo5_eq (x : List (Ty.den five)) (c : Int) (ds : List Int) (rs o : List R1) (i d n lf : Int) (b : List Int) : (pc 38 3 cfg32 (moP 5) [1, 2, 4, 5, 6, 8] [] (St.of 137 [1, 2, 4, 5, 6, 8, 9] [.slst .ro five x, .ptr 0 0, .ptr 1 0, .ptr 2 0, .si .i64 i, .ptr 3 0, .si .i64 lf] [oT3 c ds rs, zO3, oT3 c ds o, some [.si .i64 d, .si .i64 n, .bs true 0 0 b.length]] [some (.live (.arr ity b))])).run = (bif decide (pre_m3 x c ds rs c ds o i d n b.length lf (0 : Int) b) then (some ((Ex.normal, [V.slst Tag.ro five x, V.ptr (0 : Nat) (0 : Nat), V.ptr (1 : Nat) (0 : Nat), V.ptr (2 : Nat) (0 : Nat), V.si IntKind.i64 i, V.ptr (3 : Nat) (0 : Nat)], [some [V.si IntKind.i64 c, V.slst Tag.ro ity ds, V.slst Tag.ro retT rs], some [V.i IntKind.i64 (0 : Int), V.lst Tag.full [], V.lst Tag.full []], some [V.si IntKind.i64 c, V.slst Tag.ro ity ds, V.slst Tag.ro retT o], some [V.si IntKind.i64 d, V.si IntKind.i64 n, V.bs true (0 : Nat) (0 : Nat) b.length]], [some (Bf.live (BC.arr ity (mvT (x.getD i.toNat five.dflt) b lf b.length).fst))], (137 : Nat), (0 : Nat), (0 : Nat)))) else none) := by kernel_rfl
theorem mo6_eq (x : List (Ty.den five)) (c : Int) (ds : List Int) (rs o : List R1) (i d n : Int) (b : List Int) : (pc 38 4 cfg32 (moP 6) [1, 2, 4, 5, 6, 14, 15] [] (St.of 137 [1, 2, 4, 5, 6, 8] [.slst .ro five x, .ptr 0 0, .ptr 1 0, .ptr 2 0, .si .i64 i, .ptr 3 0] [oT3 c ds rs, zO3, oT3 c ds o, some [.si .i64 d, .si .i64 n, .slst .ro ity b]] [some .dead])).run = (bif decide (szR o ∧ b.length ≤ 1000000) then (some ((Ex.normal, [V.slst Tag.ro five x, V.ptr (0 : Nat) (0 : Nat), V.ptr (1 : Nat) (0 : Nat), V.ptr (2 : Nat) (0 : Nat), V.si IntKind.i64 i, V.ptr (3 : Nat) (0 : Nat), V.si IntKind.i64 (bif addOk c ds o d n b then (0 : Int) else (270 : Int))], [some [V.si IntKind.i64 c, V.slst Tag.ro ity ds, V.slst Tag.ro retT rs], some [V.i IntKind.i64 (0 : Int), V.lst Tag.full [], V.lst Tag.full []], some [V.si IntKind.i64 c, V.slst Tag.ro ity ds, V.slst Tag.ro retT o], some [V.si IntKind.i64 (bif addOk c ds o d n b then c else (0 : Int)), V.slst Tag.ro ity (bif addOk c ds o d n b then ds else []), V.slst Tag.ro retT (bif addOk c ds o d n b then joinD o [(d, n, b, ())] else [])]], [], (137 : Nat), (0 : Nat), (0 : Nat)))) else none) := by kernel_rfl
theorem mo7_eq (x : List (Ty.den five)) (c : Int) (ds : List Int) (rs o : List R1) (i c2 : Int) (ds2 : List Int) (o2 : List R1) (er : Int) : (pc 38 4 cfg32 (tlN 7 moI) [1, 2, 4, 5, 6] [] (St.of 137 [1, 2, 4, 5, 6, 14, 15] [.slst .ro five x, .ptr 0 0, .ptr 1 0, .ptr 2 0, .si .i64 i, .ptr 3 0, .si .i64 er] [oT3 c ds rs, zO3, oT3 c ds o, oT3 c2 ds2 o2] [])).run = (bif er == (0 : Int) then (some ((Ex.normal, [V.slst Tag.ro five x, V.ptr (0 : Nat) (0 : Nat), V.ptr (1 : Nat) (0 : Nat), V.ptr (2 : Nat) (0 : Nat), V.si IntKind.i64 i], [some [V.si IntKind.i64 c, V.slst Tag.ro ity ds, V.slst Tag.ro retT rs], some [V.i IntKind.i64 (0 : Int), V.lst Tag.full [], V.lst Tag.full []], some [V.si IntKind.i64 c2, V.slst Tag.ro ity ds2, V.slst Tag.ro retT o2]], [], (137 : Nat), (0 : Nat), (0 : Nat)))) else (some ((Ex.normal, [V.slst Tag.ro five x, V.ptr (0 : Nat) (0 : Nat), V.ptr (1 : Nat) (0 : Nat), V.ptr (2 : Nat) (0 : Nat), V.si IntKind.i64 i], [some [V.si IntKind.i64 c, V.slst Tag.ro ity ds, V.slst Tag.ro retT rs], some [V.i IntKind.i64 (0 : Int), V.lst Tag.full [], V.lst Tag.full []], some [V.si IntKind.i64 c, V.slst Tag.ro ity ds, V.slst Tag.ro retT o]], [], (137 : Nat), (0 : Nat), (0 : Nat))))) := by kernel_rfl
theorem moK_eq (x : List (Ty.den five)) (c : Int) (ds : List Int) (rs o : List R1) (i : Int) : (pc 38 4 cfg32 moK [1, 2, 4, 5, 6] [] (mS x c ds rs o i)).run = (some ((Ex.normal, [V.slst Tag.ro five x, V.ptr (0 : Nat) (0 : Nat), V.ptr (1 : Nat) (0 : Nat), V.ptr (2 : Nat) (0 : Nat), V.si IntKind.i64 (IntKind.i64.wrap (i + (1 : Int)))], [some [V.si IntKind.i64 c, V.slst Tag.ro ity ds, V.slst Tag.ro retT rs], some [V.i IntKind.i64 (0 : Int), V.lst Tag.full [], V.lst Tag.full []], some [V.si IntKind.i64 c, V.slst Tag.ro ity ds, V.slst Tag.ro retT o]], [], (137 : Nat), (0 : Nat), (0 : Nat)))) := by kernel_rfl
theorem m70_eq (x : List (Ty.den five)) (c : Int) (ds : List Int) (rs : List R1) : (pc 38 0 cfg32 (m7 0) [1, 2, 4] [] (St.start 137 [.agg [.si .i64 c, .slst .ro ity ds, .slst .ro retT rs], .slst .ro five x] [] [])).run = (some ((Ex.normal, [V.slst Tag.ro five x, V.ptr (0 : Nat) (0 : Nat), V.ptr (1 : Nat) (0 : Nat)], [some [V.si IntKind.i64 c, V.slst Tag.ro ity ds, V.slst Tag.ro retT rs], some [V.i IntKind.i64 (0 : Int), V.lst Tag.full [], V.lst Tag.full []]], [], (137 : Nat), (0 : Nat), (0 : Nat)))) := by kernel_rfl
theorem m71_eq (x : List (Ty.den five)) (c : Int) (ds : List Int) (rs : List R1) : (pc 38 0 cfg32 (m7 1) [1, 2, 4, 5] [] (St.of 137 [1, 2, 4] [.slst .ro five x, .ptr 0 0, .ptr 1 0] [oT3 c ds rs, zO3] [])).run = (some ((Ex.normal, [V.slst Tag.ro five x, V.ptr (0 : Nat) (0 : Nat), V.ptr (1 : Nat) (0 : Nat), V.ptr (2 : Nat) (0 : Nat)], [some [V.si IntKind.i64 c, V.slst Tag.ro ity ds, V.slst Tag.ro retT rs], some [V.i IntKind.i64 (0 : Int), V.lst Tag.full [], V.lst Tag.full []], some [V.si IntKind.i64 c, V.slst Tag.ro ity ds, V.slst Tag.ro retT rs]], [], (137 : Nat), (0 : Nat), (0 : Nat)))) := by kernel_rfl
theorem m72_eq (x : List (Ty.den five)) (c : Int) (ds : List Int) (rs : List R1) : (pc 38 0 cfg32 (cA (m7 2)) [1, 2, 4, 5, 6] [] (St.of 137 [1, 2, 4, 5] [.slst .ro five x, .ptr 0 0, .ptr 1 0, .ptr 2 0] [oT3 c ds rs, zO3, oT3 c ds rs] [])).run = (some ((Ex.normal, [V.slst Tag.ro five x, V.ptr (0 : Nat) (0 : Nat), V.ptr (1 : Nat) (0 : Nat), V.ptr (2 : Nat) (0 : Nat), V.i IntKind.i64 (0 : Int)], [some [V.si IntKind.i64 c, V.slst Tag.ro ity ds, V.slst Tag.ro retT rs], some [V.i IntKind.i64 (0 : Int), V.lst Tag.full [], V.lst Tag.full []], some [V.si IntKind.i64 c, V.slst Tag.ro ity ds, V.slst Tag.ro retT rs]], [], (137 : Nat), (0 : Nat), (0 : Nat)))) := by kernel_rfl
theorem m73_eq (c : Int) (ds : List Int) (o : List R1) : (pc 38 4 cfg32 (tlN 3 (root 38)) [] [4] (St.of 137 [4, 5] [.ptr 0 0, .ptr 1 0] [zO3, oT3 c ds o] [])).run = (some ((Ex.ret, [V.ptr (0 : Nat) (0 : Nat)], [some [V.si IntKind.i64 c, V.slst Tag.ro ity ds, V.slst Tag.ro retT o]], [], (137 : Nat), (0 : Nat), (0 : Nat)))) := by kernel_rfl
end T
end Go.Proofs.Ytofbchcclkejgaa

/- Package tally: newer returns of a place; votes that grow (plain). -/
set_option linter.unusedVariables false
set_option linter.unusedSimpArgs false
set_option maxRecDepth 100000
namespace Go.Proofs.Ytofbchcclkejgaa
open Go
namespace T
theorem lexC_ge : ∀ {a b : List Int}, a.length = b.length → (∀ k, b.getD k 0 ≤ a.getD k 0) → 0 ≤ lexC a b
 | [], [], _, _ => Int.le_refl _
 | x :: a, y :: b, hl, h => by
  have h0 : y ≤ x := h 0
  have ih := lexC_ge (a := a) (b := b) (by simpa using hl) fun k => h (k + 1)
  show 0 ≤ if sgn x y ≠ 0 then sgn x y else lexC a b
  unfold sgn
  by_cases h1 : x < y
  · omega
  · by_cases h2 : y < x
    · simp [h1, h2]
    · simp [h1, h2]; exact ih
theorem map_add (o : List R1) (r : R1) : mapOf (o ++ [r]) = stepM (mapOf o) r := foldM_append o [r] zeroM
theorem step_add {c : Int} {ds : List Int} {o : List R1} (hv : validT c ds o = true) {d : Nat} {n : Int} {b : List Int} (hpr : prR c ds (mkR (d : Int) n b) = true)
 (hnew : rN (mapOf o d) > 0 → n > rN (mapOf o d) ∨ (n = rN (mapOf o d) ∧ b.length = (vAt o d).length ∧ ∀ k, (vAt o d).getD k 0 ≤ b.getD k 0)) :
 validT c ds (canon (o ++ [mkR (d : Int) n b])) = true ∧ (∀ j, vAt (canon (o ++ [mkR (d : Int) n b])) j = if j = d then b else vAt o j) ∧ ∀ j, rN (mapOf (canon (o ++ [mkR (d : Int) n b])) j) = if j = d then n else rN (mapOf o j) := by
 obtain ⟨hc, hok, ha⟩ := validT_asc.1 hv
 have hl := validC_len hc
 have hok2 : okP c ds (o ++ [mkR (d : Int) n b]) := okP_app hok fun x hx => by
  have : x = mkR (d : Int) n b := by simpa using hx
  rw [this]; exact hpr
 have key : ∀ j, rV (mapOf (o ++ [mkR (d : Int) n b]) j) = (if j = d then b else vAt o j) ∧ rN (mapOf (o ++ [mkR (d : Int) n b]) j) = if j = d then n else rN (mapOf o j) := fun j => by
  rw [map_add]
  rcases stepM_gt (mapOf o) (mkR (d : Int) n b) j with ⟨e1, e2, e3⟩ | ⟨e1, e2⟩
  · have e1 : (d : Int) = j := e1
    rw [e3, if_pos (by omega), if_pos (by omega)]
    exact ⟨rfl, rfl⟩
  · rw [e2]
    by_cases hj : j = d
    · subst hj
      rw [if_pos rfl, if_pos rfl]
      have hng : ¬ gt (mkR (j : Int) n b) (mapOf o j) := fun h => e1 ⟨rfl, h⟩
      have hp : rN (mapOf o j) > 0 := by
       rcases best_map hok j with ⟨_, e⟩ | ⟨a, _, _⟩
       · rw [e] at hng
         exact absurd (gt_zero hpr j) hng
       · have := prR_N (hok _ a); omega
      rcases hnew hp with h | ⟨h1, h2, h3⟩
      · exfalso
        apply hng
        show cmpD n b (rN (mapOf o j)) (rV (mapOf o j)) > 0
        unfold cmpD
        have : sgn n (rN (mapOf o j)) > 0 := sgn_pos.2 (by omega)
        rw [if_pos (by omega)]; exact this
      · have hge : 0 ≤ cmpD n b (rN (mapOf o j)) (rV (mapOf o j)) := by
         unfold cmpD
         have : sgn n (rN (mapOf o j)) = 0 := by rw [h1]; unfold sgn; simp
         rw [if_neg (by rw [this]; simp)]
         exact lexC_ge h2 h3
        have hle : ¬ cmpD n b (rN (mapOf o j)) (rV (mapOf o j)) > 0 := hng
        have h0 := cmpD_zero.1 (by omega : cmpD n b (rN (mapOf o j)) (rV (mapOf o j)) = 0)
        exact ⟨h0.2.symm, h0.1.symm⟩
    · rw [if_neg hj, if_neg hj]; exact ⟨rfl, rfl⟩
 refine ⟨canon_valid hc hok2, fun j => ?_, fun j => ?_⟩
 · unfold vAt; rw [map_canon hl hok2]; exact (key j).1
 · rw [map_canon hl hok2]; exact (key j).2
theorem nvT_cases (o : List R1) (d n : Int) (b : List Int) : ∀ k, k ≤ o.length → (nvT o d n b k = (n, b) ∧ ∀ j, j < k → rD (o.getD j retT.dflt) ≠ d) ∨ ∃ r, r ∈ o ∧ rD r = d ∧ nvT o d n b k = (nxt (rN r), rV r)
 | 0, _ => .inl ⟨rfl, fun j h => by omega⟩
 | k + 1, hk => by
  rw [nvT_next]
  by_cases h : rD (o.getD k retT.dflt) = d
  · refine .inr ⟨_, getD_mem retT.dflt (show k < o.length by omega), h, ?_⟩
    rw [show (rD (o.getD k retT.dflt) == d) = true by rw [h]; exact beq_self_eq_true d]; rfl
  · rw [show (rD (o.getD k retT.dflt) == d) = false from beq_false_of_ne h]
    rcases nvT_cases o d n b k (by omega) with ⟨e, h2⟩ | h2
    · refine .inl ⟨e, fun j hj => ?_⟩
      by_cases e : j = k
      · subst e; exact h
      · exact h2 j (by omega)
    · exact .inr h2
theorem nvT_map {c : Int} {ds : List Int} {o : List R1} (hv : validT c ds o = true) (d : Nat) (n : Int) (b : List Int) :
 (nvT o d n b o.length = (n, b) ∧ mapOf o d = zeroM d) ∨ (nvT o d n b o.length = (nxt (rN (mapOf o d)), vAt o d) ∧ mapOf o d ∈ o ∧ rD (mapOf o d) = d) := by
 obtain ⟨hc, hok, ha⟩ := validT_asc.1 hv
 rcases nvT_cases o d n b o.length (Nat.le_refl _) with ⟨e, h⟩ | ⟨r, hr, hd, e⟩
 · refine .inl ⟨e, ?_⟩
   rcases best_map hok d with ⟨_, e⟩ | ⟨a, b, _⟩
   · exact e
   · obtain ⟨i, hi, hx⟩ := List.getElem_of_mem a
     have := h i hi
     rw [show o.getD i retT.dflt = mapOf o d by simp [List.getD, hi, hx]] at this
     exact absurd b this
 · rcases best_map hok d with ⟨a, _⟩ | ⟨a, b, _⟩
   · exact absurd hd (a r hr)
   · have := asc_D ha hr a (by rw [hd, b])
     subst this
     exact .inr ⟨e, a, b⟩
def vZ (c : Int) (o : List R1) (d : Nat) : List Int := (nvT o d 1 (List.replicate c.toNat 0) o.length).2
theorem rep_getD (n k : Nat) : (List.replicate n (0 : Int)).getD k 0 = 0 := by
 simp only [List.getD_eq_getElem?_getD, List.getElem?_replicate]; split <;> rfl
theorem nv_ok {c : Int} {ds : List Int} {o : List R1} (hv : validT c ds o = true) (d : Nat) :
 ((vZ c o d).length : Int) = c ∧ (∀ x ∈ vZ c o d, 0 ≤ x) ∧ (vZ c o d).sum ≤ ds.getD d 0 ∧ (∀ k, (vZ c o d).getD k 0 = (vAt o d).getD k 0) ∧ (vZ c o d).sum = (vAt o d).sum ∧
  (1 ≤ (nvT o d 1 (List.replicate c.toNat 0) o.length).1 ∧ (nvT o d 1 (List.replicate c.toNat 0) o.length).1 ≤ 1000) ∧
  (rN (mapOf o d) > 0 → (nvT o d 1 (List.replicate c.toNat 0) o.length).1 = nxt (rN (mapOf o d)) ∧ vZ c o d = vAt o d ∧ rN (mapOf o d) ≤ 1000) := by
 obtain ⟨hc, hok, ha⟩ := validT_asc.1 hv
 have hcc := (validC_iff.1 hc).1
 unfold vZ
 rcases nvT_map hv d 1 (List.replicate c.toNat 0) with ⟨e, hz⟩ | ⟨e, hm, hd⟩
 · rw [e]
   have hva : vAt o d = [] := by unfold vAt; rw [hz]; rfl
   refine ⟨by simp only [List.length_replicate]; omega, fun x hx => by have := (List.mem_replicate.1 hx).2; omega, ?_, fun k => ?_, ?_, by simp only []; omega, fun h => ?_⟩
   · have := ds_nonneg hc d
     simpa using this
   · rw [hva]; simp only [rep_getD]; rfl
   · rw [hva]; simp
   · rw [hz] at h; exact absurd h (by show ¬ (0 : Int) > 0; omega)
 · rw [e]
   have hp := hok _ hm
   obtain ⟨g1, g2, g3, g4, g5⟩ := properD_iff.1 hp
   rw [hd] at g5
   have g2 : 1 ≤ rN (mapOf o d) ∧ rN (mapOf o d) ≤ 1000 := g2
   have hn : 1 ≤ nxt (rN (mapOf o d)) ∧ nxt (rN (mapOf o d)) ≤ 1000 := by
    unfold nxt
    by_cases h : rN (mapOf o d) + 1 < 1000
    · rw [if_pos h]; omega
    · rw [if_neg h]; omega
   exact ⟨g3, fun x hx => (g4 x hx).1, g5, fun k => rfl, rfl, hn, fun _ => ⟨rfl, rfl, g2.2⟩⟩
def Grown (rs o : List R1) : Prop := ∀ j k : Nat, (vAt rs j).getD k 0 ≤ (vAt o j).getD k 0
def moT (c : Int) (ds : List Int) (x : List (Ty.den five)) (rs : List R1) : Nat → List R1
 | 0 => rs
 | i + 1 => joinD (moT c ds x rs i) [mkR (pickD (x.getD i five.dflt).1 (ds.length : Int)) (nvT (moT c ds x rs i) (pickD (x.getD i five.dflt).1 (ds.length : Int)) 1 (List.replicate c.toNat 0) (moT c ds x rs i).length).1
  (mvT (x.getD i five.dflt) (nvT (moT c ds x rs i) (pickD (x.getD i five.dflt).1 (ds.length : Int)) 1 (List.replicate c.toNat 0) (moT c ds x rs i).length).2
   (ds.getD (pickD (x.getD i five.dflt).1 (ds.length : Int)).toNat 0 - (nvT (moT c ds x rs i) (pickD (x.getD i five.dflt).1 (ds.length : Int)) 1 (List.replicate c.toNat 0) (moT c ds x rs i).length).2.sum)
   (nvT (moT c ds x rs i) (pickD (x.getD i five.dflt).1 (ds.length : Int)) 1 (List.replicate c.toNat 0) (moT c ds x rs i).length).2.length).1]
theorem mo_step {c : Int} {ds : List Int} {o : List R1} (hv : validT c ds o = true) {d : Nat} (hd : d < ds.length) (y : Ty.den five) :
 prR c ds (mkR (d : Int) (nvT o d 1 (List.replicate c.toNat 0) o.length).1 (mvT y (vZ c o d) (ds.getD d 0 - (vZ c o d).sum) (vZ c o d).length).1) = true ∧
  validT c ds (joinD o [mkR (d : Int) (nvT o d 1 (List.replicate c.toNat 0) o.length).1 (mvT y (vZ c o d) (ds.getD d 0 - (vZ c o d).sum) (vZ c o d).length).1]) = true ∧
  Grown o (joinD o [mkR (d : Int) (nvT o d 1 (List.replicate c.toNat 0) o.length).1 (mvT y (vZ c o d) (ds.getD d 0 - (vZ c o d).sum) (vZ c o d).length).1]) := by
 obtain ⟨h1, h2, h3, h4, h5, h6, h7⟩ := nv_ok hv d
 have hc := (validT_asc.1 hv).1
 have hdv := (validC_iff.1 hc).2.2 _ (getD_mem 0 hd)
 obtain ⟨k1, ⟨k2, k3⟩, k4, k5⟩ := mvT_ok (y := y) (b := vZ c o d) (lf := ds.getD d 0 - (vZ c o d).sum) (by omega) h2 (vZ c o d).length (Nat.le_refl _)
 have k6 := nonneg_of_ge k1 h2 k5
 have hpr : prR c ds (mkR (d : Int) (nvT o d 1 (List.replicate c.toNat 0) o.length).1 (mvT y (vZ c o d) (ds.getD d 0 - (vZ c o d).sum) (vZ c o d).length).1) = true := by
  refine properD_iff.2 ⟨by show 0 ≤ (d : Int) ∧ (d : Int) < (ds.length : Int); omega, h6, ?_, fun x hx => ⟨k6 x hx, ?_⟩, ?_⟩
  · show ((mvT y (vZ c o d) (ds.getD d 0 - (vZ c o d).sum) (vZ c o d).length).1.length : Int) = c
    rw [k1]; exact h1
  · have := mem_le_sum k6 hx
    omega
  · show (mvT y (vZ c o d) (ds.getD d 0 - (vZ c o d).sum) (vZ c o d).length).1.sum ≤ ds.getD ((d : Int)).toNat 0
    rw [Int.toNat_natCast]; omega
 have hnew : rN (mapOf o d) > 0 → (nvT o d 1 (List.replicate c.toNat 0) o.length).1 > rN (mapOf o d) ∨ ((nvT o d 1 (List.replicate c.toNat 0) o.length).1 = rN (mapOf o d) ∧ (mvT y (vZ c o d) (ds.getD d 0 - (vZ c o d).sum) (vZ c o d).length).1.length = (vAt o d).length ∧ ∀ k, (vAt o d).getD k 0 ≤ (mvT y (vZ c o d) (ds.getD d 0 - (vZ c o d).sum) (vZ c o d).length).1.getD k 0) := fun hp => by
  obtain ⟨g1, g2, g3⟩ := h7 hp
  rw [g1]
  unfold nxt
  by_cases hx : rN (mapOf o d) + 1 < 1000
  · rw [if_pos hx]; exact .inl (by omega)
  · rw [if_neg hx]
    by_cases hy : rN (mapOf o d) < 1000
    · exact .inl (by omega)
    · exact .inr ⟨by omega, by rw [k1, g2], fun k => by rw [← h4]; exact k5 k⟩
 obtain ⟨v1, v2, v3⟩ := step_add hv hpr hnew
 rw [joinD_eq]
 refine ⟨hpr, v1, fun j k => ?_⟩
 rw [v2 j]
 by_cases e : j = d
 · subst e; rw [if_pos rfl, ← h4]; exact k5 k
 · rw [if_neg e]; exact Int.le_refl _
theorem pick_nat {c : Int} {ds : List Int} (hc : validC c ds = true) (z : Int) : ∃ d : Nat, d < ds.length ∧ pickD z (ds.length : Int) = (d : Int) := by
 have h := (validC_iff.1 hc).2.1
 have := pickD_lt (k := z) (n := (ds.length : Int)) (by omega)
 exact ⟨(pickD z (ds.length : Int)).toNat, by omega, by omega⟩
theorem moT_next {c : Int} {ds : List Int} {x : List (Ty.den five)} {rs : List R1} {i d : Nat} (hd : pickD (x.getD i five.dflt).1 (ds.length : Int) = (d : Int)) :
 moT c ds x rs (i + 1) = joinD (moT c ds x rs i) [mkR (d : Int) (nvT (moT c ds x rs i) d 1 (List.replicate c.toNat 0) (moT c ds x rs i).length).1 (mvT (x.getD i five.dflt) (vZ c (moT c ds x rs i) d) (ds.getD d 0 - (vZ c (moT c ds x rs i) d).sum) (vZ c (moT c ds x rs i) d).length).1] := by
 rw [moT, hd, Int.toNat_natCast]; rfl
theorem moT_ok {c : Int} {ds : List Int} {x : List (Ty.den five)} {rs : List R1} (hv : validT c ds rs = true) : ∀ i, validT c ds (moT c ds x rs i) = true ∧ Grown rs (moT c ds x rs i)
 | 0 => ⟨hv, fun j k => Int.le_refl _⟩
 | i + 1 => by
  obtain ⟨h1, h2⟩ := moT_ok (x := x) hv i
  obtain ⟨d, hd, e⟩ := pick_nat (validT_asc.1 hv).1 (x.getD i five.dflt).1
  obtain ⟨_, g2, g3⟩ := mo_step h1 hd (x.getD i five.dflt)
  rw [moT_next e]
  exact ⟨g2, fun j k => Int.le_trans (h2 j k) (g3 j k)⟩
theorem diff_le : ∀ {l l2 : List Int}, l2.length = l.length → (∀ k, l.getD k 0 ≤ l2.getD k 0) → l.sum ≤ l2.sum ∧ ∀ m, l2.getD m 0 - l.getD m 0 ≤ l2.sum - l.sum
 | [], [], _, _ => ⟨Int.le_refl _, fun m => by simp⟩
 | x :: l, y :: l2, hl, h => by
  have h0 : x ≤ y := h 0
  obtain ⟨h1, h2⟩ := diff_le (l := l) (l2 := l2) (by simpa using hl) fun k => h (k + 1)
  refine ⟨by rw [List.sum_cons, List.sum_cons]; omega, fun m => ?_⟩
  rw [List.sum_cons, List.sum_cons]
  cases m with
  | zero => show y - x ≤ _; omega
  | succ m =>
   have := h2 m
   show l2.getD m 0 - l.getD m 0 ≤ _
   omega
theorem tot_grown {c : Int} {ds : List Int} {rs o : List R1} (hv : validT c ds rs = true) (hw : validT c ds o = true) (h : Grown rs o) (k : Nat) : (totD c rs).getD k 0 ≤ (totD c o).getD k 0 := by
 rw [totD_eq hv, totD_eq hw]
 exact sumJ_le fun j _ => h j k
theorem rest_sum {c : Int} {ds : List Int} {rs : List R1} (hv : validT c ds rs = true) : restD ds rs + (totD c rs).sum = ds.sum := by
 rw [totD_sum hv]; unfold restD; omega
theorem sure_grown {c : Int} {ds : List Int} {rs o : List R1} (hv : validT c ds rs = true) (hw : validT c ds o = true) (h : Grown rs o) :
 restD ds o ≤ restD ds rs ∧ ∀ a, a < (totD c rs).length → sureAt (totD c rs) (restD ds rs) a = true → sureAt (totD c o) (restD ds o) a = true := by
 obtain ⟨l1, _⟩ := totD_ok hv
 obtain ⟨l2, _⟩ := totD_ok hw
 obtain ⟨g1, g2⟩ := diff_le (l := totD c rs) (l2 := totD c o) (by omega) (tot_grown hv hw h)
 have r1 := rest_sum hv
 have r2 := rest_sum hw
 refine ⟨by omega, fun a ha hs => ?_⟩
 obtain ⟨s1, s2⟩ := sureAt_iff.1 hs
 have ga := tot_grown hv hw h a
 refine sureAt_iff.2 ⟨by omega, fun m hm hne => ?_⟩
 have := s2 m (by omega) hne
 have := g2 m
 omega
end T
end Go.Proofs.Ytofbchcclkejgaa

/- Package tally: more: contract. -/
set_option linter.unusedVariables false
set_option linter.unusedSimpArgs false
set_option maxRecDepth 100000
set_option maxHeartbeats 4000000
namespace Go.Proofs.Ytofbchcclkejgaa
open Go
namespace T
theorem mo_round {c : Int} {ds : List Int} {x : List (Ty.den five)} {rs o o2 : List R1} (hv : validT c ds o = true) (hx : ∀ y ∈ x, okF5 y = true) {i d : Nat} (hi : i < x.length) (h30 : i < 30) (hd : d < ds.length) (he : pickD (x.getD i five.dflt).1 (ds.length : Int) = (d : Int))
 (ho : joinD o [mkR (d : Int) (nvT o d 1 (List.replicate c.toNat 0) o.length).1 (mvT (x.getD i five.dflt) (vZ c o d) (ds.getD d 0 - (vZ c o d).sum) (vZ c o d).length).1] = o2) : SemC Try.prog Γ mo (mS x c ds rs o i) .normal (mS x c ds rs o2 ((i + 1 : Nat) : Int)) := by
 obtain ⟨hpr, hv2, _⟩ := mo_step hv hd (x.getD i five.dflt)
 obtain ⟨n1, n2, n3, n4, n5, n6, n7⟩ := nv_ok hv d
 have n0 := sum_nonneg n2
 have hc := (validC_iff.1 (validT_asc.1 hv).1)
 have hdv := hc.2.2 _ (getD_mem 0 hd)
 obtain ⟨k1, ⟨k2, k3⟩, k4, k5⟩ := mvT_ok (y := x.getD i five.dflt) (b := vZ c o d) (lf := ds.getD d 0 - (vZ c o d).sum) (by omega) n2 (vZ c o d).length (Nat.le_refl _)
 have hyi := hx _ (getD_mem five.dflt hi)
 have hin : inr (x.getD i five.dflt).1 = true := by
  unfold okF5 at hyi
  simp only [Bool.and_eq_true] at hyi
  exact hyi.1
 have hb : (0 : Int) ≤ (i : Int) ∧ (i : Int) < (Nat.cast x.length : Int) := by omega
 have hsz := validT_sz hv
 have hlen := validT_len hv
 have hokO : okO o := ⟨by omega, fun r hr => by
  have hp := (validT_asc.1 hv).2.1 r hr
  obtain ⟨g1, g2, g3, g4, g5⟩ := properD_iff.1 hp
  have g2 : 1 ≤ rN r ∧ rN r ≤ 1000 := g2
  exact ⟨by have : ((rV r).length : Int) = c := g3; omega, by omega, by omega⟩⟩
 have hA := pc_ok (e := .normal) cfg32_ok Try.func38 bd38 (lies0 (by kernel_rfl)) ((moA_eq x c ds rs o i).trans (by rw [decide_eq_true hb.2, decide_eq_true (by omega : (i : Int) < 30)]; rfl))
 have h0 := pc_ok (e := .normal) cfg32_ok Try.func38 bd38 (lies0 (by kernel_rfl)) ((mo0_eq x c ds rs o i).trans (by
  rw [decide_eq_true hb, Int.toNat_natCast, decide_eq_true (show inr (x.getD i five.dflt).1 = true ∧ (Nat.cast ds.length : Int) ≠ 0 from ⟨hin, by omega⟩), he]; rfl))
 have h1 := pc_ok (e := .normal) cfg32_ok Try.func38 bd38 (lies0 (by kernel_rfl)) ((mo1_eq x c ds rs o i d).trans (by
  rw [decide_eq_true (by omega : 0 ≤ c ∧ c ≤ c ∧ (8 : Int) * c ≤ 281474976710656 ∧ c ≤ 9223372036854775807)]; rfl))
 have h2 := pc_ok (e := .normal) cfg32_ok Try.func38 bd38 (lies0 (by kernel_rfl)) ((mo2_eq x c ds rs o i d c.toNat (List.replicate c.toNat 0)).trans (by
  rw [decide_eq_true (by omega : (0 : Int) ≤ (d : Int) ∧ (d : Int) < (Nat.cast ds.length : Int)), Int.toNat_natCast]; rfl))
 have h3 := pc_ok (e := .normal) cfg32_ok Try.func38 bd38 (Lies.of_take (n := 1) (by kernel_rfl)) ((mo3_eq x c ds rs o i d (ds.getD d 0) c.toNat (List.replicate c.toNat 0)).trans (by
  rw [decide_eq_true (show pre_ml x c ds rs c ds o i d d 1 c.toNat (ds.getD d 0) 0 (List.replicate c.toNat 0) from ⟨rfl, List.length_replicate.symm, hokO⟩)]; rfl))
 have h4 := pc_ok (e := .normal) cfg32_ok Try.func38 bd38 (Lies.of_take (n := 1) (by kernel_rfl)) ((mo4_eq x c ds rs o i d (nvT o d 1 (List.replicate c.toNat 0) o.length).1 (ds.getD d 0) (vZ c o d)).trans (by
  rw [decide_eq_true (show pre_m2 x c ds rs c ds o i d (nvT o d 1 (List.replicate c.toNat 0) o.length).1 (vZ c o d).length (ds.getD d 0) 0 (vZ c o d) from ⟨rfl, rfl, by omega, fun z hz => ⟨n2 z hz, by have := mem_le_sum n2 hz; omega⟩, by omega⟩)]; rfl))
 have h5 := pc_ok (e := .normal) cfg32_ok Try.func38 bd38 (Lies.of_take (n := 1) (by kernel_rfl)) ((mo5_eq x c ds rs o i d (nvT o d 1 (List.replicate c.toNat 0) o.length).1 (ds.getD d 0 - (vZ c o d).sum) (vZ c o d)).trans (by
  rw [decide_eq_true (show pre_m3 x c ds rs c ds o i d (nvT o d 1 (List.replicate c.toNat 0) o.length).1 (vZ c o d).length (ds.getD d 0 - (vZ c o d).sum) 0 (vZ c o d) from ⟨rfl, rfl, by omega, hb, by rw [Int.toNat_natCast]; exact hyi, by omega, n2, by omega⟩), Int.toNat_natCast]; rfl))
 have h5' := h5.postW (St.freezeO (o := 3) (k := 2) (s := 0) (sy := true) (L := (vZ c o d).length) (cs := [.si .i64 d, .si .i64 (nvT o d 1 (List.replicate c.toNat 0) o.length).1, .bs true 0 0 (vZ c o d).length]) (ty := ity) (l := (mvT (x.getD i five.dflt) (vZ c o d) (ds.getD d 0 - (vZ c o d).sum) (vZ c o d).length).1) rfl rfl rfl k1.symm)
 have hadd : addOk c ds o d (nvT o d 1 (List.replicate c.toNat 0) o.length).1 (mvT (x.getD i five.dflt) (vZ c o d) (ds.getD d 0 - (vZ c o d).sum) (vZ c o d).length).1 = true := by
  unfold addOk; rw [hv]; exact hpr
 have h6 := pc_ok (e := .normal) cfg32_ok Try.func38 bd38 (lies0 (by kernel_rfl)) ((mo6_eq x c ds rs o i d (nvT o d 1 (List.replicate c.toNat 0) o.length).1 (mvT (x.getD i five.dflt) (vZ c o d) (ds.getD d 0 - (vZ c o d).sum) (vZ c o d).length).1).trans (by
  rw [decide_eq_true (show szR o ∧ (mvT (x.getD i five.dflt) (vZ c o d) (ds.getD d 0 - (vZ c o d).sum) (vZ c o d).length).1.length ≤ 1000000 from ⟨hsz, by omega⟩), hadd, ho]; rfl))
 have h7 := pc_ok (e := .normal) cfg32_ok Try.func38 bd38 (lies0 (by kernel_rfl)) ((mo7_eq x c ds rs o i c ds o2 0).trans (by rw [beq_self_eq_true]; rfl))
 have hK := pc_ok (e := .normal) cfg32_ok Try.func38 bd38 (lies0 (by kernel_rfl)) ((moK_eq x c ds rs o2 i).trans (by rw [wrap_succ h30 (by omega)]))
 rw [mo_eq]
 exact hA.seq ((SemC.block (x := .normal) (by simp) (SemC.seq h0 (SemC.seq h1 (SemC.seq h2 (SemC.seq h3 (SemC.seq h4 (SemC.seq h5' (SemC.seq h6 h7)))))))).seq hK)
def mo30 (c : Int) (ds : List Int) (x : List (Ty.den five)) (rs : List R1) : List R1 := moT c ds x rs (min x.length 30)
theorem mo_go {c : Int} {ds : List Int} {x : List (Ty.den five)} {rs : List R1} (hv : validT c ds rs = true) (hx : ∀ y ∈ x, okF5 y = true) : SemL Try.prog Γ mo (mS x c ds rs rs 0) (.exit 0) (St.of 137 [4, 5] [.ptr 0 0, .ptr 1 0] [zO3, oT3 c ds (mo30 c ds x rs)] []) := by
 refine SemL.scan (min x.length 30) 0 (Nat.zero_le _) (fun i => mS x c ds rs (moT c ds x rs i) (i : Nat)) (fun _ => true) (.exit 0, St.of 137 [4, 5] [.ptr 0 0, .ptr 1 0] [zO3, oT3 c ds (mo30 c ds x rs)] []) ?_ ?_ ?_
 · intro i _ hi _ _
   obtain ⟨h1, _⟩ := moT_ok (x := x) hv i
   obtain ⟨d, hd, e⟩ := pick_nat (validT_asc.1 hv).1 (x.getD i five.dflt).1
   exact mo_round h1 hx (by omega) (by omega) hd e (moT_next e).symm
 · intro i _ _ _ hp
   cases hp
 · intro _
   refine ⟨by simp [Ex.to], ?_⟩
   have e : (bif decide (((min x.length 30 : Nat) : Int) < (Nat.cast x.length : Int)) then decide (((min x.length 30 : Nat) : Int) < 30) else false) = false := by
    by_cases h : x.length < 30
    · rw [decide_eq_false (by omega)]; rfl
    · rw [decide_eq_false (by omega : ¬ ((min x.length 30 : Nat) : Int) < 30)]; cases decide (((min x.length 30 : Nat) : Int) < (Nat.cast x.length : Int)) <;> rfl
   have hA := pc_ok (e := .exit 0) cfg32_ok Try.func38 bd38 (lies0 (by kernel_rfl)) ((moA_eq x c ds rs (mo30 c ds x rs) ((min x.length 30 : Nat) : Int)).trans (by rw [e]; rfl))
   rw [mo_eq]
   exact SemC.seq_out (by simp [Ex.to]) hA
theorem c38_ok (c : Int) (ds : List Int) (rs : List R1) (x : List (Ty.den five)) (h : validT c ds rs = true ∧ ∀ y ∈ x, okF5 y = true) : SemF Try.prog Γ 38 [.agg [.si .i64 c, .slst .ro ity ds, .slst .ro retT rs], .slst .ro five x] [] [] (.agg [.si .i64 c, .slst .ro ity ds, .slst .ro retT (mo30 c ds x rs)]) [] [] := by
 have h0 := pc_ok (e := .normal) cfg32_ok Try.func38 bd38 (lies0 (by kernel_rfl)) (m70_eq x c ds rs)
 have h1 := pc_ok (e := .normal) cfg32_ok Try.func38 bd38 (lies0 (by kernel_rfl)) (m71_eq x c ds rs)
 have h2 := (pc_ok (e := .normal) cfg32_ok Try.func38 bd38 (lies0 (by kernel_rfl)) (m72_eq x c ds rs)).post (y' := mS x c ds rs rs 0) (St.of_imps (vs' := [.slst .ro five x, .ptr 0 0, .ptr 1 0, .ptr 2 0, .si .i64 0]) rfl fun G j v v' h1 h2 cv hr => by
  match j with
  | 0 => cases h1; cases h2; exact hr
  | 1 => cases h1; cases h2; exact hr
  | 2 => cases h1; cases h2; exact hr
  | 3 => cases h1; cases h2; exact hr
  | 4 => cases h1; cases h2; exact si0 hr
  | j + 5 => cases h1)
 have h3 := pc_ok (e := .ret) cfg32_ok Try.func38 bd38 (lies0 (by kernel_rfl)) (m73_eq c ds (mo30 c ds x rs))
 have hc := SemC.seq h0 (SemC.seq h1 (SemC.seq (SemC.seq h2 (SemC.block_exit (SemC.loop (mo_go h.1 h.2)))) h3))
 rw [← root38] at hc
 have hf : SemF Try.prog Γ 38 [.agg [.si .i64 c, .slst .ro ity ds, .slst .ro retT rs], .slst .ro five x] [] [] (.agg [.si .i64 c, .slst .ro ity ds, .slst .ro retT (mo30 c ds x rs)]) [oT3 c ds (mo30 c ds x rs)] [] := SemF.of_body Try.func38 bd38 (.inl rfl) hc (by kernel_rfl)
 exact hf.drop (by kernel_rfl)
end T
end Go.Proofs.Ytofbchcclkejgaa

/- Package tally: TallySure: the law's function returns true. -/
set_option linter.unusedVariables false
set_option linter.unusedSimpArgs false
set_option maxRecDepth 100000
set_option maxHeartbeats 4000000
namespace Go.Proofs.Ytofbchcclkejgaa
open Go
namespace T
noncomputable def gg_o38 (c : Int) (ds : List Int) (rs : List (Ty.den retT)) (x : List (Ty.den five)) : Option Bool × V := (some (decide (validT c ds rs = true ∧ ∀ y ∈ x, okF5 y = true)), .agg [.si .i64 c, .slst .ro ity ds, .slst .ro retT (mo30 c ds x rs)])
theorem gg_o38_c (c : Int) (ds : List Int) (rs : List (Ty.den retT)) (x : List (Ty.den five)) (h : (gg_o38 c ds rs x).1.getD true = true) : validT c ds rs = true ∧ ∀ y ∈ x, okF5 y = true := of_decide_eq_true h
noncomputable def o38 : Orc := fun f args => if f = 38 then (Ty.ofVs [talT, .slice five] args).map (fun x => gg_o38 x.1.1.1 x.1.1.2.1 x.1.2.1 x.2.1) else oS9 f args
theorem o38_ok : OrcOk Try.prog Γ o38 := oS9_ok.plain 38 [talT, .slice five] (fun x => gg_o38 x.1.1.1 x.1.1.2.1 x.1.2.1 x.2.1) Try.f38 Try.func38 rfl (by kernel_rfl) (fun x h => c38_ok x.1.1.1 x.1.1.2.1 x.1.2.1 x.2.1 (gg_o38_c x.1.1.1 x.1.1.2.1 x.1.2.1 x.2.1 h))
noncomputable def cfg34 : Cfg := cfgQ o38 lo32
theorem cfg34_ok : CfgOk Try.prog Γ cfg34 := cfgQ_ok o38_ok lo32_ok
def hp_su : HP := { n := 111, lv := [11, 13, 18, 21], sp := [.ty ity, .ty ity, .ty (.slice ity), .ty ity], op := [], bp := [] }
def lve_su : Ex → List Nat
 | .normal => [11, 13, 18, 21]
 | .ret => [8]
 | .exit 0 => [11, 13]
 | _ => []
theorem bd_su : Try.f5.body = some (root 5) := by kernel_rfl
theorem le_su : (loops (root 5))[0]? = some (lp 5 0) := by kernel_rfl
theorem li_su : Lies (root 5) 1 (lp 5 0) := Lies.of_take (n := 0) (by kernel_rfl)
def st_su (s r : Int) (n : List Int) (i : Int) : St := hp_su.st ⟨(s, r, n, i, ()), (), ()⟩
noncomputable def rn_su (s r : Int) (n : List Int) (i : Int) := outa lve_su (evCK Try.prog Γ (cfM Try.prog Γ cfg34 30) (cfg34.lo 5) [] 60 1 (lp 5 0) (st_su s r n i))
theorem rn_su_eq (s r : Int) (n : List Int) (i : Int) : (rn_su s r n i).run = (bif decide (i < (n.length : Int)) then (bif i != s then (bif decide ((0 : Int) ≤ i ∧ i < (n.length : Int)) then (bif decide ((0 : Int) ≤ s ∧ s < (n.length : Int)) then (bif decide (n.getD i.toNat (0 : Int) ≥ n.getD s.toNat (0 : Int)) then (some ((Ex.ret, [V.b false], [], [], 111, 0, 0))) else (some ((Ex.normal, [V.si .i64 s, V.si .i64 r, V.slst .ro ity n, V.si .i64 (IntKind.i64.wrap (i + (1 : Int)))], [], [], 111, 0, 0)))) else none) else none) else (some ((Ex.normal, [V.si .i64 s, V.si .i64 r, V.slst .ro ity n, V.si .i64 (IntKind.i64.wrap (i + (1 : Int)))], [], [], 111, 0, 0)))) else (some ((Ex.exit 0, [V.si .i64 s, V.si .i64 r], [], [], 111, 0, 0)))) := by kernel_rfl
theorem rn_su_c (s r : Int) (n : List Int) (i : Int) {e : Ex} {vs : List V} {ob : Ob} {nm : Nm} {n' kh kt : Nat} (h : (rn_su s r n i).run = some (e, vs, ob, nm, n', kh, kt)) : SemC Try.prog Γ (lp 5 0) (st_su s r n i) e.to (St.of n' (lve_su e) vs ob nm kh kt) := SemC.of_evM cfg34_ok Try.func5 bd_su li_su h
abbrev pre_su0 (s : Int) (n : List Int) (i : Int) : Prop := i = 0 ∧ (0 ≤ s ∧ s < (n.length : Int)) ∧ n.length ≤ 1000 ∧ ∀ m, m < n.length → m ≠ s.toNat → n.getD m 0 < n.getD s.toNat 0
abbrev pre_su (s r : Int) (n : List Int) (i : Int) : Prop := pre_su0 s n i
def rs_su (s r : Int) (n : List Int) (i : Int) : Ex × St := (.exit 0, St.of 111 (lve_su (.exit 0)) [.si .i64 s, .si .i64 r] [] [] hp_su.kh hp_su.kt)
def res_su (s r : Int) (n : List Int) (i : Int) : Tr (Ex × St) := .br (decide (pre_su s r n i)) (.leaf (some (.exit 0, St.of 111 (lve_su (.exit 0)) [.si .i64 s, .si .i64 r] [] [] hp_su.kh hp_su.kt))) (.leaf none)
def ent_su : LEnt := LEnt.by hp_su fun ⟨(s, r, n, i, _), _, _⟩ => res_su s r n i
theorem ent_su_ok (hgo : ∀ (s r : Int) (n : List Int) (i : Int), pre_su s r n i → SemL Try.prog Γ (lp 5 0) (st_su s r n i) (rs_su s r n i).1.to (rs_su s r n i).2) : EntOk Try.prog Γ (lp 5 0) ent_su := LEnt.by_ok fun ⟨(s, r, n, i, _), _, _⟩ _ _ h_ => SemL.br (out := rs_su s r n i) rfl (hgo s r n i) h_
theorem su_go (s r : Int) (n : List Int) (i : Int) (h : pre_su s r n i) : SemL Try.prog Γ (lp 5 0) (st_su s r n i) (rs_su s r n i).1.to (rs_su s r n i).2 := by
 obtain ⟨rfl, hs, hl, hm⟩ := h
 refine SemL.scan n.length 0 (Nat.zero_le _) (fun i => st_su s r n (i : Nat)) (fun _ => true) _ ?_ ?_ ?_
 · intro i _ hi _ _
   refine rn_su_c s r n i (e := .normal) ?_
   rw [rn_su_eq, wrap_succ hi (by omega), decide_eq_true (by omega : (i : Int) < (Nat.cast n.length : Int)), Int.toNat_natCast]
   by_cases e : (i : Int) = s
   · rw [show ((i : Int) != s) = false by rw [e]; exact bne_self_eq_false s]; rfl
   · rw [show ((i : Int) != s) = true from bne_iff_ne.2 e, decide_eq_true (by omega : (0 : Int) ≤ (i : Int) ∧ (i : Int) < (Nat.cast n.length : Int)), decide_eq_true (by omega : (0 : Int) ≤ s ∧ s < (Nat.cast n.length : Int)), decide_eq_false (by have := hm i hi (by omega); omega)]; rfl
 · intro i _ _ _ hp
   cases hp
 · intro _
   unfold rs_su
   refine ⟨by simp [Ex.to], rn_su_c s r n n.length (e := .exit 0) ?_⟩
   rw [rn_su_eq, decide_eq_false (by omega)]
   rfl
def lo35 : LOrc := (LOrc.add lo32 5 0 ent_su)
theorem lo35_ok : LOrcOk Try.prog Γ lo35 := (LOrcOk.add lo32_ok 5 0 Try.func5 bd_su le_su (ent_su_ok su_go))
noncomputable def cfg35 : Cfg := cfgQ o38 lo35
theorem cfg35_ok : CfgOk Try.prog Γ cfg35 := cfgQ_ok o38_ok lo35_ok
theorem bd5 : Try.f5.body = some (root 5) := by kernel_rfl
noncomputable def t5 (k : Nat) : Code := cA (tlN k (root 5))
abbrev v5 (c : Int) (ds : List Int) (x : List (Ty.den six)) (y : List (Ty.den five)) : List V := [.si .i64 c, .slst .ro ity ds, .slst .ro six x, .slst .ro five y]
theorem u0_eq (c : Int) (ds : List Int) (x : List (Ty.den six)) (y : List (Ty.den five)) : (pc 5 0 cfg35 (t5 0) [0, 1, 2, 3] [] (St.start 111 (v5 c ds x y) [] [])).run = (some ((Ex.normal, [V.si IntKind.i64 c, V.slst Tag.ro ity ds, V.slst Tag.ro six x, V.slst Tag.ro five y], [], [], (111 : Nat), (0 : Nat), (0 : Nat)))) := by kernel_rfl
theorem u1_eq (c : Int) (ds : List Int) (x : List (Ty.den six)) (y : List (Ty.den five)) : (pc 5 0 cfg35 (t5 1) [0, 1, 2, 3] [] (St.of 111 [0, 1, 2, 3] (v5 c ds x y) [] [])).run = (some ((Ex.normal, [V.si IntKind.i64 c, V.slst Tag.ro ity ds, V.slst Tag.ro six x, V.slst Tag.ro five y], [], [], (111 : Nat), (0 : Nat), (0 : Nat)))) := by kernel_rfl
theorem u2_eq (c : Int) (ds : List Int) (x : List (Ty.den six)) (y : List (Ty.den five)) : (pc 5 0 cfg35 (t5 2) [3, 9] [] (St.of 111 [0, 1, 2, 3] (v5 c ds x y) [] [])).run = (bif decide (okMd c ds x) then (some ((Ex.normal, [V.slst Tag.ro five y, V.ptr (0 : Nat) (0 : Nat)], [some [V.si IntKind.i64 (mC c), V.slst Tag.ro ity (mD ds), V.slst Tag.ro retT (mR c ds x)]], [], (111 : Nat), (0 : Nat), (0 : Nat)))) else none) := by kernel_rfl
theorem u3_eq (c : Int) (ds : List Int) (rs : List (Ty.den retT)) (y : List (Ty.den five)) : (pc 5 0 cfg35 (t5 3) [9, 10] [] (St.of 111 [3, 9] [.slst .ro five y, .ptr 0 0] [oT3 c ds rs] [])).run = (bif decide (validT c ds rs = true ∧ ∀ (y_1 : five.den), y_1 ∈ y → okF5 y_1 = true) then (some ((Ex.normal, [V.ptr (0 : Nat) (0 : Nat), V.ptr (1 : Nat) (0 : Nat)], [some [V.si IntKind.i64 c, V.slst Tag.ro ity ds, V.slst Tag.ro retT rs], some [V.si IntKind.i64 c, V.slst Tag.ro ity ds, V.slst Tag.ro retT (mo30 c ds y rs)]], [], (111 : Nat), (0 : Nat), (0 : Nat)))) else none) := by kernel_rfl
theorem u4_eq (c : Int) (ds : List Int) (rs o : List (Ty.den retT)) : (pc 5 0 cfg35 (t5 4) [9, 10, 11, 12] [] (St.of 111 [9, 10] [.ptr 0 0, .ptr 1 0] [oT3 c ds rs, oT3 c ds o] [])).run = (bif decide (szR rs) then (some ((Ex.normal, [V.ptr (0 : Nat) (0 : Nat), V.ptr (1 : Nat) (0 : Nat), V.si IntKind.i64 (bif validT c ds rs then sureD (totD c rs) (restD ds rs) else (0 : Int)), V.si IntKind.i64 (bif validT c ds rs then (0 : Int) else (270 : Int))], [some [V.si IntKind.i64 c, V.slst Tag.ro ity ds, V.slst Tag.ro retT rs], some [V.si IntKind.i64 c, V.slst Tag.ro ity ds, V.slst Tag.ro retT o]], [], (111 : Nat), (0 : Nat), (0 : Nat)))) else none) := by kernel_rfl
theorem u5_eq (c : Int) (ds : List Int) (rs o : List (Ty.den retT)) (s e1 : Int) : (pc 5 0 cfg35 (t5 5) [9, 10, 11, 12, 13, 14] [] (St.of 111 [9, 10, 11, 12] [.ptr 0 0, .ptr 1 0, .si .i64 s, .si .i64 e1] [oT3 c ds rs, oT3 c ds o] [])).run = (bif decide (szR o) then (some ((Ex.normal, [V.ptr (0 : Nat) (0 : Nat), V.ptr (1 : Nat) (0 : Nat), V.si IntKind.i64 s, V.si IntKind.i64 e1, V.si IntKind.i64 (bif validT c ds o then sureD (totD c o) (restD ds o) else (0 : Int)), V.si IntKind.i64 (bif validT c ds o then (0 : Int) else (270 : Int))], [some [V.si IntKind.i64 c, V.slst Tag.ro ity ds, V.slst Tag.ro retT rs], some [V.si IntKind.i64 c, V.slst Tag.ro ity ds, V.slst Tag.ro retT o]], [], (111 : Nat), (0 : Nat), (0 : Nat)))) else none) := by kernel_rfl
theorem u6_eq (c : Int) (ds : List Int) (rs o : List (Ty.den retT)) (s e1 r e2 : Int) : (pc 5 0 cfg35 (t5 6) [9, 10, 11, 12, 13, 14, 16, 17] [] (St.of 111 [9, 10, 11, 12, 13, 14] [.ptr 0 0, .ptr 1 0, .si .i64 s, .si .i64 e1, .si .i64 r, .si .i64 e2] [oT3 c ds rs, oT3 c ds o] [])).run = (bif decide (szR rs) then (some ((Ex.normal, [V.ptr (0 : Nat) (0 : Nat), V.ptr (1 : Nat) (0 : Nat), V.si IntKind.i64 s, V.si IntKind.i64 e1, V.si IntKind.i64 r, V.si IntKind.i64 e2, V.si IntKind.i64 (bif validT c ds rs then restD ds rs else (0 : Int)), V.si IntKind.i64 (bif validT c ds rs then (0 : Int) else (270 : Int))], [some [V.si IntKind.i64 c, V.slst Tag.ro ity ds, V.slst Tag.ro retT rs], some [V.si IntKind.i64 c, V.slst Tag.ro ity ds, V.slst Tag.ro retT o]], [], (111 : Nat), (0 : Nat), (0 : Nat)))) else none) := by kernel_rfl
theorem u7_eq (c : Int) (ds : List Int) (rs o : List (Ty.den retT)) (s e1 r e2 a e3 : Int) : (pc 5 0 cfg35 (t5 7) [9, 11, 12, 13, 14, 16, 17, 18, 19, 20] [] (St.of 111 [9, 10, 11, 12, 13, 14, 16, 17] [.ptr 0 0, .ptr 1 0, .si .i64 s, .si .i64 e1, .si .i64 r, .si .i64 e2, .si .i64 a, .si .i64 e3] [oT3 c ds rs, oT3 c ds o] [])).run = (bif decide (szR o) then (some ((Ex.normal, [V.ptr (0 : Nat) (0 : Nat), V.si IntKind.i64 s, V.si IntKind.i64 e1, V.si IntKind.i64 r, V.si IntKind.i64 e2, V.si IntKind.i64 a, V.si IntKind.i64 e3, V.slst Tag.ro ity (bif validT c ds o then totD c o else []), V.si IntKind.i64 (bif validT c ds o then restD ds o else (0 : Int)), V.si IntKind.i64 (bif validT c ds o then (0 : Int) else (270 : Int))], [some [V.si IntKind.i64 c, V.slst Tag.ro ity ds, V.slst Tag.ro retT rs]], [], (111 : Nat), (0 : Nat), (0 : Nat)))) else none) := by kernel_rfl
theorem u8_eq (c : Int) (ds : List Int) (rs : List (Ty.den retT)) (s e1 r e2 a e3 : Int) (n : List Int) (b e4 : Int) : (pc 5 0 cfg35 (t5 8) [11, 13, 18] [8] (St.of 111 [9, 11, 12, 13, 14, 16, 17, 18, 19, 20] [.ptr 0 0, .si .i64 s, .si .i64 e1, .si .i64 r, .si .i64 e2, .si .i64 a, .si .i64 e3, .slst .ro ity n, .si .i64 b, .si .i64 e4] [oT3 c ds rs] [])).run = (bif e1 != (0 : Int) then (some ((Ex.ret, [V.b false], [], [], (111 : Nat), (0 : Nat), (0 : Nat)))) else (bif e2 != (0 : Int) then (some ((Ex.ret, [V.b false], [], [], (111 : Nat), (0 : Nat), (0 : Nat)))) else (bif e3 != (0 : Int) then (some ((Ex.ret, [V.b false], [], [], (111 : Nat), (0 : Nat), (0 : Nat)))) else (bif e4 != (0 : Int) then (some ((Ex.ret, [V.b false], [], [], (111 : Nat), (0 : Nat), (0 : Nat)))) else (bif decide (b > a) then (some ((Ex.ret, [V.b false], [], [], (111 : Nat), (0 : Nat), (0 : Nat)))) else (bif decide (b < (0 : Int)) then (some ((Ex.ret, [V.b false], [], [], (111 : Nat), (0 : Nat), (0 : Nat)))) else (bif (Nat.cast (n.length) : Int) != c then (some ((Ex.ret, [V.b false], [], [], (111 : Nat), (0 : Nat), (0 : Nat)))) else (some ((Ex.normal, [V.si IntKind.i64 s, V.si IntKind.i64 r, V.slst Tag.ro ity n], [], [], (111 : Nat), (0 : Nat), (0 : Nat))))))))))) := by kernel_rfl
theorem u9_eq (s r : Int) (n : List Int) : (pc 5 0 cfg35 (t5 9) [11, 13, 18] [8] (St.of 111 [11, 13, 18] [.si .i64 s, .si .i64 r, .slst .ro ity n] [] [])).run = (bif decide (s < (0 : Int)) then (some ((Ex.ret, [V.sb (s == (-1 : Int))], [], [], (111 : Nat), (0 : Nat), (0 : Nat)))) else (some ((Ex.normal, [V.si IntKind.i64 s, V.si IntKind.i64 r, V.slst Tag.ro ity n], [], [], (111 : Nat), (0 : Nat), (0 : Nat))))) := by kernel_rfl
theorem u10_eq (s r : Int) (n : List Int) : (pc 5 0 cfg35 (t5 10) [11, 13] [8] (St.of 111 [11, 13, 18] [.si .i64 s, .si .i64 r, .slst .ro ity n] [] [])).run = (bif decide (pre_su s r n (0 : Int)) then (some ((Ex.normal, [V.si IntKind.i64 s, V.si IntKind.i64 r], [], [], (111 : Nat), (0 : Nat), (0 : Nat)))) else none) := by kernel_rfl
theorem u11_eq (s r : Int) : (pc 5 1 cfg35 (tlN 11 (root 5)) [] [8] (St.of 111 [11, 13] [.si .i64 s, .si .i64 r] [] [])).run = (some ((Ex.ret, [V.sb (r == s)], [], [], (111 : Nat), (0 : Nat), (0 : Nat)))) := by kernel_rfl
end T
end Go.Proofs.Ytofbchcclkejgaa

/- Package tally: TallySure: the law's function returns true. -/
set_option linter.unusedVariables false
set_option linter.unusedSimpArgs false
set_option maxRecDepth 100000
set_option maxHeartbeats 4000000
namespace Go.Proofs.Ytofbchcclkejgaa
open Go
namespace T
theorem sure_ok (c0 : Int) (ds0 : List Int) (x : List (Ty.den six)) (y : List (Ty.den five)) (h : okMd c0 ds0 x) (hy : ∀ z ∈ y, okF5 z = true) : SemF Try.prog Γ 5 (v5 c0 ds0 x y) [] [] (.sb true) [] [] := by
 have hv := mR_valid c0 ds0 x
 generalize hc : mC c0 = c at hv
 generalize hd : mD ds0 = ds at hv
 have h2 := pc_ok (e := .normal) cfg35_ok Try.func5 bd5 (lies0 (by kernel_rfl)) ((u2_eq c0 ds0 x y).trans (by rw [decide_eq_true h]; rfl))
 rw [hc, hd] at h2
 generalize hrs : mR c0 ds0 x = rs at hv h2
 obtain ⟨hw, hg⟩ := moT_ok (x := y) hv (min y.length 30)
 have h3 := pc_ok (e := .normal) cfg35_ok Try.func5 bd5 (lies0 (by kernel_rfl)) ((u3_eq c ds rs y).trans (by rw [decide_eq_true (show validT c ds rs = true ∧ ∀ z ∈ y, okF5 z = true from ⟨hv, hy⟩)]; rfl))
 unfold mo30 at h3
 generalize ho : moT c ds y rs (min y.length 30) = o at hw hg h3
 have hsz := validT_sz hv
 have hsz2 := validT_sz hw
 obtain ⟨hle, hst⟩ := sure_grown hv hw hg
 obtain ⟨l1, _⟩ := totD_ok hv
 obtain ⟨l2, _⟩ := totD_ok hw
 have hcc := (validC_iff.1 (validT_asc.1 hv).1).1
 have hr0 := restD_nonneg hw
 have h0 := pc_ok (e := .normal) cfg35_ok Try.func5 bd5 (lies0 (by kernel_rfl)) (u0_eq c0 ds0 x y)
 have h1 := pc_ok (e := .normal) cfg35_ok Try.func5 bd5 (lies0 (by kernel_rfl)) (u1_eq c0 ds0 x y)
 have h4 := pc_ok (e := .normal) cfg35_ok Try.func5 bd5 (lies0 (by kernel_rfl)) ((u4_eq c ds rs o).trans (by rw [decide_eq_true hsz, hv]; rfl))
 have h5 := pc_ok (e := .normal) cfg35_ok Try.func5 bd5 (lies0 (by kernel_rfl)) ((u5_eq c ds rs o (sureD (totD c rs) (restD ds rs)) 0).trans (by rw [decide_eq_true hsz2, hw]; rfl))
 have h6 := pc_ok (e := .normal) cfg35_ok Try.func5 bd5 (lies0 (by kernel_rfl)) ((u6_eq c ds rs o (sureD (totD c rs) (restD ds rs)) 0 (sureD (totD c o) (restD ds o)) 0).trans (by rw [decide_eq_true hsz, hv]; rfl))
 have h7 := pc_ok (e := .normal) cfg35_ok Try.func5 bd5 (lies0 (by kernel_rfl)) ((u7_eq c ds rs o (sureD (totD c rs) (restD ds rs)) 0 (sureD (totD c o) (restD ds o)) 0 (restD ds rs) 0).trans (by rw [decide_eq_true hsz2, hw]; rfl))
 have h8 := pc_ok (e := .normal) cfg35_ok Try.func5 bd5 (lies0 (by kernel_rfl)) ((u8_eq c ds rs (sureD (totD c rs) (restD ds rs)) 0 (sureD (totD c o) (restD ds o)) 0 (restD ds rs) 0 (totD c o) (restD ds o) 0).trans (by
  rw [decide_eq_false (by omega : ¬ restD ds o > restD ds rs), decide_eq_false (by omega : ¬ restD ds o < 0), show ((Nat.cast (totD c o).length : Int) != c) = false by rw [l2, show ((c.toNat : Nat) : Int) = c by omega, bne_self_eq_false], bne_self_eq_false]; rfl))
 have hend : SemC Try.prog Γ (tlN 9 (root 5)) (St.of 111 [11, 13, 18] [.si .i64 (sureD (totD c rs) (restD ds rs)), .si .i64 (sureD (totD c o) (restD ds o)), .slst .ro ity (totD c o)] [] []) .ret (St.of 111 [8] [.sb true] [] []) := by
  have e : tlN 9 (root 5) = .seq (t5 9) (.seq (t5 10) (tlN 11 (root 5))) := by kernel_rfl
  rw [e]
  rcases sureD_cases (totD c rs) (restD ds rs) with ⟨e, _⟩ | ⟨a, ha, e, hs⟩
  · have h9 := pc_ok (e := .ret) (vs := [.sb true]) cfg35_ok Try.func5 bd5 (lies0 (by kernel_rfl)) ((u9_eq (sureD (totD c rs) (restD ds rs)) (sureD (totD c o) (restD ds o)) (totD c o)).trans (by rw [e]; rfl))
    exact SemC.seq_out (by simp [Ex.to]) h9
  · have hs2 := hst a ha hs
    have e2 := sureD_some hr0 (by omega) hs2
    obtain ⟨s1, s2⟩ := sureAt_iff.1 hs2
    have h9 := pc_ok (e := .normal) cfg35_ok Try.func5 bd5 (lies0 (by kernel_rfl)) ((u9_eq (sureD (totD c rs) (restD ds rs)) (sureD (totD c o) (restD ds o)) (totD c o)).trans (by rw [decide_eq_false (by omega)]; rfl))
    have h10 := pc_ok (e := .normal) cfg35_ok Try.func5 bd5 (Lies.of_take (n := 1) (by kernel_rfl)) ((u10_eq (sureD (totD c rs) (restD ds rs)) (sureD (totD c o) (restD ds o)) (totD c o)).trans (by
     rw [decide_eq_true (show pre_su (sureD (totD c rs) (restD ds rs)) (sureD (totD c o) (restD ds o)) (totD c o) 0 from ⟨rfl, by omega, by omega, fun m hm hne => by
      have := s2 m hm (by omega)
      rw [show (sureD (totD c rs) (restD ds rs)).toNat = a by omega]
      omega⟩)]; rfl))
    have h11 := pc_ok (e := .ret) (vs := [.sb true]) cfg35_ok Try.func5 bd5 (lies0 (by kernel_rfl)) ((u11_eq (sureD (totD c rs) (restD ds rs)) (sureD (totD c o) (restD ds o))).trans (by rw [e, e2, beq_self_eq_true]))
    exact SemC.seq h9 (SemC.seq h10 h11)
 have hc' := SemC.seq h0 (SemC.seq h1 (SemC.seq h2 (SemC.seq h3 (SemC.seq h4 (SemC.seq h5 (SemC.seq h6 (SemC.seq h7 (SemC.seq h8 hend))))))))
 have e : root 5 = .seq (t5 0) (.seq (t5 1) (.seq (t5 2) (.seq (t5 3) (.seq (t5 4) (.seq (t5 5) (.seq (t5 6) (.seq (t5 7) (.seq (t5 8) (tlN 9 (root 5)))))))))) := by kernel_rfl
 rw [← e] at hc'
 exact SemF.of_body Try.func5 bd5 (.inl rfl) hc' (by kernel_rfl)
end T
end Go.Proofs.Ytofbchcclkejgaa

