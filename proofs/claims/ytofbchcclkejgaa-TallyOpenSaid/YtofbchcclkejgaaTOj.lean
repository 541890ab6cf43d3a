/- Parts of the library of texts, one after the other: Ev19. -/
import Derived.Test.YtofbchcclkejgaaTOi
import Derived.OpenShut
import Derived.Deep.Slices
/- Arguments opened by their types: a reading gives plain values. -/
set_option linter.unusedVariables false
set_option linter.unusedSimpArgs false
namespace Go.Proofs.Ytofbchcclkejgaa
open Go Go.ChangeShapes Go.WideShapes Go.ChangeAt Go.RowKit
mutual
def Ty.wf : (t : Ty) → t.den → Prop
 | .bool, b => True
 | .int k, n => (Lit.int k n).wf = true
 | .str, s => s.size ≤ maxLen
 | .agg fs, x => Ty.wfs fs x
 | .slice e, l => (show List e.den from l).length ≤ maxLen ∧ ∀ x ∈ (show List e.den from l), Ty.wf e x
def Ty.wfs : (ts : List Ty) → Ty.dens ts → Prop
 | [], _ => True
 | t :: ts, x => t.wf x.1 ∧ Ty.wfs ts x.2
end
mutual
def Ty.noSl : Ty → Bool
 | .agg fs => Ty.noSls fs
 | .slice _ => false
 | .bool => true
 | .int _ => true
 | .str => true
def Ty.noSls : List Ty → Bool
 | [] => true
 | t :: ts => t.noSl && Ty.noSls ts
end
mutual
def Ty.dat {H : Type} : (t : Ty) → t.den → DataW H
 | .bool, b => .lit (.bool b)
 | .int k, n => .lit (.int k n)
 | .str, s => .lit (.string s.data.toList)
 | .agg fs, x => .agg (Ty.dats fs x)
 | .slice _, _ => .nil
def Ty.dats {H : Type} : (ts : List Ty) → Ty.dens ts → List (DataW H)
 | [], _ => []
 | t :: ts, x => t.dat x.1 :: Ty.dats ts x.2
end
mutual
def Ty.ok (P : Program) : Ty → TypeId → Bool
 | .bool, t => P.cellsOf t == 1 && match P.underlying t with | some .bool => true | _ => false
 | .int k, t => P.cellsOf t == 1 && match P.underlying t with | some (.int k') => decide (k' = k) | _ => false
 | .str, t => P.cellsOf t == 1 && match P.underlying t with | some .string => true | _ => false
 | .agg fs, t => P.cellsOf t == Ty.sizes fs && match P.underlying t with
  | some (.struct a) => Ty.okF P fs a.toList 0
  | some (.array n u) => fs.length == n && Ty.okA P fs u
  | _ => false
 | .slice e, t => P.cellsOf t == 1 && match P.underlying t with
  | some (.slice u) => e.size != 0 && e.ok P u
  | _ => false
def Ty.okF (P : Program) : List Ty → List Field → Nat → Bool
 | [], [], _ => true
 | t :: ts, f :: fs, off => f.offset == off && (t.ok P f.type && Ty.okF P ts fs (off + t.size))
 | _, _, _ => false
def Ty.okA (P : Program) : List Ty → TypeId → Bool
 | [], _ => true
 | t :: ts, u => t.ok P u && Ty.okA P ts u
end
theorem Ty.ok_size {P : Program} {ty : Ty} {t : TypeId} (h : ty.ok P t = true) : P.cellsOf t = ty.size := by
 cases ty <;> simp only [Ty.ok, Bool.and_eq_true, beq_iff_eq] at h <;> simpa [Ty.size] using h.1
theorem Ty.okA_sizes {P : Program} {u : TypeId} : ∀ {ts : List Ty}, Ty.okA P ts u = true → Ty.sizes ts = ts.length * P.cellsOf u
 | [], _ => by simp [Ty.sizes]
 | t :: ts, h => by
  simp only [Ty.okA, Bool.and_eq_true] at h
  have := Ty.ok_size h.1
  simp only [Ty.sizes, Ty.okA_sizes h.2, List.length_cons, Nat.add_mul, this]
  omega
section
variable {H : Type} {enc : TypeId × Value → H} {P : Program} {G : Gh} {w : World} {base : Nat} {sp : Nat → Bool} {held : Bool}
mutual
theorem open_ty (hG : ∀ b off cv, w.cell? ⟨b, off, none⟩ = some cv → G.M b off = some cv) : ∀ (ty : Ty) {t : TypeId} {fuel : Nat} {cs : List Value} {y : DataW H × List MemPlace}, ty.ok P t = true → DataW.trod enc P w base sp held fuel t cs = some y → ∃ x : ty.den, ty.wf x ∧ Rels G (ty.cells x) cs ∧ (ty.noSl = true → y.1 = ty.dat x)
 | .bool, t, fuel, cs, y, hk, h => by
  simp only [Ty.ok, Bool.and_eq_true] at hk
  obtain ⟨_, hk⟩ := hk
  split at hk
  · rename_i hu
    obtain ⟨b, rfl, rfl⟩ := DataW.trod_bool hu h
    exact ⟨b, trivial, Rels.cons (.sb _) (Rels.nil G), fun _ => rfl⟩
  · cases hk
 | .int k, t, fuel, cs, y, hk, h => by
  simp only [Ty.ok, Bool.and_eq_true] at hk
  obtain ⟨_, hk⟩ := hk
  split at hk
  · rename_i k' hu
    obtain rfl := of_decide_eq_true hk
    obtain ⟨n, rfl, rfl, hw⟩ := DataW.trod_int hu h
    exact ⟨n, hw, Rels.cons (.si _ _) (Rels.nil G), fun _ => rfl⟩
  · cases hk
 | .str, t, fuel, cs, y, hk, h => by
  simp only [Ty.ok, Bool.and_eq_true] at hk
  obtain ⟨_, hk⟩ := hk
  split at hk
  · rename_i hu
    obtain ⟨s, rfl, rfl, hw⟩ := DataW.trod_string hu h
    exact ⟨s, hw, Rels.cons (.ss _) (Rels.nil G), fun _ => rfl⟩
  · cases hk
 | .agg fs, t, fuel, cs, y, hk, h => by
  simp only [Ty.ok, Bool.and_eq_true, beq_iff_eq] at hk
  obtain ⟨hs, hk⟩ := hk
  split at hk
  · rename_i a hu
    obtain ⟨xs, n, _, rfl, hl, hn, hf⟩ := DataW.trod_struct hu h
    obtain ⟨x, hw, hr, hd⟩ := open_fields hG (cs := cs) (fuel := n) fs a.toList xs 0 hk (by rw [hn]; simp) (fun i f hi => hf i f (by simpa using hi)) (by rw [hl, hs]; omega)
    refine ⟨x, hw, ?_, fun hs => by simp only [Ty.dat, hd (by simpa [Ty.noSl] using hs)]⟩
    rw [List.drop_zero, List.take_of_length_le (by rw [hl, hs]; exact Nat.le_refl _)] at hr
    exact hr
  · rename_i n u hu
    simp only [Bool.and_eq_true, beq_iff_eq] at hk
    obtain ⟨xs, m, _, rfl, hl, hn, hf⟩ := DataW.trod_array hu h
    have hsz := Ty.okA_sizes hk.2
    obtain ⟨x, hw, hr, hd⟩ := open_elems hG (cs := cs) (fuel := m) fs u xs 0 hk.2 (by rw [hn, hk.1]) (fun j hj => by
     rw [Nat.zero_add, hf j (by rw [← hk.1]; exact hj)]) (by rw [hl, hs, hsz]; simp)
    refine ⟨x, hw, ?_, fun hs => by simp only [Ty.dat, hd (by simpa [Ty.noSl] using hs)]⟩
    rw [Nat.zero_mul, List.drop_zero, List.take_of_length_le (by rw [hl, hs]; exact Nat.le_refl _)] at hr
    exact hr
  · cases hk
 | .slice e, t, fuel, cs, y, hk, h => by
  simp only [Ty.ok, Bool.and_eq_true] at hk
  obtain ⟨_, hk⟩ := hk
  split at hk
  · rename_i u hu
    simp only [Bool.and_eq_true, bne_iff_ne, ne_eq] at hk
    have hz := Ty.ok_size hk.2
    rcases Go.Deep.open_slice hu h with ⟨rfl, rfl⟩ | ⟨a, len, cap, m, n, D, Pl, rfl, hb, hl, hm, hmm, rfl, hel⟩
    · exact ⟨([] : List e.den), ⟨Nat.zero_le _, fun x hx => absurd hx (List.not_mem_nil)⟩, Rels.cons (.slst (.lst0 _ _)) (Rels.nil G), fun hs => by cases hs⟩
    · have hmle : len ≤ m := by rw [hmm]; split <;> omega
      have key : ∀ k, k ≤ len → ∃ (l : List e.den) (cvs : List Value), l.length = k ∧ (∀ x ∈ l, e.wf x) ∧ Rels G (flat (l.map e.val)) cvs ∧ (∀ j cv, cvs[j]? = some cv → w.cell? (a.add j) = some cv) ∧ cvs.length = k * e.size := by
       intro k
       induction k with
       | zero => exact fun _ => ⟨[], [], rfl, (fun x hx => absurd hx (List.not_mem_nil)), Rels.nil G, (fun j cv hj => by simp at hj), by simp⟩
       | succ k ih =>
        intro hk1
        obtain ⟨l, cvs, g1, g2, g3, g4, g5⟩ := ih (by omega)
        obtain ⟨cs', q1, q2⟩ := hel k (by omega)
        obtain ⟨x, p1, p2, _⟩ := open_ty hG e hk.2 q2
        obtain ⟨_, q4, q5⟩ := World.cells?_some q1
        refine ⟨l ++ [x], cvs ++ cs', by simp [g1], fun z hz' => ?_, ?_, fun j cv hj => ?_, ?_⟩
        · rcases List.mem_append.1 hz' with hz' | hz'
          · exact g2 z hz'
          · rw [List.mem_singleton.1 hz']; exact p1
        · rw [List.map_append, flat_append]
          refine g3.append ?_
          simpa [flat, Ty.val_cells] using p2
        · rw [List.getElem?_append] at hj
          split at hj
          · exact g4 j cv hj
          · rename_i hj2
            have hjl : j - cvs.length < cs'.length := by
             rcases Nat.lt_or_ge (j - cvs.length) cs'.length with h' | h'
             · exact h'
             · rw [List.getElem?_eq_none h'] at hj; cases hj
            have := q5 (j - cvs.length) (by omega)
            rw [hj, hz] at this
            rw [← this, g5]
            rw [g5] at hj2
            have hadd : (a.add (k * e.size)).add (j - k * e.size) = a.add j := by
             unfold Addr.add
             by_cases h1 : k * e.size = 0
             · simp [h1]
             · by_cases h2 : j - k * e.size = 0
               · have : j = k * e.size := by omega
                 simp [h1, h2, this]
               · have : j ≠ 0 := by omega
                 simp [h1, h2, this]
                 omega
            rw [hadd]
        · rw [List.length_append, g5, q4, hz, Nat.add_mul]; omega
      obtain ⟨l, cvs, g1, g2, g3, g4, g5⟩ := key len (Nat.le_refl _)
      refine ⟨l, ⟨by show l.length ≤ maxLen; omega, g2⟩, Rels.cons (.slst ?_) (Rels.nil G), fun hs => by cases hs⟩
      cases hlz : len with
      | zero =>
       have : l = [] := List.eq_nil_of_length_eq_zero (by omega)
       subst this
       exact .lst1 a cap
      | succ len' =>
       have hpos : 0 < cvs.length := by rw [g5]; exact Nat.mul_pos (by omega) (by omega)
       have hspot : a.spot = none := by
        have h0 := g4 0 cvs[0] (by simp [hpos])
        simp only [Addr.add, if_true] at h0
        unfold World.cell? at h0
        split at h0
        · split at h0
          · cases h0
          · rename_i hs
            cases hsp : a.spot with
            | none => rfl
            | some _ => simp [hsp] at hs
        · cases h0
       obtain ⟨ab, ao, asp⟩ := a
       simp only at hspot
       subst hspot
       have hll : (l.map e.val).length = len' + 1 := by rw [List.length_map, g1, hlz]
       rw [← hll]
       refine .lst (sz := e.size) (cvs := cvs) (map_size e l) g3.1 (fun j cv hj => ?_) g3.2 (by rw [hll]; omega) trivial
       have := g4 j cv hj
       refine hG _ _ _ ?_
       rw [← this]
       unfold Addr.add
       by_cases hj0 : j = 0
       · simp [hj0]
       · simp [hj0]
  · cases hk
theorem open_fields (hG : ∀ b off cv, w.cell? ⟨b, off, none⟩ = some cv → G.M b off = some cv) : ∀ (ts : List Ty) (fs : List Field) (xs : List (DataW H × List MemPlace)) (off : Nat) {fuel : Nat} {cs : List Value}, Ty.okF P ts fs off = true → xs.length = fs.length →
 (∀ (i : Nat) (f : Field), fs[i]? = some f → DataW.trod enc P w base sp held fuel f.type ((cs.drop f.offset).take (P.cellsOf f.type)) = xs[i]?) → off + Ty.sizes ts ≤ cs.length →
 ∃ x : Ty.dens ts, Ty.wfs ts x ∧ Rels G (Ty.cellss ts x) ((cs.drop off).take (Ty.sizes ts)) ∧ (Ty.noSls ts = true → xs.map (·.1) = Ty.dats ts x)
 | [], [], xs, off, fuel, cs, hk, hx, h, hl => ⟨(), trivial, by simp only [Ty.cellss, Ty.sizes, List.take_zero]; exact Rels.nil G, fun _ => by rw [List.length_eq_zero_iff.1 hx]; rfl⟩
 | [], f :: fs, xs, off, fuel, cs, hk, hx, h, hl => by simp [Ty.okF] at hk
 | t :: ts, [], xs, off, fuel, cs, hk, hx, h, hl => by simp [Ty.okF] at hk
 | t :: ts, f :: fs, [], off, fuel, cs, hk, hx, h, hl => by simp at hx
 | t :: ts, f :: fs, b :: xs, off, fuel, cs, hk, hx, h, hl => by
  simp only [Ty.okF, Bool.and_eq_true, beq_iff_eq] at hk
  obtain ⟨rfl, h1, h2⟩ := hk
  simp only [Ty.sizes] at hl ⊢
  have hb := h 0 f rfl
  obtain ⟨x, hw, hr, hd⟩ := open_ty hG t h1 hb
  obtain ⟨z, hw2, hr2, hd2⟩ := open_fields hG (cs := cs) (fuel := fuel) ts fs xs _ h2 (by simpa using hx) (fun i g hi => h (i + 1) g (by simpa using hi)) (by omega)
  refine ⟨(x, z), ⟨hw, hw2⟩, ?_, fun hs => by
   simp only [Ty.noSls, Bool.and_eq_true] at hs
   simp only [List.map_cons, Ty.dats, hd hs.1, hd2 hs.2]⟩
  rw [Ty.ok_size h1] at hr
  simp only [Ty.cellss]
  have e : (cs.drop f.offset).take (t.size + Ty.sizes ts) = (cs.drop f.offset).take t.size ++ (cs.drop (f.offset + t.size)).take (Ty.sizes ts) := by
   rw [List.take_add, List.drop_drop]
  rw [e]
  exact hr.append hr2
theorem open_elems (hG : ∀ b off cv, w.cell? ⟨b, off, none⟩ = some cv → G.M b off = some cv) : ∀ (ts : List Ty) (u : TypeId) (xs : List (DataW H × List MemPlace)) (i : Nat) {fuel : Nat} {cs : List Value}, Ty.okA P ts u = true → xs.length = ts.length →
 (∀ j, j < ts.length → DataW.trod enc P w base sp held fuel u ((cs.drop ((i + j) * P.cellsOf u)).take (P.cellsOf u)) = xs[j]?) → (i + ts.length) * P.cellsOf u ≤ cs.length →
 ∃ x : Ty.dens ts, Ty.wfs ts x ∧ Rels G (Ty.cellss ts x) ((cs.drop (i * P.cellsOf u)).take (Ty.sizes ts)) ∧ (Ty.noSls ts = true → xs.map (·.1) = Ty.dats ts x)
 | [], u, xs, i, fuel, cs, hk, hx, h, hl => ⟨(), trivial, by simp only [Ty.cellss, Ty.sizes, List.take_zero]; exact Rels.nil G, fun _ => by rw [List.length_eq_zero_iff.1 hx]; rfl⟩
 | t :: ts, u, [], i, fuel, cs, hk, hx, h, hl => by simp at hx
 | t :: ts, u, b :: xs, i, fuel, cs, hk, hx, h, hl => by
  simp only [Ty.okA, Bool.and_eq_true] at hk
  obtain ⟨h1, h2⟩ := hk
  have hb := h 0 (by simp)
  obtain ⟨x, hw, hr, hd⟩ := open_ty hG t h1 hb
  obtain ⟨z, hw2, hr2, hd2⟩ := open_elems hG (cs := cs) (fuel := fuel) ts u xs (i + 1) h2 (by simpa using hx) (fun j hj => by
   have hy := h (j + 1) (by simpa using hj)
   rw [show i + 1 + j = i + (j + 1) by omega]
   exact hy) (by rw [show i + 1 + ts.length = i + (t :: ts).length by simp; omega]; exact hl)
  refine ⟨(x, z), ⟨hw, hw2⟩, ?_, fun hs => by
   simp only [Ty.noSls, Bool.and_eq_true] at hs
   simp only [List.map_cons, Ty.dats, hd hs.1, hd2 hs.2]⟩
  rw [Nat.add_zero, Ty.ok_size h1] at hr
  rw [Ty.ok_size h1] at hr2 ⊢
  simp only [Ty.cellss, Ty.sizes]
  have e : (cs.drop (i * t.size)).take (t.size + Ty.sizes ts) = (cs.drop (i * t.size)).take t.size ++ (cs.drop ((i + 1) * t.size)).take (Ty.sizes ts) := by
   rw [List.take_add, List.drop_drop, show i * t.size + t.size = (i + 1) * t.size by rw [Nat.add_mul]; omega]
  rw [e]
  exact hr.append hr2
end
def Ty.oks (P : Program) : List Ty → List TypeId → Bool
 | [], [] => true
 | t :: ts, u :: us => t.ok P u && Ty.oks P ts us
 | _, _ => false
theorem open_val (hG : ∀ b off cv, w.cell? ⟨b, off, none⟩ = some cv → G.M b off = some cv) {r : Reach} {b0 : Nat} (ty : Ty) {t : TypeId} {v : Value} {d : DataW H} {ps : List MemPlace} (hk : ty.ok P t = true) (hval : Value.okWide P w r b0 t v) (h : DataW.Trod enc P w base sp held t v d ps) : ∃ x : ty.den, ty.wf x ∧ VRel G (ty.val x) v := by
 obtain ⟨fuel, h⟩ := h
 cases ty with
 | bool =>
  have hk' := hk
  simp only [Ty.ok, Bool.and_eq_true] at hk'
  obtain ⟨_, hk'⟩ := hk'
  split at hk'
  · rename_i hu
    obtain ⟨b, rfl⟩ := okWide_bool hu hval
    exact ⟨b, trivial, .sb b⟩
  · cases hk'
 | int k =>
  have hk' := hk
  simp only [Ty.ok, Bool.and_eq_true] at hk'
  obtain ⟨_, hk'⟩ := hk'
  split at hk'
  · rename_i k' hu
    obtain rfl := of_decide_eq_true hk'
    obtain ⟨n, rfl, _, _, hw⟩ := open_int hu hval ⟨fuel, h⟩
    exact ⟨n, hw, .si _ n⟩
  · cases hk'
 | str =>
  have hk' := hk
  simp only [Ty.ok, Bool.and_eq_true] at hk'
  obtain ⟨_, hk'⟩ := hk'
  split at hk'
  · rename_i hu
    obtain ⟨s, rfl⟩ := okWide_string hu hval
    obtain ⟨s', e, _, hw⟩ := DataW.trod_string hu h
    simp [Value.cells] at e
    subst e
    exact ⟨s, hw, .ss s⟩
  · cases hk'
 | slice e =>
  obtain ⟨x, hw, hr, _⟩ := open_ty (G := G) hG (.slice e) hk h
  have hk' := hk
  simp only [Ty.ok, Bool.and_eq_true] at hk'
  obtain ⟨_, hk'⟩ := hk'
  split at hk'
  · rename_i u hu
    obtain ⟨p, len, cap, rfl⟩ := okWide_slice hu hval
    exact ⟨x, hw, hr.2 0 _ _ rfl rfl⟩
  · cases hk'
 | agg fs =>
  obtain ⟨x, hw, hr, _⟩ := open_ty (G := G) hG (.agg fs) hk h
  have hk' := hk
  simp only [Ty.ok, Bool.and_eq_true] at hk'
  obtain ⟨_, hk'⟩ := hk'
  have : ∃ cs, v = .agg cs := by
   unfold Value.okWide at hval
   split at hk'
   · rename_i a hu
     rw [hu] at hval
     obtain ⟨cs, h1, _⟩ := hval
     exact ⟨cs, h1⟩
   · rename_i n u hu
     rw [hu] at hval
     obtain ⟨cs, h1, _⟩ := hval
     exact ⟨cs, h1⟩
   · cases hk'
  obtain ⟨c, rfl⟩ := this
  exact ⟨x, hw, VRel.mk_agg hr⟩
theorem open_vals (hG : ∀ b off cv, w.cell? ⟨b, off, none⟩ = some cv → G.M b off = some cv) {r : Reach} {b0 : Nat} : ∀ (ts : List Ty) {us : List TypeId} {vs : List Value} {ds : List (DataW H)} {ps : List MemPlace}, Ty.oks P ts us = true → (∀ (j : Nat) t v, us[j]? = some t → vs[j]? = some v → Value.okWide P w r b0 t v) →
 DataW.TrodAll enc P w base sp held us vs ds ps → ∃ x : Ty.dens ts, Ty.wfs ts x ∧ Rels G (Ty.vals ts x) vs ∧ ds.length = ts.length
 | [], us, vs, ds, ps, hk, hval, h => by
  cases us with
  | nil => obtain ⟨rfl, rfl, rfl⟩ := trodAll_nil h; exact ⟨(), trivial, Rels.nil G, rfl⟩
  | cons u us => simp [Ty.oks] at hk
 | t :: ts, us, vs, ds, ps, hk, hval, h => by
  cases us with
  | nil => simp [Ty.oks] at hk
  | cons u us =>
   simp only [Ty.oks, Bool.and_eq_true] at hk
   obtain ⟨v, vs', d, ds', p, q, rfl, rfl, rfl, h1, h2⟩ := trodAll_cons h
   obtain ⟨x, hw, hr⟩ := open_val (G := G) hG t hk.1 (hval 0 u v rfl rfl) h1
   obtain ⟨z, hw2, hr2, hl⟩ := open_vals hG ts hk.2 (fun j t v a b => hval (j + 1) t v (by simpa using a) (by simpa using b)) h2
   exact ⟨(x, z), ⟨hw, hw2⟩, Rels.cons hr hr2, by simp [hl]⟩
end
end Go.Proofs.Ytofbchcclkejgaa

