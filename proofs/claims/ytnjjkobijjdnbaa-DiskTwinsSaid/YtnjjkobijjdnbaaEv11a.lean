/- Plain data read off values; lists and buffers: elements, parts. -/
import Derived.Test.YtnjjkobijjdnbaaEv11
set_option linter.unusedVariables false
set_option linter.unusedSimpArgs false
namespace Go.Proofs.Ytnjjkobijjdnbaa
open Go

def optMap {α β : Type} (f : α → Option β) : List α → Option (List β)
  | [] => some []
  | a :: as => match f a, optMap f as with | some b, some bs => some (b :: bs) | _, _ => none
def boolC : List V → Option (Bool × List V)
  | .b x :: vs => some (x, vs)
  | .sb x :: vs => some (x, vs)
  | _ => none
def intC (k : IntKind) : List V → Option (Int × List V)
  | .i k' n :: vs => if k' = k then some (n, vs) else none
  | .si k' n :: vs => if k' = k then some (n, vs) else none
  | _ => none
def strC : List V → Option (ByteArray × List V)
  | .s x :: vs => some (x, vs)
  | .ss x :: vs => some (x, vs)
  | _ => none
def whole {α : Type} (f : List V → Option (α × List V)) (v : V) : Option α := match f v.cells with | some (x, []) => some x | _ => none
def sliceC (e : Ty) (f : List V → Option (e.den × List V)) : List V → Option (List e.den × List V)
  | .slst _ ty l :: vs => match listAs e l with | some l' => some (l', vs) | none => none
  | .lst _ xs :: vs => match optMap (whole f) xs with | some l' => some (l', vs) | none => none
  | _ => none
mutual
/-- Cells read as plain data, and what is left of them. -/
def Ty.ofC : (t : Ty) → List V → Option (t.den × List V)
  | .bool => boolC
  | .int k => intC k
  | .str => strC
  | .agg fs => Ty.ofCs fs
  | .slice e => sliceC e (Ty.ofC e)
def Ty.ofCs : (ts : List Ty) → List V → Option (Ty.dens ts × List V)
  | [] => fun cs => some ((), cs)
  | t :: ts => fun cs => match Ty.ofC t cs with | some (x, r) => (match Ty.ofCs ts r with | some (y, r') => some ((x, y), r') | none => none) | none => none
end
/-- A value read as plain data. -/
def Ty.isAgg : Ty → Bool
  | .agg _ => true
  | _ => false
def V.isAggV : V → Bool
  | .agg _ => true
  | _ => false
def Ty.ofV (t : Ty) (v : V) : Option t.den := if t.isAgg == v.isAggV then whole t.ofC v else none
def Ty.ofVs : (ts : List Ty) → List V → Option (Ty.dens ts)
  | [], [] => some ()
  | t :: ts, v :: vs => match t.ofV v, Ty.ofVs ts vs with | some x, some y => some (x, y) | _, _ => none
  | _, _ => none

/-! ### What is read stands for the same -/
mutual
theorem Ty.cells_len : ∀ (t : Ty) (x : t.den), (t.cells x).length = t.size
  | .bool, x => rfl
  | .int k, x => rfl
  | .str, x => rfl
  | .agg fs, x => Ty.cellss_len fs x
  | .slice e, x => rfl
theorem Ty.cellss_len : ∀ (ts : List Ty) (x : Ty.dens ts), (Ty.cellss ts x).length = Ty.sizes ts
  | [], x => rfl
  | t :: ts, x => by simp only [Ty.cellss, List.length_append, Ty.sizes, Ty.cells_len t x.1, Ty.cellss_len ts x.2]
end
theorem Ty.val_cells (t : Ty) (x : t.den) : (t.val x).cells = t.cells x := by cases t <;> rfl
theorem Ty.val_len (t : Ty) (x : t.den) : (t.val x).cells.length = t.size := by rw [Ty.val_cells, Ty.cells_len]
theorem Rels.split {G : Gh} {a b : List V} {c : List Value} (h : Rels G (a ++ b) c) : Rels G a (c.take a.length) ∧ Rels G b (c.drop a.length) := by
  constructor
  · have := h.take a.length
    rwa [List.take_left'] at this
    rfl
  · have := h.drop a.length
    rwa [List.drop_left'] at this
    rfl
theorem Rels.join {G : Gh} {a b : List V} {c : List Value} (n : Nat) (h : Rels G a (c.take n)) (k : Rels G b (c.drop n)) : Rels G (a ++ b) c := by
  have := h.append k
  rwa [List.take_append_drop] at this
/-- Cells that stand for the same. -/
def CellsOk (e : Ty) (f : List V → Option (e.den × List V)) : Prop := ∀ cs x r, f cs = some (x, r) → cs.length = e.size + r.length ∧ ∀ (G : Gh) (cvs : List Value), Rels G cs cvs → Rels G (e.cells x ++ r) cvs
theorem whole_ok {e : Ty} {f : List V → Option (e.den × List V)} (hf : CellsOk e f) {v : V} {x : e.den} (h : whole f v = some x) : v.cells.length = e.size ∧ ∀ (G : Gh) (cvs : List Value), Rels G v.cells cvs → Rels G (e.cells x) cvs := by
  unfold whole at h
  split at h
  · rename_i y hy
    cases h
    obtain ⟨h1, h2⟩ := hf _ _ _ hy
    refine ⟨by simpa using h1, fun G cvs hr => ?_⟩
    have := h2 G cvs hr
    rwa [List.append_nil] at this
  · cases h
theorem optMap_ok {e : Ty} {f : List V → Option (e.den × List V)} (hf : CellsOk e f) : ∀ {xs : List V} {l : List e.den}, optMap (whole f) xs = some l → l.length = xs.length ∧ (∀ v ∈ xs, v.cells.length = e.size) ∧ ∀ (G : Gh) (cvs : List Value), Rels G (flat xs) cvs → Rels G (flat (l.map e.val)) cvs
  | [], l, h => by simp [optMap] at h; subst h; exact ⟨rfl, (fun v hv => by cases hv), (fun G cvs hr => hr)⟩
  | v :: vs, l, h => by
    simp only [optMap] at h
    split at h
    · rename_i x l' h1 h2
      cases h
      obtain ⟨a1, a2⟩ := whole_ok hf h1
      obtain ⟨b1, b2, b3⟩ := optMap_ok hf h2
      refine ⟨by simp [b1], fun u hu => ?_, fun G cvs hr => ?_⟩
      · rcases List.mem_cons.1 hu with rfl | hu
        · exact a1
        · exact b2 u hu
      · rw [flat_cons] at hr
        rw [List.map_cons, flat_cons, Ty.val_cells]
        exact Rels.join v.cells.length (a2 G _ hr.split.1) (b3 G _ hr.split.2)
    · cases h
theorem lst_as {e : Ty} {f : List V → Option (e.den × List V)} (hf : CellsOk e f) {xs : List V} {l : List e.den} (h : optMap (whole f) xs = some l) {G : Gh} {t : Tag} {cv : Value} (hr : VRel G (.lst t xs) cv) : VRel G (.lst t (l.map e.val)) cv := by
  obtain ⟨h1, h2, h3⟩ := optMap_ok hf h
  cases hr with
  | lst0 =>
    have : l = [] := List.length_eq_zero_iff.1 (by simpa using h1)
    subst this
    exact .lst0 _
  | lst1 p cap =>
    have : l = [] := List.length_eq_zero_iff.1 (by simpa using h1)
    subst this
    exact .lst1 p cap
  | lst hsz hl hm hv hc ht =>
    have hrel := h3 G _ ⟨hl, hv⟩
    have hlen : (l.map e.val).length = xs.length := by simpa using h1
    rw [← hlen]
    rw [← hlen] at hc ht
    refine .lst (sz := e.size) (fun v hv => ?_) hrel.1 hm hrel.2 hc (by cases t <;> exact ht)
    obtain ⟨x, _, rfl⟩ := List.mem_map.1 hv
    exact Ty.val_len e x
theorem sliceC_ok {e : Ty} {f : List V → Option (e.den × List V)} (hf : CellsOk e f) : CellsOk (.slice e) (sliceC e f) := by
  intro cs x r h
  unfold sliceC at h
  split at h
  · split at h
    · rename_i l' hl
      cases h
      refine ⟨by simp [Ty.size]; omega, fun G cvs hr => ⟨hr.1, fun j v cv h1 h2 => ?_⟩⟩
      cases j with
      | zero =>
        simp [Ty.cells] at h1
        subst h1
        have := hr.2 0 _ cv rfl h2
        cases this with
        | slst q => exact .slst (by rw [listAs_eq hl]; exact q.lst_ro)
      | succ j => exact hr.2 (j + 1) v cv (by simpa [Ty.cells] using h1) h2
    · cases h
  · split at h
    · rename_i l' hl
      cases h
      refine ⟨by simp [Ty.size]; omega, fun G cvs hr => ⟨hr.1, fun j v cv h1 h2 => ?_⟩⟩
      cases j with
      | zero =>
        simp [Ty.cells] at h1
        subst h1
        exact .slst (lst_as hf hl (hr.2 0 _ cv rfl h2).lst_ro)
      | succ j => exact hr.2 (j + 1) v cv (by simpa [Ty.cells] using h1) h2
    · cases h
  · cases h
mutual
theorem Ty.ofC_ok : ∀ (t : Ty), CellsOk t t.ofC
  | .bool => by
    intro cs x r h
    simp only [Ty.ofC] at h
    unfold boolC at h
    split at h
    · cases h
      refine ⟨by simp [Ty.size]; omega, fun G cvs hr => ⟨hr.1, fun j v cv h1 h2 => ?_⟩⟩
      cases j with
      | zero => simp [Ty.cells] at h1; subst h1; have := hr.2 0 _ cv rfl h2; cases this; exact .sb _
      | succ j => exact hr.2 (j + 1) v cv (by simpa [Ty.cells] using h1) h2
    · cases h
      exact ⟨by simp [Ty.size]; omega, fun G cvs hr => hr⟩
    · cases h
  | .int k => by
    intro cs x r h
    simp only [Ty.ofC] at h
    unfold intC at h
    split at h
    · split at h
      · rename_i hk
        subst hk
        cases h
        refine ⟨by simp [Ty.size]; omega, fun G cvs hr => ⟨hr.1, fun j v cv h1 h2 => ?_⟩⟩
        cases j with
        | zero => simp [Ty.cells] at h1; subst h1; have := hr.2 0 _ cv rfl h2; cases this; exact .si _ _
        | succ j => exact hr.2 (j + 1) v cv (by simpa [Ty.cells] using h1) h2
      · cases h
    · split at h
      · rename_i hk
        subst hk
        cases h
        exact ⟨by simp [Ty.size]; omega, fun G cvs hr => hr⟩
      · cases h
    · cases h
  | .str => by
    intro cs x r h
    simp only [Ty.ofC] at h
    unfold strC at h
    split at h
    · cases h
      refine ⟨by simp [Ty.size]; omega, fun G cvs hr => ⟨hr.1, fun j v cv h1 h2 => ?_⟩⟩
      cases j with
      | zero => simp [Ty.cells] at h1; subst h1; have := hr.2 0 _ cv rfl h2; cases this; exact .ss _
      | succ j => exact hr.2 (j + 1) v cv (by simpa [Ty.cells] using h1) h2
    · cases h
      exact ⟨by simp [Ty.size]; omega, fun G cvs hr => hr⟩
    · cases h
  | .agg fs => fun cs x r h => Ty.ofCs_ok fs cs x r h
  | .slice e => sliceC_ok (Ty.ofC_ok e)
theorem Ty.ofCs_ok : ∀ (ts : List Ty) (cs : List V) (x : Ty.dens ts) (r : List V), Ty.ofCs ts cs = some (x, r) → cs.length = Ty.sizes ts + r.length ∧ ∀ (G : Gh) (cvs : List Value), Rels G cs cvs → Rels G (Ty.cellss ts x ++ r) cvs
  | [], cs, x, r, h => by simp [Ty.ofCs] at h; obtain ⟨_, rfl⟩ := h; exact ⟨by simp [Ty.sizes], fun G cvs hr => hr⟩
  | t :: ts, cs, x, r, h => by
    simp only [Ty.ofCs] at h
    split at h
    · rename_i y r1 h1
      split at h
      · rename_i z r2 h2
        cases h
        obtain ⟨a1, a2⟩ := Ty.ofC_ok t _ _ _ h1
        obtain ⟨b1, b2⟩ := Ty.ofCs_ok ts _ _ _ h2
        refine ⟨by simp only [Ty.sizes]; omega, fun G cvs hr => ?_⟩
        have q := a2 G cvs hr
        simp only [Ty.cellss, List.append_assoc]
        exact Rels.join (t.cells y).length q.split.1 (b2 G _ q.split.2)
      · cases h
    · cases h
end
theorem Ty.ofV_ok {t : Ty} {v : V} {x : t.den} (h : t.ofV v = some x) {G : Gh} {cv : Value} (hr : VRel G v cv) : VRel G (t.val x) cv := by
  unfold Ty.ofV at h
  split at h
  · rename_i hb
    obtain ⟨h1, h2⟩ := whole_ok (Ty.ofC_ok t) h
    have hany : v ≠ .any := by
      rintro rfl
      unfold whole at h
      cases t <;> simp [V.cells, Ty.ofC, boolC, intC, strC, sliceC, Ty.isAgg, V.isAggV] at h hb
    have hc := h2 G _ (hr.cells hany)
    cases t with
    | agg fs =>
      cases v <;> simp [Ty.isAgg, V.isAggV] at hb
      cases hr with
      | agg hl hh => exact VRel.mk_agg hc
    | _ =>
      have hone : v.cells = [v] := by cases v <;> first | rfl | (simp [Ty.isAgg, V.isAggV] at hb)
      have hcv : cv.cells.toList = [cv] := by
        have := hr.cells hany
        rw [hone] at this
        obtain ⟨l1, l2⟩ := this
        cases cv <;> first | rfl | (cases v <;> first | (cases hr; done) | (simp [Ty.isAgg, V.isAggV] at hb; done) | (exact absurd rfl hany) | (cases hr; rename_i q; obtain ⟨_, _, e⟩ := q.slice_form; cases e))
      rw [hcv] at hc
      exact hc.2 0 _ cv rfl rfl
  · cases h
theorem Ty.ofVs_ok : ∀ {ts : List Ty} {vs : List V} {x : Ty.dens ts}, Ty.ofVs ts vs = some x → ∀ {G : Gh} {cvs : List Value}, Rels G vs cvs → Rels G (Ty.vals ts x) cvs
  | [], [], x, h, G, cvs, hr => hr
  | [], v :: vs, x, h, G, cvs, hr => by cases h
  | t :: ts, [], x, h, G, cvs, hr => by cases h
  | t :: ts, v :: vs, x, h, G, cvs, hr => by
    simp only [Ty.ofVs] at h
    split at h
    · rename_i y z h1 h2
      cases h
      match cvs, hr.1 with
      | c :: cs, _ => exact Rels.cons (Ty.ofV_ok h1 (hr.2 0 v c rfl rfl)) (Ty.ofVs_ok h2 (by simpa using hr.drop 1))
    · cases h
end Go.Proofs.Ytnjjkobijjdnbaa
