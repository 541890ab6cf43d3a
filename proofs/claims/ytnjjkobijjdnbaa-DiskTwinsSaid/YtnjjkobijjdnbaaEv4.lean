/- Memory: new blocks, loads, stores, addresses. -/
import Derived.Test.YtnjjkobijjdnbaaEv3
set_option linter.unusedVariables false
namespace Go.Proofs.Ytnjjkobijjdnbaa
open Go

section
variable {P : Program} {Γ : Nat → Option V} {G : Gh} {ob : Ob} {nm : Nm} {w : World}

theorem heap_alloc_lt {w : World} {k : Nat} (o : Obj) (h : k < w.heap.size) : (w.alloc o).heap[k]? = w.heap[k]? := by
  simp only [World.alloc, Array.getElem?_push]
  rw [if_neg (by omega)]
theorem heap_alloc_self (w : World) (o : Obj) : (w.alloc o).heap[w.heap.size]? = some o := heap_alloc_new w o
theorem lt_of_heap {w : World} {k : Nat} {o : Obj} (h : w.heap[k]? = some o) : k < w.heap.size := by
  rcases Nat.lt_or_ge k w.heap.size with h' | h'
  · exact h'
  · simp [Array.getElem?_eq_none h'] at h
theorem cell_of_heap {w w' : World} {a : Addr} (h : w'.heap[a.block]? = w.heap[a.block]?) : w'.cell? a = w.cell? a := by simp [World.cell?, h]
theorem lt_of_cell {w : World} {a : Addr} {v : Value} (h : w.cell? a = some v) : a.block < w.heap.size := by
  unfold World.cell? at h
  split at h
  · rename_i hh; exact lt_of_heap hh
  · cases h
theorem cell_row {w : World} {b off : Nat} {cvs : Array Value} {E : TypeId} {fr : Nat × Nat} (h : w.heap[b]? = some (.cells cvs E fr)) : w.cell? ⟨b, off, none⟩ = cvs[off]? := by simp [World.cell?, h]
theorem add_none (b off j : Nat) : (⟨b, off, none⟩ : Addr).add j = ⟨b, off + j, none⟩ := by unfold Addr.add; split <;> simp_all

theorem WRel.mlt (h : WRel Γ G ob nm w) {b off : Nat} {cv : Value} (hm : G.M b off = some cv) : b < w.heap.size := lt_of_cell (h.m _ _ _ hm)
theorem WRel.mnew (h : WRel Γ G ob nm w) (off : Nat) : G.M w.heap.size off = none := by
  cases hm : G.M w.heap.size off with
  | none => rfl
  | some cv => have := h.mlt hm; omega

theorem WRel.dlt (h : WRel Γ G ob nm w) {l : Nat} {o : Obj} (hl : G.D l = some o) : l < w.heap.size := lt_of_heap (h.dd l o hl).1
theorem WRel.dnew (h : WRel Γ G ob nm w) {l : Nat} (hl : w.heap.size ≤ l) : G.D l = none := by
  cases hd : G.D l with
  | none => rfl
  | some o => have := h.dlt hd; omega
theorem WRel.dne (h : WRel Γ G ob nm w) {l b : Nat} {o : Obj} (hl : G.D l = some o) {c : Array Value} {E : TypeId} {fr : Nat × Nat} (hw : w.heap[b]? = some (.cells c E fr)) : l ≠ b := by
  rintro rfl
  obtain ⟨h1, h2, _⟩ := h.dd _ _ hl
  rw [hw] at h1
  cases h1
  cases h2
/-- Another block exchanged. -/
theorem WRel.dset {w' : World} (h : WRel Γ G ob nm w) {b : Nat} {c : Array Value} {E : TypeId} {fr : Nat × Nat} (hw : w.heap[b]? = some (.cells c E fr)) (hs : ∀ k, k ≠ b → w'.heap[k]? = w.heap[k]?) :
    ∀ l o, G.D l = some o → w'.heap[l]? = some o ∧ o.isCells = false ∧ G.w0.own l :=
  fun l o hl => ⟨(hs l (h.dne hl hw)).trans (h.dd l o hl).1, (h.dd l o hl).2⟩
theorem BufOk.lt {G : Gh} {w : World} {x : Tail} {c : BC} (h : BufOk G w x c) : x.b < w.heap.size := by
  obtain ⟨_, _, _, e, _⟩ := h.row
  exact lt_of_heap e
/-- A buffer in another world, under another ghost. -/
theorem BufOk.to {G G' : Gh} {w w' : World} {x : Tail} {c : BC} (h : BufOk G w x c) (hb : w'.heap[x.b]? = w.heap[x.b]?) (hs : ∀ v cv, VRel G v cv → VRel G' v cv) (h0 : ∀ b, G.w0.own b → G'.w0.own b)
    (hm : ∀ off, G.M x.b off = none → G'.M x.b off = none) (ho : ∀ o, G'.H o ≠ some x.b) : BufOk G' w' x c := by
  obtain ⟨cvs, E, fr, e1, e2, e3, e4⟩ := h.row
  exact ⟨h0 _ h.old, ⟨cvs, E, fr, hb.trans e1, e2, e3, ⟨e4.1, fun j v cv a b => hs _ _ (e4.2 j v cv a b)⟩⟩, h.sz, h.el, h.len, h.cap, fun off a b => hm off (h.free off a b), ho⟩
/-- Another count of what was there at first. -/
def Gh.reK (G : Gh) (a b : Nat) : Gh := { G with kh := a, kt := b }
theorem Gh.reK_sub (G : Gh) (a b : Nat) : G.sub (G.reK a b) := ⟨fun _ _ _ h => h, fun _ _ h => h, fun _ _ h => h, fun _ _ h => h⟩
theorem Gh.sub_reK (G : Gh) (a b : Nat) : (G.reK a b).sub G := ⟨fun _ _ _ h => h, fun _ _ h => h, fun _ _ h => h, fun _ _ h => h⟩
theorem WRel.reK (h : WRel Γ G ob nm w) (a b : Nat) : WRel Γ (G.reK a b) ob nm w where
  m := h.m
  hob o cs x h1 h2 := by
    obtain ⟨q1, ⟨q2, q3, q4, q5, q6, q7, q8⟩, q9⟩ := h.hob o cs x h1 h2
    exact ⟨q1, ⟨q2, q3, q4, q5, q6, q7, q8.mono' (G.reK_sub a b)⟩, q9⟩
  hlt := h.hlt
  habs := h.habs
  inj := h.inj
  hnm n c x h1 h2 := (h.hnm n c x h1 h2).to rfl (fun _ _ h => h.mono' (G.reK_sub a b)) (fun _ h => h) (fun _ h => h) (h.hnm n c x h1 h2).obj
  hno := h.hno
  nmd := h.nmd
  tabs := h.tabs
  tlt := h.tlt
  dd := h.dd
  kdle := h.kdle
  gl g v hg := VRel.mono' (G := G.bare) (G' := (G.reK a b).bare) ⟨fun _ _ _ h => h, (fun _ _ h => by cases h), (fun _ _ h => by cases h), (fun _ _ h => by cases h)⟩ (h.gl g v hg)
  mold := h.mold
  os := h.os
  tape := h.tape
  output := h.output
  size := h.size
  block := h.block
def Gh.reD (G : Gh) (d : Nat) : Gh := { G with kd := d }
theorem Gh.reD_sub (G : Gh) (d : Nat) : G.sub (G.reD d) := ⟨fun _ _ _ h => h, fun _ _ h => h, fun _ _ h => h, fun _ _ h => h⟩
theorem Gh.sub_reD (G : Gh) (d : Nat) : (G.reD d).sub G := ⟨fun _ _ _ h => h, fun _ _ h => h, fun _ _ h => h, fun _ _ h => h⟩
theorem WRel.reD (h : WRel Γ G ob nm w) {d : Nat} (hd : d ≤ w.heap.size) : WRel Γ (G.reD d) ob nm w where
  m := h.m
  hob o cs x h1 h2 := by
    obtain ⟨q1, ⟨q2, q3, q4, q5, q6, q7, q8⟩, q9⟩ := h.hob o cs x h1 h2
    exact ⟨q1, ⟨q2, q3, q4, q5, q6, q7, q8.mono' (G.reD_sub d)⟩, q9⟩
  hlt := h.hlt
  habs := h.habs
  inj := h.inj
  hnm n c x h1 h2 := (h.hnm n c x h1 h2).to rfl (fun _ _ h => h.mono' (G.reD_sub d)) (fun _ h => h) (fun _ h => h) (h.hnm n c x h1 h2).obj
  hno := h.hno
  nmd := h.nmd
  tabs := h.tabs
  tlt := h.tlt
  dd := h.dd
  kdle := hd
  gl g v hg := VRel.mono' (G := G.bare) (G' := (G.reD d).bare) ⟨fun _ _ _ h => h, (fun _ _ h => by cases h), (fun _ _ h => by cases h), (fun _ _ h => by cases h)⟩ (h.gl g v hg)
  mold := h.mold
  os := h.os
  tape := h.tape
  output := h.output
  size := h.size
  block := h.block
/-- What keeps the old blocks keeps the relation. -/
theorem WRel.keep {w' : World} (h : WRel Γ G ob nm w) (hs : w.heap.size ≤ w'.heap.size) (hb : ∀ k, k < w.heap.size → w'.heap[k]? = w.heap[k]?) (ho : w'.os = w.os) (ht : w'.tape = w.tape) (hu : w'.output = w.output) : WRel Γ G ob nm w' where
  m b off cv hm := by rw [cell_of_heap (w := w) (by exact hb _ (h.mlt hm))]; exact h.m _ _ _ hm
  hob o cs b h1 h2 := by rw [hb b (h.hlt o b h2).2]; exact h.hob o cs b h1 h2
  hlt o b h1 := ⟨(h.hlt o b h1).1, Nat.lt_of_lt_of_le (h.hlt o b h1).2 hs⟩
  habs := h.habs
  inj := h.inj
  hnm n c x h1 h2 := (h.hnm n c x h1 h2).to (hb _ (h.hnm n c x h1 h2).lt) (fun _ _ h => h) (fun _ h => h) (fun _ h => h) (h.hnm n c x h1 h2).obj
  hno := h.hno
  nmd := h.nmd
  tabs := h.tabs
  tlt := h.tlt
  kdle := Nat.le_trans h.kdle hs
  dd l o hl := ⟨(hb l (h.dlt hl)).trans (h.dd l o hl).1, (h.dd l o hl).2⟩
  gl := h.gl
  mold := h.mold
  os := ho.trans h.os
  tape := ht.trans h.tape
  output := hu.trans h.output
  size := Nat.le_trans h.size hs
  block k hk := (hb k (Nat.lt_of_lt_of_le (W0.own_lt hk) h.size)).trans (h.block k hk)
theorem WRel.drew (h : WRel Γ G ob nm w) : WRel Γ G ob nm w.drew := h.keep (Nat.le_refl _) (fun _ _ => rfl) rfl rfl rfl
theorem WRel.alloc (h : WRel Γ G ob nm w) (o : Obj) : WRel Γ G ob nm (w.alloc o) := h.keep (by simp) (fun k hk => heap_alloc_lt o hk) rfl rfl rfl

def Gh.addH (G : Gh) (o b : Nat) : Gh := { G with H := fun x => if x = o then some b else G.H x }
def Gh.addM (G : Gh) (b : Nat) (c : Array Value) : Gh := { G with M := fun x off => if x = b then c[off]? else G.M x off }
theorem Gh.le_addH {G : Gh} {o b : Nat} (h : G.H o = none) : G.le (G.addH o b) :=
  ⟨⟨fun _ _ _ h => h, fun x y k => by
    by_cases hx : x = o
    · subst hx; rw [h] at k; cases k
    · simpa [Gh.addH, hx] using k, fun _ _ h => h, fun _ _ h => h⟩, rfl, rfl, rfl, rfl, rfl⟩
theorem Gh.le_addM {G : Gh} {b : Nat} {c : Array Value} (h : ∀ off, G.M b off = none) : G.le (G.addM b c) :=
  ⟨⟨fun x off cv k => by
    by_cases hx : x = b
    · subst hx; rw [h] at k; cases k
    · simpa [Gh.addM, hx] using k, fun _ _ h => h, fun _ _ h => h, fun _ _ h => h⟩, rfl, rfl, rfl, rfl, rfl⟩

/-- A new object. -/
theorem WRel.newObj (h : WRel Γ G ob nm w) {cs : List V} {cvs : Array Value} {E : TypeId} (hr : Rels G cs cvs.toList) :
    G.le (G.addH ob.length w.heap.size) ∧ WRel Γ (G.addH ob.length w.heap.size) (ob ++ [some cs]) nm (w.alloc (.cells cvs E)) := by
  have hnone : G.H ob.length = none := by
    cases hh : G.H ob.length with
    | none => rfl
    | some b => have := (h.hlt _ _ hh).1; omega
  have hle := Gh.le_addH (b := w.heap.size) hnone
  have k := h.alloc (.cells cvs E)
  refine ⟨hle, ?_⟩
  exact {
    m := k.m
    hob := fun o cs' b h1 h2 => by
      by_cases ho : o = ob.length
      · subst ho
        simp only [Gh.addH, if_true, Option.some.injEq] at h2
        subst h2
        simp at h1
        subst h1
        refine ⟨.inl h.size, ⟨cvs, E, (0, 0), heap_alloc_self w _, .inl rfl, by have := hr.1; simp at this; omega, ?_⟩, h.mnew⟩
        have hl : cvs.toList.take cs.length = cvs.toList := List.take_of_length_le (by rw [hr.1]; exact Nat.le_refl _)
        rw [hl]
        exact hr.mono hle
      · have h2' : G.H o = some b := by simpa [Gh.addH, ho] using h2
        have hlt := (h.hlt o b h2').1
        rw [List.getElem?_append_left hlt] at h1
        obtain ⟨a1, ⟨c, E', fr, e1, e2, e3, e4⟩, a3⟩ := k.hob o cs' b h1 h2'
        exact ⟨a1, ⟨c, E', fr, e1, e2, e3, e4.mono hle⟩, a3⟩
    hlt := fun o b h1 => by
      by_cases ho : o = ob.length
      · subst ho
        simp only [Gh.addH, if_true, Option.some.injEq] at h1
        subst h1
        simp
      · have h2' : G.H o = some b := by simpa [Gh.addH, ho] using h1
        have := h.hlt o b h2'
        simp; omega
    habs := fun o h1 => by
      by_cases ho : o = ob.length
      · subst ho; simp at h1
      · rcases Nat.lt_or_ge o ob.length with hl | hl
        · rw [List.getElem?_append_left hl] at h1
          simpa [Gh.addH, ho] using h.habs o h1
        · rw [List.getElem?_append_right hl] at h1
          have : o - ob.length ≠ 0 := by omega
          rw [List.getElem?_eq_none (by simp; omega)] at h1
          cases h1
    inj := fun o o' b h1 h2 => by
      simp only [Gh.addH] at h1 h2
      split at h1 <;> split at h2
      · omega
      · have := (h.hlt _ _ h2).2; have he : w.heap.size = b := Option.some.inj h1; omega
      · have := (h.hlt _ _ h1).2; have he : w.heap.size = b := Option.some.inj h2; omega
      · exact h.inj _ _ _ h1 h2
    hnm := fun n c x h1 h2 => (k.hnm n c x h1 h2).to rfl (fun _ _ h => h.mono hle) (fun _ h => h) (fun _ h => h) (fun o ho => by
      have hx := (h.hnm n c x h1 h2).lt
      simp only [Gh.addH] at ho
      split at ho
      · have he : w.heap.size = x.b := Option.some.inj ho
        omega
      · exact (h.hnm n c x h1 h2).obj o ho)
    hno := k.hno
    nmd := k.nmd
    tabs := k.tabs
    tlt := k.tlt
    dd := k.dd
    kdle := k.kdle
    gl := fun g v hg => (k.gl g v hg).mono' hle.toSub.bare
    mold := k.mold
    os := k.os
    tape := k.tape
    output := k.output
    size := k.size
    block := k.block }

/-- A new row that never changes. -/
theorem WRel.newRow (h : WRel Γ G ob nm w) (cvs : Array Value) (E : TypeId) :
    G.le (G.addM w.heap.size cvs) ∧ WRel Γ (G.addM w.heap.size cvs) ob nm (w.alloc (.cells cvs E)) := by
  have hle := Gh.le_addM (c := cvs) h.mnew
  have k := h.alloc (.cells cvs E)
  refine ⟨hle, ?_⟩
  exact {
    m := fun b off cv hm => by
      by_cases hb : b = w.heap.size
      · subst hb
        rw [cell_row (heap_alloc_self w _)]
        simpa [Gh.addM] using hm
      · exact k.m b off cv (by simpa [Gh.addM, hb] using hm)
    hob := fun o cs b h1 h2 => by
      obtain ⟨a1, ⟨c, E', fr, e1, e2, e3, e4⟩, a3⟩ := k.hob o cs b h1 h2
      have hb : b ≠ w.heap.size := by have := (h.hlt o b h2).2; omega
      exact ⟨a1, ⟨c, E', fr, e1, e2, e3, e4.mono hle⟩, fun off => by simpa [Gh.addM, hb] using a3 off⟩
    hlt := k.hlt
    habs := k.habs
    inj := k.inj
    hnm := fun n c x h1 h2 => by
      have hx := (h.hnm n c x h1 h2).lt
      have hb : x.b ≠ w.heap.size := by omega
      exact (k.hnm n c x h1 h2).to rfl (fun _ _ h => h.mono hle) (fun _ h => h) (fun off h => by simpa [Gh.addM, hb] using h) (k.hnm n c x h1 h2).obj
    hno := k.hno
    nmd := k.nmd
    tabs := k.tabs
    tlt := k.tlt
    dd := k.dd
    kdle := k.kdle
    gl := fun g v hg => (k.gl g v hg).mono' hle.toSub.bare
    mold := fun b off hb => by
      have hne : b ≠ w.heap.size := by have := W0.own_lt (x := G.w0) hb; have := h.size; omega
      simpa [Gh.addM, hne] using k.mold b off hb
    os := k.os
    tape := k.tape
    output := k.output
    size := k.size
    block := k.block }
theorem addM_new (G : Gh) (b : Nat) (c : Array Value) (off : Nat) : (G.addM b c).M b off = c[off]? := by simp [Gh.addM]
theorem addH_new (G : Gh) (o b : Nat) : (G.addH o b).H o = some b := by simp [Gh.addH]

/-! ### Types -/
def tySize (P : Program) (T : TypeId) : Option Nat := (P.info? T).map (·.size)
def tyZero (P : Program) (T : TypeId) : Option V := ((P.info? T).bind (·.zero)).map ofVal
def tyAgg (P : Program) (T : TypeId) : Option Bool := (P.underlying T).map fun | .struct _ | .array _ _ => true | _ => false
theorem run_sizeOf {T : TypeId} {n : Nat} (h : tySize P T = some n) (w : World) : (sizeOf T).run P w = .ok n w := by
  unfold tySize at h
  cases hi : P.info? T with
  | none => simp [hi] at h
  | some i => simp [hi] at h; subst h; simp [sizeOf, typeInfo, hi]
theorem run_isAgg {T : TypeId} {t : Bool} (h : tyAgg P T = some t) (w : World) : (isAgg T).run P w = .ok t w := by
  unfold tyAgg at h
  cases hi : P.underlying T with
  | none => simp [hi] at h
  | some d =>
    simp [hi] at h
    subst h
    cases d <;> simp [isAgg, run_underlying hi]
theorem run_zero {T : TypeId} {v : V} (h : tyZero P T = some v) (w : World) : ∃ z, (zeroValue T).run P w = .ok z w ∧ v = ofVal z := by
  unfold tyZero at h
  cases hi : P.info? T with
  | none => simp [hi] at h
  | some i =>
    simp [hi] at h
    obtain ⟨z, hz, rfl⟩ := h
    exact ⟨z, by simp [zeroValue, typeInfo, hi, hz], rfl⟩

/-! ### Loads -/
def getV (agg : Bool) (sz : Nat) (cs : List V) (off : Nat) : Option V :=
  if agg then if off + sz ≤ cs.length then some (.agg ((cs.drop off).take sz)) else none else cs[off]?
def loadV (agg : Bool) (sz : Nat) (ob : Ob) : V → Option V
  | .ptr o off =>
    match ob[o]? with
    | some (some cs) => getV agg sz cs off
    | _ => none
  | .pel xs k off =>
    match xs[k]? with
    | some x => getV agg sz x.cells off
    | none => none
  | _ => none

theorem run_loadVar_at {T : TypeId} {agg : Bool} {sz : Nat} (ha : tyAgg P T = some agg) (hs : tySize P T = some sz) {cs : List V} {cvs : List Value} {off : Nat} {v : V} (h : getV agg sz cs off = some v)
    (hr : Rels G cs cvs) (b o0 : Nat) (w : World) (hc : ∀ j cv, cvs[j]? = some cv → w.cell? ⟨b, o0 + j, none⟩ = some cv) :
    ∃ cv, (loadVar T ⟨b, o0 + off, none⟩).run P w = .ok cv w ∧ VRel G v cv := by
  unfold getV at h
  cases agg with
  | false =>
    simp at h
    obtain ⟨cv, h1, h2⟩ := hr.of_get h
    exact ⟨cv, by simp [loadVar, run_isAgg ha, hc off cv h1], h2⟩
  | true =>
    simp at h
    obtain ⟨hle, rfl⟩ := h
    have hr' := (hr.drop off).take sz
    have hlen : ((cvs.drop off).take sz).length = sz := by simp [hr.1]; omega
    have := run_loadCells_list (P := P) w ⟨b, o0 + off, none⟩ ((cvs.drop off).take sz) (fun j v hj => by
      rw [add_none]
      rw [List.getElem?_take] at hj
      split at hj
      · rw [List.getElem?_drop] at hj
        have := hc _ _ hj
        rwa [← Nat.add_assoc] at this
      · cases hj)
    rw [hlen] at this
    refine ⟨.agg ((cvs.drop off).take sz).toArray, by simp [loadVar, run_isAgg ha, run_sizeOf hs, this], ?_⟩
    exact .agg (by simpa using hr'.1) (fun j v cv h1 h2 => hr'.2 j v cv h1 (by simpa using h2))

/-- Where an abstract address leads. -/
theorem VRel.load {T : TypeId} {agg : Bool} {sz : Nat} (ha : tyAgg P T = some agg) (hs : tySize P T = some sz) (h : WRel Γ G ob nm w) {p v : V} {cp : Value} (hp : VRel G p cp) (hl : loadV agg sz ob p = some v) :
    ∃ a cv, cp = .pointer (some a) ∧ (loadVar T a).run P w = .ok cv w ∧ VRel G v cv := by
  cases hp <;> simp only [loadV] at hl <;> try cases hl
  case ptr o off b hb =>
    split at hl
    · rename_i cs hcs
      obtain ⟨_, ⟨cvs, E, fr, e1, e2, e3, e4⟩, _⟩ := h.hob o cs b hcs hb
      obtain ⟨cv, h1, h2⟩ := run_loadVar_at ha hs hl e4 b 0 w (fun j cv hj => by
        rw [Nat.zero_add, cell_row e1]
        rw [List.getElem?_take] at hj
        split at hj
        · simpa using hj
        · cases hj)
      rw [Nat.zero_add] at h1
      exact ⟨_, cv, rfl, h1, h2⟩
    · cases hl
  case pel xs k off b o0 sz0 cvs hsz hlen hm hv =>
    split at hl
    · rename_i x hx
      have hxm : x ∈ xs := List.mem_of_getElem? hx
      -- the k-th element's cells inside the flat row
      have hfl : ∀ j v, x.cells[j]? = some v → (flat xs)[k * sz0 + j]? = some v := flat_get hsz hx
      have hr : Rels G x.cells ((cvs.drop (k * sz0)).take sz0) := by
        have hlen2 : (flat xs).length = xs.length * sz0 := flat_length hsz
        have hk : k < xs.length := by
          rcases Nat.lt_or_ge k xs.length with h' | h'
          · exact h'
          · simp [List.getElem?_eq_none h'] at hx
        have hkk : k * sz0 + sz0 ≤ xs.length * sz0 := by rw [← Nat.succ_mul]; exact Nat.mul_le_mul_right _ hk
        refine ⟨by simp [hlen, hlen2, hsz x hxm]; omega, fun j v cv h1 h2 => ?_⟩
        rw [List.getElem?_take] at h2
        split at h2
        · rw [List.getElem?_drop] at h2
          exact hv _ _ _ (hfl j v h1) h2
        · cases h2
      obtain ⟨cv, h1, h2⟩ := run_loadVar_at ha hs hl hr b (o0 + k * sz0) w (fun j cv hj => by
        rw [List.getElem?_take] at hj
        split at hj
        · rw [List.getElem?_drop] at hj
          have := h.m _ _ _ (hm _ _ hj)
          rwa [← Nat.add_assoc] at this
        · cases hj)
      rw [Nat.add_assoc] at h1
      exact ⟨_, cv, rfl, h1, h2⟩
    · cases hl
where
  flat_length {xs : List V} {sz : Nat} (h : ∀ x ∈ xs, x.cells.length = sz) : (flat xs).length = xs.length * sz := by
    induction xs with
    | nil => simp [flat]
    | cons x xs ih =>
      have := ih (fun y hy => h y (by simp [hy]))
      simp only [flat, List.flatMap_cons, List.length_append, List.length_cons] at this ⊢
      rw [this, h x (by simp), Nat.succ_mul]
      omega
  flat_get {xs : List V} {sz : Nat} (h : ∀ x ∈ xs, x.cells.length = sz) {k : Nat} {x : V} (hx : xs[k]? = some x) (j : Nat) (v : V) (hj : x.cells[j]? = some v) : (flat xs)[k * sz + j]? = some v := by
    induction xs generalizing k with
    | nil => simp at hx
    | cons y ys ih =>
      simp only [flat, List.flatMap_cons]
      cases k with
      | zero =>
        simp at hx
        subst hx
        have hlt : j < y.cells.length := by
          rcases Nat.lt_or_ge j y.cells.length with h' | h'
          · exact h'
          · simp [List.getElem?_eq_none h'] at hj
        rw [Nat.zero_mul, Nat.zero_add, List.getElem?_append_left hlt]
        exact hj
      | succ k =>
        simp at hx
        have hy := h y (by simp)
        rw [List.getElem?_append_right (by rw [hy, Nat.succ_mul]; omega)]
        have e : (k + 1) * sz + j - y.cells.length = k * sz + j := by rw [hy, Nat.succ_mul]; omega
        rw [e]
        exact ih (fun z hz => h z (by simp [hz])) hx
theorem SemV.load {σ : St} {o : Oper} {T : TypeId} {x : Operand} {agg : Bool} {sz : Nat} {v : V} (ho : o.op = .load T x) (ha : tyAgg P T = some agg) (hs : tySize P T = some sz) (hl : loadV agg sz σ.ob (σ.eval Γ x) = some v) :
    SemV P Γ o σ v σ.ob σ.nm :=
  SemV.of_pure fun G a w hr => by
    obtain ⟨ad, cv, h1, h2, h3⟩ := VRel.load ha hs hr.wr (hr.eval x) hl
    exact ⟨cv, by simp [execOp, ho, Instr.loadAt, Instr.sureAddr, h1, h2], h3⟩
end
end Go.Proofs.Ytnjjkobijjdnbaa
