/- Buffers: made, written, grown. -/
import Derived.Test.YtnjjkobijjdnbaaEv11c
import Derived.Deep.AppendSrc
import Derived.Laws.MakeOwn
set_option linter.unusedVariables false
set_option linter.unusedSimpArgs false
namespace Go.Proofs.Ytnjjkobijjdnbaa
open Go

def Gh.addT (G : Gh) (s : Nat) (x : Tail) : Gh := { G with T := fun n => if n = s then some x else G.T n }
section
variable {P : Program} {Γ : Nat → Option V} {G : Gh} {ob : Ob} {nm : Nm} {w : World} {σ : St}
theorem Gh.le_addT {s : Nat} {x : Tail} (h : G.T s = none) : G.le (G.addT s x) :=
  ⟨⟨fun _ _ _ h => h, fun _ _ h => h, fun n y k => by
    by_cases hn : n = s
    · subst hn; rw [h] at k; cases k
    · simpa [Gh.addT, hn] using k, fun _ _ h => h⟩, rfl, rfl, rfl, rfl, rfl⟩
theorem addT_new (G : Gh) (s : Nat) (x : Tail) : (G.addT s x).T s = some x := by simp [Gh.addT]
/-- A buffer under a name that is free. -/
theorem WRel.newBuf (h : WRel Γ G ob nm w) {s : Nat} (hs : nm[s]? = some none) {x : Tail} {c : BC} (B : BufOk G w x c) (hd : ∀ n c' x', nm[n]? = some (some (.live c')) → G.T n = some x' → x'.b ≠ x.b) :
    G.le (G.addT s x) ∧ WRel Γ (G.addT s x) ob (nm.set s (some (.live c))) w := by
  have hnone : G.T s = none := h.tabs s hs
  have hlt : s < nm.length := by
    rcases Nat.lt_or_ge s nm.length with h' | h'
    · exact h'
    · rw [List.getElem?_eq_none h'] at hs; cases hs
  have hle := Gh.le_addT (x := x) hnone
  have hT : ∀ {n y}, (G.addT s x).T n = some y → (n = s ∧ y = x) ∨ (n ≠ s ∧ G.T n = some y) := fun {n y} hh => by
    by_cases hn : n = s
    · subst hn; simp [Gh.addT] at hh; exact .inl ⟨rfl, hh.symm⟩
    · simp [Gh.addT, hn] at hh; exact .inr ⟨hn, hh⟩
  have hself : (nm.set s (some (.live c)))[s]? = some (some (.live c)) := by rw [List.getElem?_set_self hlt]
  have hoth : ∀ {n : Nat}, n ≠ s → (nm.set s (some (.live c)))[n]? = nm[n]? := fun hn => List.getElem?_set_ne (Ne.symm hn)
  have up : ∀ {y c'}, BufOk G w y c' → BufOk (G.addT s x) w y c' := fun B' => B'.to rfl (fun _ _ h => h.mono hle) (fun _ h => h) (fun _ h => h) B'.obj
  refine ⟨hle, ?_⟩
  exact {
    m := h.m
    hob := fun o cs b h1 h2 => by
      obtain ⟨q1, ⟨q2, q3, q4, q5, q6, q7, q8⟩, q9⟩ := h.hob o cs b h1 h2
      exact ⟨q1, ⟨q2, q3, q4, q5, q6, q7, q8.mono hle⟩, q9⟩
    hlt := h.hlt
    habs := h.habs
    inj := h.inj
    hnm := fun n c' y h1 h2 => by
      rcases hT h2 with ⟨rfl, rfl⟩ | ⟨hn, hy⟩
      · rw [hself] at h1
        obtain rfl : c = c' := by simpa using h1
        exact up B
      · rw [hoth hn] at h1
        exact up (h.hnm n c' y h1 hy)
    hno := fun n c' h1 h2 => by
      by_cases hn : n = s
      · subst hn; simp [Gh.addT] at h2
      · rw [hoth hn] at h1
        exact h.hno n c' h1 (by simpa [Gh.addT, hn] using h2)
    nmd := fun n n' c1 c2 y y' hne h1 h2 h3 h4 => by
      rcases hT h3 with ⟨rfl, rfl⟩ | ⟨hn, hy⟩
      · rcases hT h4 with ⟨e, _⟩ | ⟨hn', hy'⟩
        · exact absurd e.symm hne
        · rw [hoth hn'] at h2
          exact (hd n' c2 y' h2 hy').symm
      · rcases hT h4 with ⟨rfl, rfl⟩ | ⟨hn', hy'⟩
        · rw [hoth hn] at h1
          exact hd n c1 y h1 hy
        · rw [hoth hn] at h1
          rw [hoth hn'] at h2
          exact h.nmd n n' c1 c2 y y' hne h1 h2 hy hy'
    tabs := fun n h1 => by
      by_cases hn : n = s
      · subst hn; rw [hself] at h1; simp at h1
      · rw [hoth hn] at h1
        simp only [Gh.addT, hn, if_false]
        exact h.tabs n h1
    tlt := fun n y h1 => by
      rcases hT h1 with ⟨rfl, _⟩ | ⟨_, hy⟩
      · simpa using hlt
      · simpa using h.tlt n y hy
    dd := h.dd
    kdle := h.kdle
    gl := fun g v hg => (h.gl g v hg).mono' hle.toSub.bare
    mold := h.mold
    os := h.os
    tape := h.tape
    output := h.output
    size := h.size
    block := h.block }
/-- A buffer that nothing is said of any more. -/
theorem WRel.kill (h : WRel Γ G ob nm w) {n : Nat} {b : Bf} (hn : nm[n]? = some (some b)) : WRel Γ G ob (nm.set n (some .dead)) w := by
  have hlt : n < nm.length := by
    rcases Nat.lt_or_ge n nm.length with h' | h'
    · exact h'
    · rw [List.getElem?_eq_none h'] at hn; cases hn
  have hself : (nm.set n (some Bf.dead))[n]? = some (some .dead) := by rw [List.getElem?_set_self hlt]
  have hoth : ∀ {m : Nat}, m ≠ n → (nm.set n (some Bf.dead))[m]? = nm[m]? := fun hm => List.getElem?_set_ne (Ne.symm hm)
  have live : ∀ {m : Nat} {c : BC}, (nm.set n (some Bf.dead))[m]? = some (some (Bf.live c)) → nm[m]? = some (some (Bf.live c)) := fun {m c} hm => by
    by_cases e : m = n
    · subst e; rw [hself] at hm; cases hm
    · rwa [hoth e] at hm
  exact { h with
    hnm := fun m c x h1 h2 => h.hnm m c x (live h1) h2
    hno := fun m c h1 h2 => h.hno m c (live h1) h2
    nmd := fun m m' c c' x x' hne h1 h2 h3 h4 => h.nmd m m' c c' x x' hne (live h1) (live h2) h3 h4
    tabs := fun m h1 => by
      by_cases e : m = n
      · subst e; rw [hself] at h1; cases h1
      · rw [hoth e] at h1; exact h.tabs m h1
    tlt := fun m x h1 => by simpa using h.tlt m x h1 }
/-- A row turned that no object and no living buffer has. -/
theorem WRel.row {w' : World} (h : WRel Γ G ob nm w) {b : Nat} {c' : Array Value} {E : TypeId} {fr : Nat × Nat} (hs : RowSet w w' b c' E fr) (hold : G.w0.own b) (hm : ∀ off cv, G.M b off = some cv → c'[off]? = some cv)
    (ho : ∀ o, G.H o ≠ some b) (hn : ∀ n c x, nm[n]? = some (some (.live c)) → G.T n = some x → x.b ≠ b) (hdd : ∀ l o, G.D l = some o → w'.heap[l]? = some o ∧ o.isCells = false ∧ G.w0.own l) : WRel Γ G ob nm w' := {
  m := fun x off cv hx => by
    by_cases e : x = b
    · subst e; rw [cell_row hs.row]; exact hm off cv hx
    · rw [cell_of_heap (w := w) (by exact hs.other x e)]; exact h.m _ _ _ hx
  hob := fun o cs x h1 h2 => by
    have e : x ≠ b := fun e => ho o (by rw [← e]; exact h2)
    obtain ⟨q1, ⟨q2, q3, q4, q5, q6⟩, q7⟩ := h.hob o cs x h1 h2
    exact ⟨q1, ⟨q2, q3, q4, by rw [hs.other x e]; exact q5, q6⟩, q7⟩
  hlt := fun o x h1 => by rw [hs.size]; exact h.hlt o x h1
  habs := h.habs
  inj := h.inj
  hnm := fun n c x h1 h2 => (h.hnm n c x h1 h2).to (hs.other _ (hn n c x h1 h2)) (fun _ _ h => h) (fun _ h => h) (fun _ h => h) (h.hnm n c x h1 h2).obj
  hno := h.hno
  nmd := h.nmd
  tabs := h.tabs
  tlt := h.tlt
  dd := hdd
  kdle := by rw [hs.size]; exact h.kdle
  gl := h.gl
  mold := h.mold
  os := hs.os.trans h.os
  tape := hs.tape.trans h.tape
  output := hs.output.trans h.output
  size := by rw [hs.size]; exact h.size
  block := fun k hk => (hs.other k (W0.own_ne hold hk)).trans (h.block k hk) }
theorem rowSet_setCells {b : Nat} {E : TypeId} {fr : Nat × Nat} : ∀ (vs : List Value) (o : Nat) (c : Array Value) (w : World), w.heap[b]? = some (.cells c E fr) → o + vs.length ≤ c.size →
    RowSet w (w.setCells b o vs) b (c.toList.take o ++ vs ++ c.toList.drop (o + vs.length)).toArray E fr
  | [], o, c, w, h, _ => ⟨by simpa [World.setCells] using h, fun _ _ => rfl, rfl, rfl, rfl, rfl⟩
  | v :: rest, o, c, w, h, hl => by
    simp only [List.length_cons] at hl
    have hr := rowSet_setCell (off := o) h v
    have e2 := rowSet_setCells (b := b) rest (o + 1) (c.setIfInBounds o v) _ hr.row (by simp; omega)
    have e := splice_step c.toList o v rest (by simp; omega)
    have e3 := e2.row
    simp only [Array.toList_setIfInBounds] at e3 e
    rw [e] at e3
    exact ⟨by simpa [World.setCells] using e3, fun k hk => (e2.other k hk).trans (hr.other k hk), e2.size.trans hr.size, e2.os.trans hr.os, e2.tape.trans hr.tape, e2.output.trans hr.output⟩

/-! ### append -/
/-- What is appended, looked at: its elements. -/
structure Ys (P : Program) (G : Gh) (w : World) (size : Nat) (tx : TypeId) (cy : Value) (ys : List V) : Prop where
  src : ∃ news, Src P size tx cy ys.length news w ∧ Rels G (flat ys) news
  el : ∀ v ∈ ys, v.cells.length = size
theorem grownCap_ge (w : World) (need old : Nat) (e : TypeId) : need ≤ grownCap w need old e := by
  simp only [grownCap, Question.cut]
  omega
theorem zeroCells_size (z : Array Value) (n : Nat) : (Builtin.zeroCells z n).size = n * z.size := by simp [Builtin.zeroCells]
/-- A buffer as a new row: what there was, and more. -/
theorem append_grow (h : WRel Γ G ob nm w) {s : Nat} (hs : nm[s]? = some none) {t tx ty e : TypeId} {i : TypeInfo} {z : Value} (ht : P.underlying t = some (.slice e)) (hi : P.info? e = some i) (hz : i.zero = some z) (hzs : z.cells.size = i.size)
    {base : Option Addr} {len cap : Nat} {olds : List V} {co : List Value} (hro : Rels G (flat olds) co) (hlo : olds.length = len) (helo : ∀ v ∈ olds, v.cells.length = i.size)
    (hold : (Builtin.firstCells i.size len (.slice base len cap)).run P w.drew = .ok co.toArray w.drew)
    {cy : Value} {ys : List V} (hy : Ys P G w i.size tx cy ys) (hg : cap < len + ys.length) (hb : (len + ys.length) * 2 * i.bytes ≤ 281474976710656) (hb2 : 1 ≤ i.bytes) {c' : BC} (hc : c'.els = olds ++ ys) (hcs : c'.sz = i.size) (sy : Bool) :
    ∃ (cv : Value) (w' : World) (G' : Gh), (Builtin.append_ #[t, tx] ty #[.slice base len cap, cy]).run P w = .ok cv w' ∧ G.le G' ∧ VRel G' (.bs sy s 0 (len + ys.length)) cv ∧ WRel Γ G' ob (nm.set s (some (.live c'))) w' := by
  obtain ⟨news, hsrc, hrn⟩ := hy.src
  have hne : len + ys.length ≤ (len + ys.length) * 2 * i.bytes := by
    have := Nat.le_mul_of_pos_right ((len + ys.length) * 2) hb2
    omega
  have hfit : Builtin.nextslicecap (len + ys.length) cap * i.bytes ≤ 281474976710656 := by
    have h1 := nextslicecap_le hg
    have h2 := Nat.mul_le_mul_right i.bytes h1
    have h3 : 2 * (len + ys.length) * i.bytes = (len + ys.length) * 2 * i.bytes := by rw [Nat.mul_comm 2]
    omega
  have hrun := run_append_grow_src (P := P) w t tx ty e i z ht hi hz base len cap co hold cy ys.length news hsrc hg (by omega) hfit
  have hcap := grownCap_ge w (len + ys.length) cap e
  generalize hgc : grownCap w (len + ys.length) cap e = nc at hrun hcap
  have hk := (h.drew).alloc (.cells ((co ++ news).toArray ++ Builtin.zeroCells z.cells (nc - (len + ys.length))) e)
  have hdsz : w.drew.heap.size = w.heap.size := rfl
  have hrel : Rels G (flat c'.els) (co ++ news) := by rw [hc, flat_append]; exact hro.append hrn
  have hel : ∀ v ∈ c'.els, v.cells.length = c'.sz := fun v hv => by
    rw [hc] at hv
    rw [hcs]
    rcases List.mem_append.1 hv with hv | hv
    · exact helo v hv
    · exact hy.el v hv
  have hclen : c'.len = len + ys.length := by rw [← BC.els_len, hc, List.length_append, hlo]
  have hfl := flat_length hel
  have B : BufOk G (w.drew.alloc (.cells ((co ++ news).toArray ++ Builtin.zeroCells z.cells (nc - (len + ys.length))) e)) ⟨w.heap.size, 0, i.size, len + ys.length, nc⟩ c' := {
    old := .inl h.size
    row := by
      refine ⟨_, e, (0, 0), heap_alloc_self w.drew _, .inl rfl, ?_, ?_⟩
      · have e1 : (co ++ news).length = (len + ys.length) * i.size := by rw [hrel.1, hfl, BC.els_len, hclen, hcs]
        simp only [Array.size_append, List.size_toArray, e1, zeroCells_size, hzs, Nat.zero_add]
        rw [← Nat.add_mul]
        have : len + ys.length + (nc - (len + ys.length)) = nc := by omega
        rw [this]
        exact Nat.le_refl _
      · have e2 : (((co ++ news).toArray ++ Builtin.zeroCells z.cells (nc - (len + ys.length))).toList.drop 0).take (flat c'.els).length = co ++ news := by
          rw [← hrel.1]
          simp only [List.drop_zero, Array.toList_append]
          exact List.take_left' rfl
        rw [e2]
        exact hrel
    sz := hcs.symm
    el := hel
    len := hclen
    cap := hcap
    free := fun off _ _ => by
      show G.M w.heap.size off = none
      exact h.mnew off
    obj := fun o ho => by
      have := (h.hlt o _ ho).2
      simp at this }
  obtain ⟨hle, hw'⟩ := hk.newBuf hs B (fun n c1 x1 h1 h2 => by
    have := (h.hnm n c1 x1 h1 h2).lt
    simp only [ne_eq]
    omega)
  refine ⟨_, _, _, hrun, hle, ?_, hw'⟩
  have := VRel.bs (sy := sy) (off := 0) (len := len + ys.length) (addT_new G s ⟨w.heap.size, 0, i.size, len + ys.length, nc⟩) (by simp)
  simpa using this
theorem BC.slice_els {c : BC} {off len : Nat} (h : off + len ≤ c.len) : ((c.els.drop off).take len).length = len := by
  simp [BC.els_len]; omega
/-- The cells of a part of a buffer. -/
theorem BufOk.part {x : Tail} {c : BC} (B : BufOk G w x c) {off len : Nat} (hl : off + len ≤ x.len) {cvs : Array Value} {E : TypeId} {fr : Nat × Nat} (e1 : w.heap[x.b]? = some (.cells cvs E fr)) :
    Rels G (flat ((c.els.drop off).take len)) ((cvs.toList.drop (x.lo + off * x.sz)).take (len * x.sz)) := by
  obtain ⟨cvs', E', fr', f1, f2, f3, f4⟩ := B.row
  obtain rfl : cvs' = cvs := by rw [e1] at f1; simp at f1; exact f1.1.symm
  have hel : ∀ v ∈ c.els, v.cells.length = x.sz := fun v hv => (B.el v hv).trans B.sz.symm
  have hfl := flat_length hel
  rw [flat_take_drop hel]
  have h1 := (f4.drop (off * x.sz)).take (len * x.sz)
  have hle : (off + len) * x.sz ≤ c.els.length * x.sz := Nat.mul_le_mul_right _ (by rw [BC.els_len, B.len]; exact hl)
  rw [Nat.add_mul] at hle
  have e : (((cvs'.toList.drop x.lo).take (flat c.els).length).drop (off * x.sz)).take (len * x.sz) = (cvs'.toList.drop (x.lo + off * x.sz)).take (len * x.sz) := by
    rw [List.drop_take, List.take_take, List.drop_drop, Nat.min_eq_left (by omega)]
  rw [e] at h1
  exact h1
theorem frozen_row {b off : Nat} {c : Array Value} {E : TypeId} {fr : Nat × Nat} (h : w.heap[b]? = some (.cells c E fr)) (hf : fr = (0, 0) ∨ c.size ≤ fr.1) (hl : off < c.size) : w.frozen? ⟨b, off, none⟩ = false := by
  simp only [World.frozen?, h]
  rcases hf with rfl | hf
  · simp
  · have : ¬ fr.1 ≤ off := by omega
    simp [this]
/-- A buffer grown where it lies. -/
theorem append_room (h : WRel Γ G ob nm w) {s n : Nat} (hs : nm[s]? = some none) {t tx ty e : TypeId} {i : TypeInfo} (ht : P.underlying t = some (.slice e)) (hi : P.info? e = some i)
    {c : BC} (hn : nm[n]? = some (some (.live c))) {x : Tail} (hT : G.T n = some x) (hcz : c.sz = i.size) {off len : Nat} (hl : off + len ≤ x.len)
    {cy : Value} {ys : List V} (hy : Ys P G w i.size tx cy ys) (hg : off + len + ys.length ≤ x.cap) {c' : BC} (hc : c'.els = (c.els.drop off).take len ++ ys) (hcs : c'.sz = i.size) (sy : Bool) :
    ∃ (cv : Value) (w' : World) (G' : Gh), (Builtin.append_ #[t, tx] ty #[.slice (some ⟨x.b, x.lo + off * x.sz, none⟩) len (x.cap - off), cy]).run P w = .ok cv w' ∧ G.le G' ∧ VRel G' (.bs sy s 0 (len + ys.length)) cv ∧ WRel Γ G' ob ((nm.set n (some .dead)).set s (some (.live c'))) w' := by
  have B := h.hnm n c x hn hT
  obtain ⟨news, hsrc, hrn⟩ := hy.src
  obtain ⟨cvs, E, fr, e1, e2, e3, e4⟩ := B.row
  have hxs : x.sz = i.size := B.sz.trans hcz
  have hfly : (flat ys).length = ys.length * x.sz := flat_length (fun v hv => (hy.el v hv).trans hxs.symm)
  have hnl : news.length = ys.length * x.sz := hrn.1.trans hfly
  have hcap : (off + len + ys.length) * x.sz ≤ x.cap * x.sz := Nat.mul_le_mul_right _ hg
  rw [Nat.add_mul, Nat.add_mul] at hcap
  have hrun := run_append_room_src (P := P) w t tx ty e i ht hi x.b (x.lo + off * x.sz) len (x.cap - off) cy ys.length news hsrc (by omega)
    (fun j hj => by
      rw [cell_row e1, ← hxs]
      have : x.lo + off * x.sz + len * x.sz + j < cvs.size := by omega
      simp [this])
    (fun j hj => frozen_row e1 e2 (by rw [← hxs]; omega))
  have rs := rowSet_setCells (E := E) (fr := fr) news (x.lo + off * x.sz + len * i.size) cvs w e1 (by rw [← hxs]; omega)
  rw [← hxs] at hrun rs
  generalize hq : x.lo + off * x.sz + len * x.sz = q at hrun rs
  have hsn : s ≠ n := fun e => by rw [e, hn] at hs; cases hs
  have hk := h.kill hn
  have hs' : (nm.set n (some Bf.dead))[s]? = some none := by rw [List.getElem?_set_ne (Ne.symm hsn)]; exact hs
  have hlive : ∀ (m : Nat) (c1 : BC) (x1 : Tail), (nm.set n (some Bf.dead))[m]? = some (some (Bf.live c1)) → G.T m = some x1 → x1.b ≠ x.b := fun m c1 x1 h1 h2 => by
    by_cases hm : m = n
    · subst hm
      have hlt : m < nm.length := get_lt'' hn
      rw [List.getElem?_set_self hlt] at h1
      cases h1
    · rw [List.getElem?_set_ne (Ne.symm hm)] at h1
      exact h.nmd m n c1 c x1 x hm h1 hn h2 hT
  have hr := hk.row rs B.old (fun o cv hm => by
    have hc0 := h.m _ _ _ hm
    rw [cell_row e1] at hc0
    have hout : o < q ∨ x.lo + x.cap * x.sz ≤ o := by
      rcases Nat.lt_or_ge o q with h' | h'
      · exact .inl h'
      · rcases Nat.lt_or_ge o (x.lo + x.cap * x.sz) with h2 | h2
        · rw [B.free o (by omega) h2] at hm; cases hm
        · exact .inr h2
    have hc1 : cvs.toList[o]? = some cv := by simpa using hc0
    simp only [List.getElem?_toArray, List.append_assoc]
    have hos : o < cvs.size := by
      rcases Nat.lt_or_ge o cvs.size with h' | h'
      · exact h'
      · rw [Array.getElem?_eq_none h'] at hc0; cases hc0
    rcases hout with ho | ho
    · rw [List.getElem?_append_left (by simp; omega), List.getElem?_take, if_pos ho]
      exact hc1
    · rw [List.getElem?_append_right (by simp; omega), List.getElem?_append_right (by simp; omega), List.getElem?_drop]
      have : q + news.length + (o - (cvs.toList.take q).length - news.length) = o := by simp; omega
      rw [this]
      exact hc1) B.obj hlive (h.dset e1 rs.other)
  have hrel : Rels G (flat c'.els) ((cvs.toList.drop (x.lo + off * x.sz)).take (len * x.sz) ++ news) := by rw [hc, flat_append]; exact (B.part hl e1).append hrn
  have hel : ∀ v ∈ c'.els, v.cells.length = c'.sz := fun v hv => by
    rw [hc] at hv
    rw [hcs]
    rcases List.mem_append.1 hv with hv | hv
    · exact (B.el v (List.mem_of_mem_drop (List.mem_of_mem_take hv))).trans hcz
    · exact hy.el v hv
  have hclen : c'.len = len + ys.length := by rw [← BC.els_len, hc, List.length_append, BC.slice_els (by rw [B.len]; exact hl)]
  have hfl := flat_length hel
  have hc'z : c'.sz = x.sz := hcs.trans hxs.symm
  have B' : BufOk G (w.setCells x.b q news) ⟨x.b, x.lo + off * x.sz, x.sz, len + ys.length, x.cap - off⟩ c' := {
    old := B.old
    row := by
      refine ⟨_, E, fr, rs.row, ?_, ?_, ?_⟩
      · have : (cvs.toList.take q ++ news ++ cvs.toList.drop (q + news.length)).toArray.size = cvs.size := by simp; omega
        rw [this]; exact e2
      · have : (cvs.toList.take q ++ news ++ cvs.toList.drop (q + news.length)).toArray.size = cvs.size := by simp; omega
        rw [this]
        have : off * x.sz + (x.cap - off) * x.sz = x.cap * x.sz := by rw [← Nat.add_mul]; congr 1; omega
        show x.lo + off * x.sz + (x.cap - off) * x.sz ≤ cvs.size
        omega
      · have e5 : (((cvs.toList.take q ++ news ++ cvs.toList.drop (q + news.length)).toArray.toList.drop (x.lo + off * x.sz)).take (flat c'.els).length) = (cvs.toList.drop (x.lo + off * x.sz)).take (len * x.sz) ++ news := by
          have hL : (flat c'.els).length = len * x.sz + news.length := by rw [hfl, BC.els_len, hclen, hc'z, Nat.add_mul, hnl]
          have e6 : (cvs.toList.take q).drop (x.lo + off * x.sz) = (cvs.toList.drop (x.lo + off * x.sz)).take (len * x.sz) := by
            rw [List.drop_take]; congr 1; omega
          have e7 : ((cvs.toList.drop (x.lo + off * x.sz)).take (len * x.sz)).length = len * x.sz := by simp; omega
          show ((cvs.toList.take q ++ news ++ cvs.toList.drop (q + news.length)).drop (x.lo + off * x.sz)).take (flat c'.els).length = _
          rw [List.append_assoc, List.drop_append_of_le_length (by simp; omega), e6, ← List.append_assoc, List.take_left' (by rw [hL, List.length_append, e7])]
        show Rels G (flat c'.els) ((((cvs.toList.take q ++ news ++ cvs.toList.drop (q + news.length)).toArray.toList.drop (x.lo + off * x.sz)).take (flat c'.els).length))
        rw [e5]
        exact hrel
    sz := hc'z.symm
    el := hel
    len := hclen
    cap := by show len + ys.length ≤ x.cap - off; omega
    free := fun o h1 h2 => B.free o (by show x.lo ≤ o; have h1 : x.lo + off * x.sz ≤ o := h1; omega) (by
      have h2 : o < x.lo + off * x.sz + (x.cap - off) * x.sz := h2
      have : off * x.sz + (x.cap - off) * x.sz = x.cap * x.sz := by rw [← Nat.add_mul]; congr 1; omega
      omega)
    obj := B.obj }
  obtain ⟨hle, hw'⟩ := hr.newBuf hs' B' (fun m c1 x1 h1 h2 => hlive m c1 x1 h1 h2)
  refine ⟨_, _, _, hrun, hle, ?_, hw'⟩
  have := VRel.bs (sy := sy) (off := 0) (len := len + ys.length) (addT_new G s ⟨x.b, x.lo + off * x.sz, x.sz, len + ys.length, x.cap - off⟩) (by simp)
  simpa using this
where
  get_lt'' {α : Type} {l : List α} {i : Nat} {a : α} (h : l[i]? = some a) : i < l.length := by
    rcases Nat.lt_or_ge i l.length with h' | h'
    · exact h'
    · rw [List.getElem?_eq_none h'] at h; cases h
/-- An empty buffer that has no place yet. -/
theorem WRel.unborn (h : WRel Γ G ob nm w) {s : Nat} (hs : nm[s]? = some none) {c : BC} (hc : c.len = 0) : WRel Γ G ob (nm.set s (some (.live c))) w := by
  have hnone : G.T s = none := h.tabs s hs
  have hlt : s < nm.length := append_room.get_lt'' hs
  have hself : (nm.set s (some (Bf.live c)))[s]? = some (some (.live c)) := by rw [List.getElem?_set_self hlt]
  have hoth : ∀ {n : Nat}, n ≠ s → (nm.set s (some (Bf.live c)))[n]? = nm[n]? := fun hn => List.getElem?_set_ne (Ne.symm hn)
  have old : ∀ {n : Nat} {c' : BC} {x : Tail}, (nm.set s (some (Bf.live c)))[n]? = some (some (.live c')) → G.T n = some x → nm[n]? = some (some (.live c')) := fun {n c' x} h1 h2 => by
    by_cases hn : n = s
    · subst hn; rw [hnone] at h2; cases h2
    · rwa [hoth hn] at h1
  exact { h with
    hnm := fun n c' x h1 h2 => h.hnm n c' x (old h1 h2) h2
    hno := fun n c' h1 h2 => by
      by_cases hn : n = s
      · subst hn; rw [hself] at h1; obtain rfl : c = c' := by simpa using h1
        exact hc
      · rw [hoth hn] at h1; exact h.hno n c' h1 h2
    nmd := fun n n' c1 c2 x x' hne h1 h2 h3 h4 => h.nmd n n' c1 c2 x x' hne (old h1 h3) (old h2 h4) h3 h4
    tabs := fun n h1 => by
      by_cases hn : n = s
      · subst hn; exact hnone
      · rw [hoth hn] at h1; exact h.tabs n h1
    tlt := fun n x h1 => by simpa using h.tlt n x h1 }
theorem run_append_none {t tx ty e : TypeId} {i : TypeInfo} (ht : P.underlying t = some (.slice e)) (hi : P.info? e = some i) {base : Option Addr} {cap : Nat} {cy : Value} {ys : List V} (hy : Ys P G w i.size tx cy ys) (h0 : ys = []) (hsp : base = none ∨ ∃ b off, base = some ⟨b, off, none⟩) :
    (Builtin.append_ #[t, tx] ty #[.slice base 0 cap, cy]).run P w = .ok (.slice base 0 cap) w := by
  obtain ⟨news, hs, hr⟩ := hy.src
  subst h0
  have hn : news = [] := List.length_eq_zero_iff.1 (by rw [hr.1]; rfl)
  subst hn
  have hl := hs.len w
  have hc := hs.cells
  simp only [List.length_nil] at hl hc
  rcases hsp with rfl | ⟨b, off, rfl⟩
  · rcases hs.kind with ⟨e', hk⟩ | hk <;> simp [Builtin.append_, run_underlying ht, run_underlying hk, sizeOf, typeInfo, hi, hl, hc]
  · rcases hs.kind with ⟨e', hk⟩ | hk <;> simp [Builtin.append_, run_underlying ht, run_underlying hk, sizeOf, typeInfo, hi, hl, hc, storeCells]
/-- append: to a slice that has no room, or to a buffer. -/
theorem SemV.append {o : Oper} {cl : Call} {x y : Operand} {t tx e : TypeId} {i : TypeInfo} {z : Value} {s : Nat} {olds ys : List V} {len : Nat} {nm1 : Nm} {c' : BC} (ho : o.op = .call cl) (hcal : cl.callee = .builtin .append) (ha : cl.args.toList = [x, y]) (hts : cl.argTypes = #[t, tx])
    (ht : P.underlying t = some (.slice e)) (hi : P.info? e = some i) (hz : i.zero = some z) (hzs : z.cells.size = i.size) (hb2 : 1 ≤ i.bytes) (hs : σ.nm[s]? = some none)
    (hx : (σ.eval Γ x = .lst .full [] ∧ olds = [] ∧ len = 0 ∧ nm1 = σ.nm) ∨ ∃ sy n off c, σ.eval Γ x = .bs sy n off len ∧ σ.nm[n]? = some (some (.live c)) ∧ c.sz = i.size ∧ olds = (c.els.drop off).take len ∧ nm1 = σ.nm.set n (some .dead))
    (hy : ∀ G a w, Rel Γ G σ a w → Ys P G w i.size tx (a.eval y) ys) (hb : (len + ys.length) * 2 * i.bytes ≤ 281474976710656) (hc : c'.els = olds ++ ys) (hcs : c'.sz = i.size) (sy : Bool) :
    SemV P Γ o σ (.bs sy s 0 (len + ys.length)) σ.ob (nm1.set s (some (.live c'))) :=
  SemV.of_val fun G a w hr => by
    have hca : cl.args.map a.eval = #[a.eval x, a.eval y] := by apply Array.ext'; simp [ha]
    have hY := hy G a w hr
    have hex : ∀ {cv : Value} {w' : World}, (Builtin.append_ #[t, tx] o.type #[a.eval x, a.eval y]).run P w = .ok cv w' → (execOp a.eval o).run P w = .ok (.value cv) w' := fun {cv w'} h => by
      simp [execOp, ho, resolve, hcal, invoke, Go.builtin, hca, hts, h]
    have hxx := hr.eval x
    -- a slice without room
    have small : ∀ (base : Option Addr), a.eval x = .slice base 0 0 → (base = none ∨ ∃ b off, base = some ⟨b, off, none⟩) → (∀ off : Nat, VRel G (.bs sy s off 0) (.slice base 0 0)) → len = 0 → olds = [] → WRel Γ G σ.ob nm1 w → nm1[s]? = some none →
        ∃ cv w' G', (execOp a.eval o).run P w = .ok (.value cv) w' ∧ G.le G' ∧ VRel G' (.bs sy s 0 (len + ys.length)) cv ∧ WRel Γ G' σ.ob (nm1.set s (some (.live c'))) w' := by
      intro base he hsp hv hl0 ho0 hw1 hs1
      subst hl0 ho0
      by_cases hk : ys = []
      · have hrun := run_append_none (ty := o.type) ht hi (base := base) (cap := 0) hY hk hsp
        refine ⟨_, w, G, hex (by rw [he]; exact hrun), .refl G, ?_, hw1.unborn hs1 ?_⟩
        · rw [hk]; exact hv 0
        · rw [← BC.els_len, hc, hk]; rfl
      · have hpos : 0 < ys.length := List.length_pos_iff.2 hk
        have hold : (Builtin.firstCells i.size 0 (.slice base 0 0)).run P w.drew = .ok ([] : List Value).toArray w.drew := by
          rcases hsp with rfl | ⟨b, off, rfl⟩ <;> simp [Builtin.firstCells, loadCells, loadCellsFrom]
        obtain ⟨cv, w', G', h1, h2, h3, h4⟩ := append_grow (P := P) hw1 hs1 (ty := o.type) ht hi hz hzs (base := base) (len := 0) (cap := 0) (olds := []) (co := []) (Rels.nil G) rfl (fun v hv => by cases hv) hold hY (by omega) hb hb2 hc hcs sy
        exact ⟨cv, w', G', hex (by rw [he]; exact h1), h2, h3, h4⟩
    rcases hx with ⟨hx, rfl, rfl, rfl⟩ | ⟨sy0, n, off, c, hx, hn, hcz, rfl, rfl⟩
    · rw [hx] at hxx
      generalize he : a.eval x = cx at hxx
      cases hxx with
      | lst0 => exact small none he (.inl rfl) (fun off => .bs0 _ _ _) rfl rfl hr.wr hs
      | @lst _ _ b off cap sz cvs h1 h2 h3 h4 h5 h6 =>
        have h6 : cap = 0 := h6
        subst h6
        exact small _ he (.inr ⟨b, off, rfl⟩) (fun off => .bs1 _ _ _ _ _) rfl rfl hr.wr hs
    · rw [hx] at hxx
      have hsn : s ≠ n := fun e => by rw [e, hn] at hs; cases hs
      have hs1 : (σ.nm.set n (some Bf.dead))[s]? = some none := by rw [List.getElem?_set_ne (Ne.symm hsn)]; exact hs
      generalize he : a.eval x = cx at hxx
      cases hxx with
      | bs0 => exact small none he (.inl rfl) (fun off => .bs0 _ _ _) rfl (by simp) (hr.wr.kill hn) hs1
      | bs1 => exact small _ he (.inr ⟨_, _, rfl⟩) (fun off => .bs1 _ _ _ _ _) rfl (by simp) (hr.wr.kill hn) hs1
      | @bs _ _ _ _ tl hT hl =>
        have B := hr.wr.hnm n c tl hn hT
        have hcap := B.cap
        by_cases hg : off + len + ys.length ≤ tl.cap
        · obtain ⟨cv, w', G', h1, h2, h3, h4⟩ := append_room (P := P) hr.wr hs (ty := o.type) ht hi hn hT hcz hl hY hg hc hcs sy
          exact ⟨cv, w', G', hex (by rw [he]; exact h1), h2, h3, h4⟩
        · obtain ⟨cvs, E, fr, e1, e2, e3, e4⟩ := B.row
          have hxs : tl.sz = i.size := B.sz.trans hcz
          have hp := B.part hl e1
          have hel : ∀ v ∈ (c.els.drop off).take len, v.cells.length = i.size := fun v hv => (B.el v (List.mem_of_mem_drop (List.mem_of_mem_take hv))).trans hcz
          have hlen : ((c.els.drop off).take len).length = len := BC.slice_els (by rw [B.len]; exact hl)
          have hcl : ((cvs.toList.drop (tl.lo + off * tl.sz)).take (len * tl.sz)).length = len * i.size := by rw [hp.1, flat_length hel, hlen]
          have hold := run_firstCells_some (P := P) w.drew i.size len ⟨tl.b, tl.lo + off * tl.sz, none⟩ len (tl.cap - off) ((cvs.toList.drop (tl.lo + off * tl.sz)).take (len * tl.sz)) hcl (fun j v hj => by
            rw [add_none]
            show w.cell? ⟨tl.b, tl.lo + off * tl.sz + j, none⟩ = some v
            rw [cell_row e1]
            rw [List.getElem?_take] at hj
            split at hj
            · rw [List.getElem?_drop] at hj
              simpa using hj
            · cases hj)
          obtain ⟨cv, w', G', h1, h2, h3, h4⟩ := append_grow (P := P) (hr.wr.kill hn) hs1 (ty := o.type) ht hi hz hzs hp hlen hel hold hY (by omega) hb hb2 hc hcs sy
          exact ⟨cv, w', G', hex (by rw [he]; exact h1), h2, h3, h4⟩
end
end Go.Proofs.Ytnjjkobijjdnbaa
