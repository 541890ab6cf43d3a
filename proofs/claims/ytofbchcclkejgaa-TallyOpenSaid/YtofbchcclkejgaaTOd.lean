/- Parts of the library of texts, one after the other: Ev11d, Ev11e, Ev11f. -/
import Derived.Test.YtofbchcclkejgaaTOc
import Derived.Deep.AppendSrc
import Derived.Laws.MakeOwn
/- Buffers: made, written, grown. -/
set_option linter.unusedVariables false
set_option linter.unusedSimpArgs false
namespace Go.Proofs.Ytofbchcclkejgaa
open Go
def Gh.addT (G : Gh) (s : Nat) (x : Tail) : Gh := { G with T := fun n => if n = s then some x else G.T n }
section
variable {P : Program} {Γ : Nat → Option V} {G : Gh} {ob : Ob} {nm : Nm} {w : World} {σ : St}
theorem Gh.le_addT {s : Nat} {x : Tail} (h : G.T s = none) : G.le (G.addT s x) :=
 ⟨⟨fun _ _ _ h => h, fun _ _ h => h, fun n y k => by
  by_cases hn : n = s
  · subst hn; rw [h] at k; cases k
  · simpa [Gh.addT, hn] using k, fun _ _ h => h⟩, rfl, rfl, rfl, rfl, rfl⟩
theorem addT_new (G : Gh) (s : Nat) (x : Tail) : (G.addT s x).T s = some x := by simp [Gh.addT]
theorem WRel.newBuf (h : WRel Γ G ob nm w) {s : Nat} (hs : nm[s]? = some none) {x : Tail} {c : BC} (B : BufOk G w x c) (hd : ∀ n c' x', nm[n]? = some (some (.live c')) → G.T n = some x' → x'.b ≠ x.b) :
 G.le (G.addT s x) ∧ WRel Γ (G.addT s x) ob (nm.set s (some (.live c))) w := by
 have hnone : G.T s = none := h.tabs s hs
 have hlt : s < nm.length := by
  rcases Nat.lt_or_ge s nm.length with h' | h'
  · exact h'
  · rw [List.getElem?_eq_none h'] at hs; cases hs
 have hle := Gh.le_addT (x := x) hnone
 have hT : ∀ {n y}, (G.addT s x).T n = some y → (n = s ∧ y = x) ∨ (n ≠ s ∧ G.T n = some y) := fun {n y} hh => by
  by_cases hn : n = s
  · subst hn; simp [Gh.addT] at hh; exact .inl ⟨rfl, hh.symm⟩
  · simp [Gh.addT, hn] at hh; exact .inr ⟨hn, hh⟩
 have hself : (nm.set s (some (.live c)))[s]? = some (some (.live c)) := by rw [List.getElem?_set_self hlt]
 have hoth : ∀ {n : Nat}, n ≠ s → (nm.set s (some (.live c)))[n]? = nm[n]? := fun hn => List.getElem?_set_ne (Ne.symm hn)
 have up : ∀ {y c'}, BufOk G w y c' → BufOk (G.addT s x) w y c' := fun B' => B'.to rfl (fun _ _ h => h.mono hle) (fun _ h => h) (fun _ h => h) B'.obj
 refine ⟨hle, ?_⟩
 exact {
  m := h.m
  hob := fun o cs b h1 h2 => by
   obtain ⟨q1, ⟨q2, q3, q4, q5, q6, q7, q8⟩, q9⟩ := h.hob o cs b h1 h2
   exact ⟨q1, ⟨q2, q3, q4, q5, q6, q7, q8.mono hle⟩, q9⟩
  hlt := h.hlt
  habs := h.habs
  inj := h.inj
  hnm := fun n c' y h1 h2 => by
   rcases hT h2 with ⟨rfl, rfl⟩ | ⟨hn, hy⟩
   · rw [hself] at h1
     obtain rfl : c = c' := by simpa using h1
     exact up B
   · rw [hoth hn] at h1
     exact up (h.hnm n c' y h1 hy)
  hno := fun n c' h1 h2 => by
   by_cases hn : n = s
   · subst hn; simp [Gh.addT] at h2
   · rw [hoth hn] at h1
     exact h.hno n c' h1 (by simpa [Gh.addT, hn] using h2)
  nmd := fun n n' c1 c2 y y' hne h1 h2 h3 h4 => by
   rcases hT h3 with ⟨rfl, rfl⟩ | ⟨hn, hy⟩
   · rcases hT h4 with ⟨e, _⟩ | ⟨hn', hy'⟩
     · exact absurd e.symm hne
     · rw [hoth hn'] at h2
       exact (hd n' c2 y' h2 hy').symm
   · rcases hT h4 with ⟨rfl, rfl⟩ | ⟨hn', hy'⟩
     · rw [hoth hn] at h1
       exact hd n c1 y h1 hy
     · rw [hoth hn] at h1
       rw [hoth hn'] at h2
       exact h.nmd n n' c1 c2 y y' hne h1 h2 hy hy'
  tabs := fun n h1 => by
   by_cases hn : n = s
   · subst hn; rw [hself] at h1; simp at h1
   · rw [hoth hn] at h1
     simp only [Gh.addT, hn, if_false]
     exact h.tabs n h1
  tlt := fun n y h1 => by
   rcases hT h1 with ⟨rfl, _⟩ | ⟨_, hy⟩
   · simpa using hlt
   · simpa using h.tlt n y hy
  dd := h.dd
  kdle := h.kdle
  gl := fun g v hg => (h.gl g v hg).mono' hle.toSub.bare
  mold := h.mold
  os := h.os
  tape := h.tape
  output := h.output
  size := h.size
  block := h.block }
theorem WRel.kill (h : WRel Γ G ob nm w) {n : Nat} {b : Bf} (hn : nm[n]? = some (some b)) : WRel Γ G ob (nm.set n (some .dead)) w := by
 have hlt : n < nm.length := by
  rcases Nat.lt_or_ge n nm.length with h' | h'
  · exact h'
  · rw [List.getElem?_eq_none h'] at hn; cases hn
 have hself : (nm.set n (some Bf.dead))[n]? = some (some .dead) := by rw [List.getElem?_set_self hlt]
 have hoth : ∀ {m : Nat}, m ≠ n → (nm.set n (some Bf.dead))[m]? = nm[m]? := fun hm => List.getElem?_set_ne (Ne.symm hm)
 have live : ∀ {m : Nat} {c : BC}, (nm.set n (some Bf.dead))[m]? = some (some (Bf.live c)) → nm[m]? = some (some (Bf.live c)) := fun {m c} hm => by
  by_cases e : m = n
  · subst e; rw [hself] at hm; cases hm
  · rwa [hoth e] at hm
 exact { h with
  hnm := fun m c x h1 h2 => h.hnm m c x (live h1) h2
  hno := fun m c h1 h2 => h.hno m c (live h1) h2
  nmd := fun m m' c c' x x' hne h1 h2 h3 h4 => h.nmd m m' c c' x x' hne (live h1) (live h2) h3 h4
  tabs := fun m h1 => by
   by_cases e : m = n
   · subst e; rw [hself] at h1; cases h1
   · rw [hoth e] at h1; exact h.tabs m h1
  tlt := fun m x h1 => by simpa using h.tlt m x h1 }
theorem WRel.row {w' : World} (h : WRel Γ G ob nm w) {b : Nat} {c' : Array Value} {E : TypeId} {fr : Nat × Nat} (hs : RowSet w w' b c' E fr) (hold : G.w0.own b) (hm : ∀ off cv, G.M b off = some cv → c'[off]? = some cv)
 (ho : ∀ o, G.H o ≠ some b) (hn : ∀ n c x, nm[n]? = some (some (.live c)) → G.T n = some x → x.b ≠ b) (hdd : ∀ l o, G.D l = some o → DOk w' l o ∧ (o.isCells = false → G.w0.own l)) : WRel Γ G ob nm w' := {
 m := fun x off cv hx => by
  by_cases e : x = b
  · subst e; rw [cell_row hs.row]; exact hm off cv hx
  · rw [cell_of_heap (w := w) (by exact hs.other x e)]; exact h.m _ _ _ hx
 hob := fun o cs x h1 h2 => by
  have e : x ≠ b := fun e => ho o (by rw [← e]; exact h2)
  obtain ⟨q1, ⟨q2, q3, q4, q5, q6⟩, q7⟩ := h.hob o cs x h1 h2
  exact ⟨q1, ⟨q2, q3, q4, by rw [hs.other x e]; exact q5, q6⟩, q7⟩
 hlt := fun o x h1 => by rw [hs.size]; exact h.hlt o x h1
 habs := h.habs
 inj := h.inj
 hnm := fun n c x h1 h2 => (h.hnm n c x h1 h2).to (hs.other _ (hn n c x h1 h2)) (fun _ _ h => h) (fun _ h => h) (fun _ h => h) (h.hnm n c x h1 h2).obj
 hno := h.hno
 nmd := h.nmd
 tabs := h.tabs
 tlt := h.tlt
 dd := hdd
 kdle := by rw [hs.size]; exact h.kdle
 gl := h.gl
 mold := h.mold
 os := hs.os.trans h.os
 tape := hs.tape.trans h.tape
 output := hs.output.trans h.output
 size := by rw [hs.size]; exact h.size
 block := fun k hk => (hs.other k (W0.own_ne hold hk)).trans (h.block k hk) }
theorem rowSet_setCells {b : Nat} {E : TypeId} {fr : Nat × Nat} : ∀ (vs : List Value) (o : Nat) (c : Array Value) (w : World), w.heap[b]? = some (.cells c E fr) → o + vs.length ≤ c.size →
 RowSet w (w.setCells b o vs) b (c.toList.take o ++ vs ++ c.toList.drop (o + vs.length)).toArray E fr
 | [], o, c, w, h, _ => ⟨by simpa [World.setCells] using h, fun _ _ => rfl, rfl, rfl, rfl, rfl⟩
 | v :: rest, o, c, w, h, hl => by
  simp only [List.length_cons] at hl
  have hr := rowSet_setCell (off := o) h v
  have e2 := rowSet_setCells (b := b) rest (o + 1) (c.setIfInBounds o v) _ hr.row (by simp; omega)
  have e := splice_step c.toList o v rest (by simp; omega)
  have e3 := e2.row
  simp only [Array.toList_setIfInBounds] at e3 e
  rw [e] at e3
  exact ⟨by simpa [World.setCells] using e3, fun k hk => (e2.other k hk).trans (hr.other k hk), e2.size.trans hr.size, e2.os.trans hr.os, e2.tape.trans hr.tape, e2.output.trans hr.output⟩
structure Ys (P : Program) (G : Gh) (w : World) (size : Nat) (tx : TypeId) (cy : Value) (ys : List V) : Prop where
 src : ∃ news, Src P size tx cy ys.length news w ∧ Rels G (flat ys) news
 el : ∀ v ∈ ys, v.cells.length = size
theorem grownCap_ge (w : World) (need old : Nat) (e : TypeId) : need ≤ grownCap w need old e := by
 simp only [grownCap, Question.cut]
 omega
theorem zeroCells_size (z : Array Value) (n : Nat) : (Builtin.zeroCells z n).size = n * z.size := by simp [Builtin.zeroCells]
theorem append_grow (h : WRel Γ G ob nm w) {s : Nat} (hs : nm[s]? = some none) {t tx ty e : TypeId} {i : TypeInfo} {z : Value} (ht : P.underlying t = some (.slice e)) (hi : P.info? e = some i) (hz : i.zero = some z) (hzs : z.cells.size = i.size)
 {base : Option Addr} {len cap : Nat} {olds : List V} {co : List Value} (hro : Rels G (flat olds) co) (hlo : olds.length = len) (helo : ∀ v ∈ olds, v.cells.length = i.size)
 (hold : (Builtin.firstCells i.size len (.slice base len cap)).run P w.drew = .ok co.toArray w.drew)
 {cy : Value} {ys : List V} (hy : Ys P G w i.size tx cy ys) (hg : cap < len + ys.length) (hb : (len + ys.length) * 2 * i.bytes ≤ 281474976710656) (hb2 : 1 ≤ i.bytes) {c' : BC} (hc : c'.els = olds ++ ys) (hcs : c'.sz = i.size) (hu8 : ∀ E, c'.u8E = some E → E = e) (sy : Bool) :
 ∃ (cv : Value) (w' : World) (G' : Gh), (Builtin.append_ #[t, tx] ty #[.slice base len cap, cy]).run P w = .ok cv w' ∧ G.le G' ∧ VRel G' (.bs sy s 0 (len + ys.length)) cv ∧ WRel Γ G' ob (nm.set s (some (.live c'))) w' := by
 obtain ⟨news, hsrc, hrn⟩ := hy.src
 have hne : len + ys.length ≤ (len + ys.length) * 2 * i.bytes := by
  have := Nat.le_mul_of_pos_right ((len + ys.length) * 2) hb2
  omega
 have hfit : Builtin.nextslicecap (len + ys.length) cap * i.bytes ≤ 281474976710656 := by
  have h1 := nextslicecap_le hg
  have h2 := Nat.mul_le_mul_right i.bytes h1
  have h3 : 2 * (len + ys.length) * i.bytes = (len + ys.length) * 2 * i.bytes := by rw [Nat.mul_comm 2]
  omega
 have hrun := run_append_grow_src (P := P) w t tx ty e i z ht hi hz base len cap co hold cy ys.length news hsrc hg (by omega) hfit
 have hcap := grownCap_ge w (len + ys.length) cap e
 generalize hgc : grownCap w (len + ys.length) cap e = nc at hrun hcap
 have hk := (h.drew).alloc (.cells ((co ++ news).toArray ++ Builtin.zeroCells z.cells (nc - (len + ys.length))) e)
 have hdsz : w.drew.heap.size = w.heap.size := rfl
 have hrel : Rels G (flat c'.els) (co ++ news) := by rw [hc, flat_append]; exact hro.append hrn
 have hel : ∀ v ∈ c'.els, v.cells.length = c'.sz := fun v hv => by
  rw [hc] at hv
  rw [hcs]
  rcases List.mem_append.1 hv with hv | hv
  · exact helo v hv
  · exact hy.el v hv
 have hclen : c'.len = len + ys.length := by rw [← BC.els_len, hc, List.length_append, hlo]
 have hfl := flat_length hel
 have B : BufOk G (w.drew.alloc (.cells ((co ++ news).toArray ++ Builtin.zeroCells z.cells (nc - (len + ys.length))) e)) ⟨w.heap.size, 0, i.size, len + ys.length, nc⟩ c' := {
  old := .inl h.size
  row := by
   refine ⟨_, e, (0, 0), heap_alloc_self w.drew _, .inl rfl, ?_, ?_⟩
   · have e1 : (co ++ news).length = (len + ys.length) * i.size := by rw [hrel.1, hfl, BC.els_len, hclen, hcs]
     simp only [Array.size_append, List.size_toArray, e1, zeroCells_size, hzs, Nat.zero_add]
     rw [← Nat.add_mul]
     have : len + ys.length + (nc - (len + ys.length)) = nc := by omega
     rw [this]
     exact Nat.le_refl _
   · have e2 : (((co ++ news).toArray ++ Builtin.zeroCells z.cells (nc - (len + ys.length))).toList.drop 0).take (flat c'.els).length = co ++ news := by
      rw [← hrel.1]
      simp only [List.drop_zero, Array.toList_append]
      exact List.take_left' rfl
     rw [e2]
     exact hrel
  sz := hcs.symm
  el := hel
  len := hclen
  cap := hcap
  free := fun off _ _ => by
   show G.M w.heap.size off = none
   exact h.mnew off
  obj := fun o ho => by
   have := (h.hlt o _ ho).2
   simp at this
  u8 := fun E hE => by obtain rfl := hu8 E hE; exact ⟨_, _, heap_alloc_self w.drew _⟩ }
 obtain ⟨hle, hw'⟩ := hk.newBuf hs B (fun n c1 x1 h1 h2 => by
  have := (h.hnm n c1 x1 h1 h2).lt
  simp only [ne_eq]
  omega)
 refine ⟨_, _, _, hrun, hle, ?_, hw'⟩
 have := VRel.bs (sy := sy) (off := 0) (len := len + ys.length) (addT_new G s ⟨w.heap.size, 0, i.size, len + ys.length, nc⟩) (by simp)
 simpa using this
theorem BC.slice_els {c : BC} {off len : Nat} (h : off + len ≤ c.len) : ((c.els.drop off).take len).length = len := by
 simp [BC.els_len]; omega
theorem BufOk.part {x : Tail} {c : BC} (B : BufOk G w x c) {off len : Nat} (hl : off + len ≤ x.len) {cvs : Array Value} {E : TypeId} {fr : Nat × Nat} (e1 : w.heap[x.b]? = some (.cells cvs E fr)) :
 Rels G (flat ((c.els.drop off).take len)) ((cvs.toList.drop (x.lo + off * x.sz)).take (len * x.sz)) := by
 obtain ⟨cvs', E', fr', f1, f2, f3, f4⟩ := B.row
 obtain rfl : cvs' = cvs := by rw [e1] at f1; simp at f1; exact f1.1.symm
 have hel : ∀ v ∈ c.els, v.cells.length = x.sz := fun v hv => (B.el v hv).trans B.sz.symm
 have hfl := flat_length hel
 rw [flat_take_drop hel]
 have h1 := (f4.drop (off * x.sz)).take (len * x.sz)
 have hle : (off + len) * x.sz ≤ c.els.length * x.sz := Nat.mul_le_mul_right _ (by rw [BC.els_len, B.len]; exact hl)
 rw [Nat.add_mul] at hle
 have e : (((cvs'.toList.drop x.lo).take (flat c.els).length).drop (off * x.sz)).take (len * x.sz) = (cvs'.toList.drop (x.lo + off * x.sz)).take (len * x.sz) := by
  rw [List.drop_take, List.take_take, List.drop_drop, Nat.min_eq_left (by omega)]
 rw [e] at h1
 exact h1
theorem frozen_row {b off : Nat} {c : Array Value} {E : TypeId} {fr : Nat × Nat} (h : w.heap[b]? = some (.cells c E fr)) (hf : fr = (0, 0) ∨ c.size ≤ fr.1) (hl : off < c.size) : w.frozen? ⟨b, off, none⟩ = false := by
 simp only [World.frozen?, h]
 rcases hf with rfl | hf
 · simp
 · have : ¬ fr.1 ≤ off := by omega
   simp [this]
theorem append_room (h : WRel Γ G ob nm w) {s n : Nat} (hs : nm[s]? = some none) {t tx ty e : TypeId} {i : TypeInfo} (ht : P.underlying t = some (.slice e)) (hi : P.info? e = some i)
 {c : BC} (hn : nm[n]? = some (some (.live c))) {x : Tail} (hT : G.T n = some x) (hcz : c.sz = i.size) {off len : Nat} (hl : off + len ≤ x.len)
 {cy : Value} {ys : List V} (hy : Ys P G w i.size tx cy ys) (hg : off + len + ys.length ≤ x.cap) {c' : BC} (hc : c'.els = (c.els.drop off).take len ++ ys) (hcs : c'.sz = i.size) (hu9 : ∀ E, c'.u8E = some E → c.u8E = some E) (sy : Bool) :
 ∃ (cv : Value) (w' : World) (G' : Gh), (Builtin.append_ #[t, tx] ty #[.slice (some ⟨x.b, x.lo + off * x.sz, none⟩) len (x.cap - off), cy]).run P w = .ok cv w' ∧ G.le G' ∧ VRel G' (.bs sy s 0 (len + ys.length)) cv ∧ WRel Γ G' ob ((nm.set n (some .dead)).set s (some (.live c'))) w' := by
 have B := h.hnm n c x hn hT
 obtain ⟨news, hsrc, hrn⟩ := hy.src
 obtain ⟨cvs, E, fr, e1, e2, e3, e4⟩ := B.row
 have hxs : x.sz = i.size := B.sz.trans hcz
 have hfly : (flat ys).length = ys.length * x.sz := flat_length (fun v hv => (hy.el v hv).trans hxs.symm)
 have hnl : news.length = ys.length * x.sz := hrn.1.trans hfly
 have hcap : (off + len + ys.length) * x.sz ≤ x.cap * x.sz := Nat.mul_le_mul_right _ hg
 rw [Nat.add_mul, Nat.add_mul] at hcap
 have hrun := run_append_room_src (P := P) w t tx ty e i ht hi x.b (x.lo + off * x.sz) len (x.cap - off) cy ys.length news hsrc (by omega)
  (fun j hj => by
   rw [cell_row e1, ← hxs]
   have : x.lo + off * x.sz + len * x.sz + j < cvs.size := by omega
   simp [this])
  (fun j hj => frozen_row e1 e2 (by rw [← hxs]; omega))
 have rs := rowSet_setCells (E := E) (fr := fr) news (x.lo + off * x.sz + len * i.size) cvs w e1 (by rw [← hxs]; omega)
 rw [← hxs] at hrun rs
 generalize hq : x.lo + off * x.sz + len * x.sz = q at hrun rs
 have hsn : s ≠ n := fun e => by rw [e, hn] at hs; cases hs
 have hk := h.kill hn
 have hs' : (nm.set n (some Bf.dead))[s]? = some none := by rw [List.getElem?_set_ne (Ne.symm hsn)]; exact hs
 have hlive : ∀ (m : Nat) (c1 : BC) (x1 : Tail), (nm.set n (some Bf.dead))[m]? = some (some (Bf.live c1)) → G.T m = some x1 → x1.b ≠ x.b := fun m c1 x1 h1 h2 => by
  by_cases hm : m = n
  · subst hm
    have hlt : m < nm.length := get_lt'' hn
    rw [List.getElem?_set_self hlt] at h1
    cases h1
  · rw [List.getElem?_set_ne (Ne.symm hm)] at h1
    exact h.nmd m n c1 c x1 x hm h1 hn h2 hT
 have hr := hk.row rs B.old (fun o cv hm => by
  have hc0 := h.m _ _ _ hm
  rw [cell_row e1] at hc0
  have hout : o < q ∨ x.lo + x.cap * x.sz ≤ o := by
   rcases Nat.lt_or_ge o q with h' | h'
   · exact .inl h'
   · rcases Nat.lt_or_ge o (x.lo + x.cap * x.sz) with h2 | h2
     · rw [B.free o (by omega) h2] at hm; cases hm
     · exact .inr h2
  have hc1 : cvs.toList[o]? = some cv := by simpa using hc0
  simp only [List.getElem?_toArray, List.append_assoc]
  have hos : o < cvs.size := by
   rcases Nat.lt_or_ge o cvs.size with h' | h'
   · exact h'
   · rw [Array.getElem?_eq_none h'] at hc0; cases hc0
  rcases hout with ho | ho
  · rw [List.getElem?_append_left (by simp; omega), List.getElem?_take, if_pos ho]
    exact hc1
  · rw [List.getElem?_append_right (by simp; omega), List.getElem?_append_right (by simp; omega), List.getElem?_drop]
    have : q + news.length + (o - (cvs.toList.take q).length - news.length) = o := by simp; omega
    rw [this]
    exact hc1) B.obj hlive (h.dset e1 rs.row (by simp; omega) rs.other)
 have hrel : Rels G (flat c'.els) ((cvs.toList.drop (x.lo + off * x.sz)).take (len * x.sz) ++ news) := by rw [hc, flat_append]; exact (B.part hl e1).append hrn
 have hel : ∀ v ∈ c'.els, v.cells.length = c'.sz := fun v hv => by
  rw [hc] at hv
  rw [hcs]
  rcases List.mem_append.1 hv with hv | hv
  · exact (B.el v (List.mem_of_mem_drop (List.mem_of_mem_take hv))).trans hcz
  · exact hy.el v hv
 have hclen : c'.len = len + ys.length := by rw [← BC.els_len, hc, List.length_append, BC.slice_els (by rw [B.len]; exact hl)]
 have hfl := flat_length hel
 have hc'z : c'.sz = x.sz := hcs.trans hxs.symm
 have B' : BufOk G (w.setCells x.b q news) ⟨x.b, x.lo + off * x.sz, x.sz, len + ys.length, x.cap - off⟩ c' := {
  old := B.old
  row := by
   refine ⟨_, E, fr, rs.row, ?_, ?_, ?_⟩
   · have : (cvs.toList.take q ++ news ++ cvs.toList.drop (q + news.length)).toArray.size = cvs.size := by simp; omega
     rw [this]; exact e2
   · have : (cvs.toList.take q ++ news ++ cvs.toList.drop (q + news.length)).toArray.size = cvs.size := by simp; omega
     rw [this]
     have : off * x.sz + (x.cap - off) * x.sz = x.cap * x.sz := by rw [← Nat.add_mul]; congr 1; omega
     show x.lo + off * x.sz + (x.cap - off) * x.sz ≤ cvs.size
     omega
   · have e5 : (((cvs.toList.take q ++ news ++ cvs.toList.drop (q + news.length)).toArray.toList.drop (x.lo + off * x.sz)).take (flat c'.els).length) = (cvs.toList.drop (x.lo + off * x.sz)).take (len * x.sz) ++ news := by
      have hL : (flat c'.els).length = len * x.sz + news.length := by rw [hfl, BC.els_len, hclen, hc'z, Nat.add_mul, hnl]
      have e6 : (cvs.toList.take q).drop (x.lo + off * x.sz) = (cvs.toList.drop (x.lo + off * x.sz)).take (len * x.sz) := by
       rw [List.drop_take]; congr 1; omega
      have e7 : ((cvs.toList.drop (x.lo + off * x.sz)).take (len * x.sz)).length = len * x.sz := by simp; omega
      show ((cvs.toList.take q ++ news ++ cvs.toList.drop (q + news.length)).drop (x.lo + off * x.sz)).take (flat c'.els).length = _
      rw [List.append_assoc, List.drop_append_of_le_length (by simp; omega), e6, ← List.append_assoc, List.take_left' (by rw [hL, List.length_append, e7])]
     show Rels G (flat c'.els) ((((cvs.toList.take q ++ news ++ cvs.toList.drop (q + news.length)).toArray.toList.drop (x.lo + off * x.sz)).take (flat c'.els).length))
     rw [e5]
     exact hrel
  sz := hc'z.symm
  el := hel
  len := hclen
  cap := by show len + ys.length ≤ x.cap - off; omega
  free := fun o h1 h2 => B.free o (by show x.lo ≤ o; have h1 : x.lo + off * x.sz ≤ o := h1; omega) (by
   have h2 : o < x.lo + off * x.sz + (x.cap - off) * x.sz := h2
   have : off * x.sz + (x.cap - off) * x.sz = x.cap * x.sz := by rw [← Nat.add_mul]; congr 1; omega
   omega)
  obj := B.obj
  u8 := fun F hF => by
   obtain ⟨c2, f2, h2⟩ := B.u8 F (hu9 F hF)
   rw [e1] at h2
   cases h2
   exact ⟨_, _, rs.row⟩ }
 obtain ⟨hle, hw'⟩ := hr.newBuf hs' B' (fun m c1 x1 h1 h2 => hlive m c1 x1 h1 h2)
 refine ⟨_, _, _, hrun, hle, ?_, hw'⟩
 have := VRel.bs (sy := sy) (off := 0) (len := len + ys.length) (addT_new G s ⟨x.b, x.lo + off * x.sz, x.sz, len + ys.length, x.cap - off⟩) (by simp)
 simpa using this
where
 get_lt'' {α : Type} {l : List α} {i : Nat} {a : α} (h : l[i]? = some a) : i < l.length := by
  rcases Nat.lt_or_ge i l.length with h' | h'
  · exact h'
  · rw [List.getElem?_eq_none h'] at h; cases h
theorem WRel.unborn (h : WRel Γ G ob nm w) {s : Nat} (hs : nm[s]? = some none) {c : BC} (hc : c.len = 0) : WRel Γ G ob (nm.set s (some (.live c))) w := by
 have hnone : G.T s = none := h.tabs s hs
 have hlt : s < nm.length := append_room.get_lt'' hs
 have hself : (nm.set s (some (Bf.live c)))[s]? = some (some (.live c)) := by rw [List.getElem?_set_self hlt]
 have hoth : ∀ {n : Nat}, n ≠ s → (nm.set s (some (Bf.live c)))[n]? = nm[n]? := fun hn => List.getElem?_set_ne (Ne.symm hn)
 have old : ∀ {n : Nat} {c' : BC} {x : Tail}, (nm.set s (some (Bf.live c)))[n]? = some (some (.live c')) → G.T n = some x → nm[n]? = some (some (.live c')) := fun {n c' x} h1 h2 => by
  by_cases hn : n = s
  · subst hn; rw [hnone] at h2; cases h2
  · rwa [hoth hn] at h1
 exact { h with
  hnm := fun n c' x h1 h2 => h.hnm n c' x (old h1 h2) h2
  hno := fun n c' h1 h2 => by
   by_cases hn : n = s
   · subst hn; rw [hself] at h1; obtain rfl : c = c' := by simpa using h1
     exact hc
   · rw [hoth hn] at h1; exact h.hno n c' h1 h2
  nmd := fun n n' c1 c2 x x' hne h1 h2 h3 h4 => h.nmd n n' c1 c2 x x' hne (old h1 h3) (old h2 h4) h3 h4
  tabs := fun n h1 => by
   by_cases hn : n = s
   · subst hn; exact hnone
   · rw [hoth hn] at h1; exact h.tabs n h1
  tlt := fun n x h1 => by simpa using h.tlt n x h1 }
theorem run_append_none {t tx ty e : TypeId} {i : TypeInfo} (ht : P.underlying t = some (.slice e)) (hi : P.info? e = some i) {base : Option Addr} {cap : Nat} {cy : Value} {ys : List V} (hy : Ys P G w i.size tx cy ys) (h0 : ys = []) :
 (Builtin.append_ #[t, tx] ty #[.slice base 0 cap, cy]).run P w = .ok (.slice base 0 cap) w := by
 obtain ⟨news, hs, hr⟩ := hy.src
 subst h0
 have hn : news = [] := List.length_eq_zero_iff.1 (by rw [hr.1]; rfl)
 subst hn
 have hl := hs.len w
 have hc := hs.cells
 simp only [List.length_nil] at hl hc
 cases base
 · rcases hs.kind with ⟨e', hk⟩ | hk <;> simp [Builtin.append_, run_underlying ht, run_underlying hk, sizeOf, typeInfo, hi, hl, hc]
 · rcases hs.kind with ⟨e', hk⟩ | hk <;> simp [Builtin.append_, run_underlying ht, run_underlying hk, sizeOf, typeInfo, hi, hl, hc, storeCells]
theorem SemV.append {o : Oper} {cl : Call} {x y : Operand} {t tx e : TypeId} {i : TypeInfo} {z : Value} {s : Nat} {olds ys : List V} {len : Nat} {nm1 : Nm} {c' : BC} (ho : o.op = .call cl) (hcal : cl.callee = .builtin .append) (ha : cl.args.toList = [x, y]) (hts : cl.argTypes = #[t, tx])
 (ht : P.underlying t = some (.slice e)) (hi : P.info? e = some i) (hz : i.zero = some z) (hzs : z.cells.size = i.size) (hb2 : 1 ≤ i.bytes) (hs : σ.nm[s]? = some none)
 (hx : ((σ.eval Γ x = .lst .full [] ∨ σ.eval Γ x = .nls) ∧ olds = [] ∧ len = 0 ∧ nm1 = σ.nm) ∨ ∃ sy n off c, σ.eval Γ x = .bs sy n off len ∧ σ.nm[n]? = some (some (.live c)) ∧ c.sz = i.size ∧ olds = (c.els.drop off).take len ∧ nm1 = σ.nm.set n (some .dead))
 (hy : ∀ G a w, Rel Γ G σ a w → Ys P G w i.size tx (a.eval y) ys) (hb : (len + ys.length) * 2 * i.bytes ≤ 281474976710656) (hc : c'.els = olds ++ ys) (hcs : c'.sz = i.size) (hu8 : ∀ E, c'.u8E = some E → E = e) (hu9 : ∀ sy n off len c, σ.eval Γ x = .bs sy n off len → σ.nm[n]? = some (some (.live c)) → ∀ E, c'.u8E = some E → c.u8E = some E) (sy : Bool) :
 SemV P Γ o σ (.bs sy s 0 (len + ys.length)) σ.ob (nm1.set s (some (.live c'))) :=
 SemV.of_val fun G a w hr => by
  have hca : cl.args.map a.eval = #[a.eval x, a.eval y] := by apply Array.ext'; simp [ha]
  have hY := hy G a w hr
  have hex : ∀ {cv : Value} {w' : World}, (Builtin.append_ #[t, tx] o.type #[a.eval x, a.eval y]).run P w = .ok cv w' → (execOp a.eval o).run P w = .ok (.value cv) w' := fun {cv w'} h => by
   simp [execOp, ho, resolve, hcal, invoke, Go.builtin, hca, hts, h]
  have hxx := hr.eval x
  -- a slice without room
  have small : ∀ (base : Option Addr), a.eval x = .slice base 0 0 → (∀ off : Nat, VRel G (.bs sy s off 0) (.slice base 0 0)) → len = 0 → olds = [] → WRel Γ G σ.ob nm1 w → nm1[s]? = some none →
   ∃ cv w' G', (execOp a.eval o).run P w = .ok (.value cv) w' ∧ G.le G' ∧ VRel G' (.bs sy s 0 (len + ys.length)) cv ∧ WRel Γ G' σ.ob (nm1.set s (some (.live c'))) w' := by
   intro base he hv hl0 ho0 hw1 hs1
   subst hl0 ho0
   by_cases hk : ys = []
   · have hrun := run_append_none (ty := o.type) ht hi (base := base) (cap := 0) hY hk
     refine ⟨_, w, G, hex (by rw [he]; exact hrun), .refl G, ?_, hw1.unborn hs1 ?_⟩
     · rw [hk]; exact hv 0
     · rw [← BC.els_len, hc, hk]; rfl
   · have hpos : 0 < ys.length := List.length_pos_iff.2 hk
     have hold : (Builtin.firstCells i.size 0 (.slice base 0 0)).run P w.drew = .ok ([] : List Value).toArray w.drew := by
      cases base <;> simp [Builtin.firstCells, loadCells, loadCellsFrom]
     obtain ⟨cv, w', G', h1, h2, h3, h4⟩ := append_grow (P := P) hw1 hs1 (ty := o.type) ht hi hz hzs (base := base) (len := 0) (cap := 0) (olds := []) (co := []) (Rels.nil G) rfl (fun v hv => by cases hv) hold hY (by omega) hb hb2 hc hcs hu8 sy
     exact ⟨cv, w', G', hex (by rw [he]; exact h1), h2, h3, h4⟩
  rcases hx with ⟨hx | hx, rfl, rfl, rfl⟩ | ⟨sy0, n, off, c, hx, hn, hcz, rfl, rfl⟩
  rotate_left
  · rw [hx] at hxx
    generalize he : a.eval x = cx at hxx
    cases hxx with
    | nls => exact small _ he (fun off => .bs0 _ _ _) rfl rfl hr.wr hs
  rotate_left
  · rw [hx] at hxx
    generalize he : a.eval x = cx at hxx
    cases hxx with
    | lst0 t p => exact small p he (fun off => by cases p with | none => exact .bs0 _ _ _ | some a => exact .bs1 _ _ _ a) rfl rfl hr.wr hs
    | @lst _ _ b off cap sz cvs h1 h2 h3 h4 h5 h6 =>
     have h6 : cap = 0 := h6
     subst h6
     exact small _ he (fun off => .bs1 _ _ _ _) rfl rfl hr.wr hs
  · rw [hx] at hxx
    have hsn : s ≠ n := fun e => by rw [e, hn] at hs; cases hs
    have hs1 : (σ.nm.set n (some Bf.dead))[s]? = some none := by rw [List.getElem?_set_ne (Ne.symm hsn)]; exact hs
    generalize he : a.eval x = cx at hxx
    cases hxx with
    | bs0 => exact small _ he (fun off => .bs0 _ _ _) rfl (by simp) (hr.wr.kill hn) hs1
    | bs1 => exact small _ he (fun off => .bs1 _ _ _ _) rfl (by simp) (hr.wr.kill hn) hs1
    | @bs _ _ _ _ tl hT hl =>
     have B := hr.wr.hnm n c tl hn hT
     have hcap := B.cap
     by_cases hg : off + len + ys.length ≤ tl.cap
     · obtain ⟨cv, w', G', h1, h2, h3, h4⟩ := append_room (P := P) hr.wr hs (ty := o.type) ht hi hn hT hcz hl hY hg hc hcs (hu9 _ _ _ _ _ hx hn) sy
       exact ⟨cv, w', G', hex (by rw [he]; exact h1), h2, h3, h4⟩
     · obtain ⟨cvs, E, fr, e1, e2, e3, e4⟩ := B.row
       have hxs : tl.sz = i.size := B.sz.trans hcz
       have hp := B.part hl e1
       have hel : ∀ v ∈ (c.els.drop off).take len, v.cells.length = i.size := fun v hv => (B.el v (List.mem_of_mem_drop (List.mem_of_mem_take hv))).trans hcz
       have hlen : ((c.els.drop off).take len).length = len := BC.slice_els (by rw [B.len]; exact hl)
       have hcl : ((cvs.toList.drop (tl.lo + off * tl.sz)).take (len * tl.sz)).length = len * i.size := by rw [hp.1, flat_length hel, hlen]
       have hold := run_firstCells_some (P := P) w.drew i.size len ⟨tl.b, tl.lo + off * tl.sz, none⟩ len (tl.cap - off) ((cvs.toList.drop (tl.lo + off * tl.sz)).take (len * tl.sz)) hcl (fun j v hj => by
        rw [add_none]
        show w.cell? ⟨tl.b, tl.lo + off * tl.sz + j, none⟩ = some v
        rw [cell_row e1]
        rw [List.getElem?_take] at hj
        split at hj
        · rw [List.getElem?_drop] at hj
          simpa using hj
        · cases hj)
       obtain ⟨cv, w', G', h1, h2, h3, h4⟩ := append_grow (P := P) (hr.wr.kill hn) hs1 (ty := o.type) ht hi hz hzs hp hlen hel hold hY (by omega) hb hb2 hc hcs hu8 sy
       exact ⟨cv, w', G', hex (by rw [he]; exact h1), h2, h3, h4⟩
theorem run_append_none' {t tx ty e : TypeId} {i : TypeInfo} (ht : P.underlying t = some (.slice e)) (hi : P.info? e = some i) {b off len cap : Nat} {cy : Value} {ys : List V} (hy : Ys P G w i.size tx cy ys) (h0 : ys = []) (hle : len ≤ cap) :
 (Builtin.append_ #[t, tx] ty #[.slice (some ⟨b, off, none⟩) len cap, cy]).run P w = .ok (.slice (some ⟨b, off, none⟩) len cap) w := by
 obtain ⟨news, hs, hr⟩ := hy.src
 subst h0
 have hn : news = [] := List.length_eq_zero_iff.1 (by rw [hr.1]; rfl)
 subst hn
 have hl := hs.len w
 have hc := hs.cells
 simp only [List.length_nil] at hl hc
 rcases hs.kind with ⟨e', hk⟩ | hk <;> simp [Builtin.append_, run_underlying ht, run_underlying hk, sizeOf, typeInfo, hi, hl, hc, storeCells, hle]
theorem WRel.freeze (h : WRel Γ G ob nm w) {s : Nat} {c : BC} (hn : nm[s]? = some (some (.live c))) {sy : Bool} {cv : Value} {L : Nat} (hv : VRel G (.bs sy s 0 L) cv) (hL : L = c.len) (hpos : L ≠ 0) :
    ∃ G2, G.le G2 ∧ VRel G2 (.lst .ro c.els) cv ∧ WRel Γ G2 ob (nm.set s (some .dead)) w := by
  cases hv with
  | bs0 => exact absurd rfl hpos
  | bs1 => exact absurd rfl hpos
  | @bs _ _ _ _ x hT hl =>
    subst hL
    have B := h.hnm s c x hn hT
    obtain ⟨cvs, E, fr, e1, e2, e3, e4⟩ := B.row
    let G2 : Gh := { G with M := fun b off => if b = x.b then w.cell? ⟨b, off, none⟩ else G.M b off }
    have hM : ∀ b off cv, G.M b off = some cv → G2.M b off = some cv := fun b off cv hm => by
      show (if _ then _ else _) = _
      split
      · exact h.m b off cv hm
      · exact hm
    have hle : G.le G2 := ⟨⟨hM, fun _ _ h => h, fun _ _ h => h, fun _ _ h => h⟩, rfl, rfl, rfl, rfl, rfl⟩
    have hxs : x.sz = c.sz := B.sz
    refine ⟨G2, hle, ?_, ?_⟩
    · have key := lend_list (G' := G2) (x := x) (xs := c.els) (ys := c.els) (sz := x.sz) (off := 0) (len := c.len) (cvs := cvs) (fun v hv => (B.el v hv).trans hxs.symm) rfl (by rw [BC.els_len]; omega) (by have := B.cap; have := B.len; omega) rfl (fun v hv => (B.el v hv).trans hxs.symm) (e4.mono hle) (fun j hj => by
        show (if _ then _ else _) = _
        rw [if_pos rfl, cell_row e1])
      rw [List.drop_zero, ← BC.els_len, List.take_length] at key
      rw [← BC.els_len]
      exact key
    · have hk := h.kill hn
      have hne : ∀ n c1 x1, (nm.set s (some Bf.dead))[n]? = some (some (Bf.live c1)) → G.T n = some x1 → x1.b ≠ x.b := fun n c1 x1 h1 h2 => by
        by_cases hm : n = s
        · subst hm
          rw [List.getElem?_set] at h1
          rw [if_pos rfl] at h1
          split at h1 <;> cases h1
        · rw [List.getElem?_set_ne (Ne.symm hm)] at h1
          exact h.nmd n s c1 c x1 x hm h1 hn h2 hT
      exact {
        m := fun b off cv hm => by
          have hm : (if b = x.b then w.cell? ⟨b, off, none⟩ else G.M b off) = some cv := hm
          split at hm
          · exact hm
          · exact h.m b off cv hm
        hob := fun o cs b h1 h2 => by
          obtain ⟨a1, ⟨cvs1, E1, fr1, a2, a3, a4, a5⟩, a6⟩ := hk.hob o cs b h1 h2
          refine ⟨a1, ⟨cvs1, E1, fr1, a2, a3, a4, a5.mono hle⟩, fun off => ?_⟩
          show (if b = x.b then _ else _) = none
          rw [if_neg (fun e => B.obj o (by rw [← e]; exact h2))]
          exact a6 off
        hlt := hk.hlt
        habs := hk.habs
        inj := hk.inj
        hnm := fun n c1 x1 h1 h2 => by
          have B1 := hk.hnm n c1 x1 h1 h2
          obtain ⟨cvs1, E1, fr1, a2, a3, a4, a5⟩ := B1.row
          exact { old := B1.old, row := ⟨cvs1, E1, fr1, a2, a3, a4, a5.mono hle⟩, sz := B1.sz, el := B1.el, len := B1.len, cap := B1.cap,
                  free := fun off f1 f2 => by
                    show (if x1.b = x.b then _ else _) = none
                    rw [if_neg (hne n c1 x1 h1 h2)]
                    exact B1.free off f1 f2,
                  obj := B1.obj, u8 := B1.u8 }
        hno := hk.hno
        nmd := hk.nmd
        tabs := hk.tabs
        tlt := hk.tlt
        dd := hk.dd
        kdle := hk.kdle
        gl := fun g v hg => (hk.gl g v hg).mono' hle.toSub.bare
        mold := fun b off hb => by
          show (if b = x.b then _ else _) = _
          rw [if_neg (fun e => hb (by rw [e]; exact B.old))]
          exact hk.mold b off hb
        os := hk.os
        tape := hk.tape
        output := hk.output
        size := hk.size
        block := hk.block }
theorem SemV.appendFull {o : Oper} {cl : Call} {x y : Operand} {t tx e : TypeId} {i : TypeInfo} {z : Value} {s : Nat} {olds ys : List V} (ho : o.op = .call cl) (hcal : cl.callee = .builtin .append) (ha : cl.args.toList = [x, y]) (hts : cl.argTypes = #[t, tx])
 (ht : P.underlying t = some (.slice e)) (hi : P.info? e = some i) (hz : i.zero = some z) (hzs : z.cells.size = i.size) (hb2 : 1 ≤ i.bytes) (hs : σ.nm[s]? = some none)
 (hx : σ.eval Γ x = .lst .full olds) (hne : olds ≠ []) (helo : ∀ v ∈ olds, v.cells.length = i.size)
 (hy : ∀ G a w, Rel Γ G σ a w → Ys P G w i.size tx (a.eval y) ys) (hb : (olds.length + ys.length) * 2 * i.bytes ≤ 281474976710656) :
 SemV P Γ o σ (.lst .ro (olds ++ ys)) σ.ob (σ.nm.set s (some .dead)) :=
 SemV.of_val fun G a w hr => by
  have hca : cl.args.map a.eval = #[a.eval x, a.eval y] := by apply Array.ext'; simp [ha]
  have hY := hy G a w hr
  have hex : ∀ {cv : Value} {w' : World}, (Builtin.append_ #[t, tx] o.type #[a.eval x, a.eval y]).run P w = .ok cv w' → (execOp a.eval o).run P w = .ok (.value cv) w' := fun {cv w'} h => by
   simp [execOp, ho, resolve, hcal, invoke, Go.builtin, hca, hts, h]
  have hxx := hr.eval x
  rw [hx] at hxx
  generalize he : a.eval x = cx at hxx
  have hlt : s < σ.nm.length := by
   rcases Nat.lt_or_ge s σ.nm.length with h | h
   · exact h
   · rw [List.getElem?_eq_none h] at hs; cases hs
  cases hxx with
  | lst0 => exact absurd rfl hne
  | @lst _ _ b off cap sz cvs h1 h2 h3 h4 h5 h6 =>
   have h6 : cap = olds.length := h6
   subst h6
   by_cases hk : ys = []
   · have hrun := run_append_none' (P := P) (ty := o.type) ht hi (b := b) (off := off) (len := olds.length) (cap := olds.length) hY hk (Nat.le_refl _)
     refine ⟨_, w, G, hex (by rw [he]; exact hrun), .refl G, ?_, ?_⟩
     · rw [hk, List.append_nil]
       exact .lst h1 h2 h3 h4 h5 trivial
     · have h7 := hr.wr.unborn hs (c := .cs 1 []) rfl
       have h8 := h7.kill (n := s) (b := .live (.cs 1 [])) (by rw [List.getElem?_set_self hlt])
       rwa [List.set_set] at h8
   · have hpos : 0 < ys.length := List.length_pos_iff.2 hk
     have hsz : sz = i.size := by
      match olds, hne with
      | v :: r, _ => exact (h1 v (by simp)).symm.trans (helo v (by simp))
     subst hsz
     have hfl := flat_length helo
     have hold := run_firstCells_some (P := P) w.drew i.size olds.length ⟨b, off, none⟩ olds.length olds.length cvs (by rw [h2, hfl]) (fun j v hj => by
      rw [add_none]
      exact hr.wr.m _ _ _ (h3 j v hj))
     obtain ⟨cv, w', G', g1, g2, g3, g4⟩ := append_grow (P := P) hr.wr hs (ty := o.type) ht hi hz hzs (base := some ⟨b, off, none⟩) (len := olds.length) (cap := olds.length) (olds := olds) (co := cvs) ⟨h2, h4⟩ rfl helo hold hY (by omega) hb hb2 (c' := .cs i.size (olds ++ ys)) rfl rfl (fun _ h => by cases h) true
     have hlive : (σ.nm.set s (some (.live (.cs i.size (olds ++ ys)))))[s]? = some (some (.live (.cs i.size (olds ++ ys)))) := by rw [List.getElem?_set_self hlt]
     obtain ⟨G2, f1, f2, f3⟩ := g4.freeze hlive g3 (by show _ = (olds ++ ys).length; rw [List.length_append]) (by omega)
     rw [List.set_set] at f3
     exact ⟨cv, w', G2, hex (by rw [he]; exact g1), g2.trans f1, f2, f3⟩
theorem SemV.appendBuf {o : Oper} {cl : Call} {x y : Operand} {t tx e : TypeId} {i : TypeInfo} {z : Value} {s : Nat} {olds ys : List V} (ho : o.op = .call cl) (hcal : cl.callee = .builtin .append) (ha : cl.args.toList = [x, y]) (hts : cl.argTypes = #[t, tx])
 (ht : P.underlying t = some (.slice e)) (hi : P.info? e = some i) (hz : i.zero = some z) (hzs : z.cells.size = i.size) (hb2 : 1 ≤ i.bytes) (hs : σ.nm[s]? = some none)
 (hx : σ.eval Γ x = .lst .full olds) (hne : olds ≠ []) (hyne : ys ≠ []) (helo : ∀ v ∈ olds, v.cells.length = i.size)
 (hy : ∀ G a w, Rel Γ G σ a w → Ys P G w i.size tx (a.eval y) ys) (hb : (olds.length + ys.length) * 2 * i.bytes ≤ 281474976710656) :
 SemV P Γ o σ (.bs false s 0 (olds.length + ys.length)) σ.ob (σ.nm.set s (some (.live (.cs i.size (olds ++ ys))))) :=
 SemV.of_val fun G a w hr => by
  have hca : cl.args.map a.eval = #[a.eval x, a.eval y] := by apply Array.ext'; simp [ha]
  have hY := hy G a w hr
  have hex : ∀ {cv : Value} {w' : World}, (Builtin.append_ #[t, tx] o.type #[a.eval x, a.eval y]).run P w = .ok cv w' → (execOp a.eval o).run P w = .ok (.value cv) w' := fun {cv w'} h => by
   simp [execOp, ho, resolve, hcal, invoke, Go.builtin, hca, hts, h]
  have hxx := hr.eval x
  rw [hx] at hxx
  generalize he : a.eval x = cx at hxx
  have hlt : s < σ.nm.length := by
   rcases Nat.lt_or_ge s σ.nm.length with h | h
   · exact h
   · rw [List.getElem?_eq_none h] at hs; cases hs
  cases hxx with
  | lst0 => exact absurd rfl hne
  | @lst _ _ b off cap sz cvs h1 h2 h3 h4 h5 h6 =>
   have h6 : cap = olds.length := h6
   subst h6
   · have hpos : 0 < ys.length := List.length_pos_iff.2 hyne
     have hsz : sz = i.size := by
      match olds, hne with
      | v :: r, _ => exact (h1 v (by simp)).symm.trans (helo v (by simp))
     subst hsz
     have hfl := flat_length helo
     have hold := run_firstCells_some (P := P) w.drew i.size olds.length ⟨b, off, none⟩ olds.length olds.length cvs (by rw [h2, hfl]) (fun j v hj => by
      rw [add_none]
      exact hr.wr.m _ _ _ (h3 j v hj))
     obtain ⟨cv, w', G', g1, g2, g3, g4⟩ := append_grow (P := P) hr.wr hs (ty := o.type) ht hi hz hzs (base := some ⟨b, off, none⟩) (len := olds.length) (cap := olds.length) (olds := olds) (co := cvs) ⟨h2, h4⟩ rfl helo hold hY (by omega) hb hb2 (c' := .cs i.size (olds ++ ys)) rfl rfl (fun _ h => by cases h) false
     exact ⟨cv, w', G', hex (by rw [he]; exact g1), g2, g3, g4⟩
end
end Go.Proofs.Ytofbchcclkejgaa

/- append, looked at: what is appended, what comes of it. -/
set_option linter.unusedVariables false
set_option linter.unusedSimpArgs false
namespace Go.Proofs.Ytofbchcclkejgaa
open Go
section
variable {P : Program} {Γ : Nat → Option V} {G : Gh} {ob : Ob} {nm : Nm} {w : World} {σ : St}
mutual
theorem Ty.cells_one : ∀ (t : Ty) (x : t.den), ∀ v ∈ t.cells x, v.one = true
 | .bool, x, v, h => by simp [Ty.cells] at h; subst h; rfl
 | .int k, x, v, h => by simp [Ty.cells] at h; subst h; rfl
 | .str, x, v, h => by simp [Ty.cells] at h; subst h; rfl
 | .agg fs, x, v, h => Ty.cellss_one fs x v h
 | .slice e, x, v, h => by simp [Ty.cells] at h; subst h; rfl
theorem Ty.cellss_one : ∀ (ts : List Ty) (x : Ty.dens ts), ∀ v ∈ Ty.cellss ts x, v.one = true
 | [], x, v, h => by cases h
 | t :: ts, x, v, h => by
  simp only [Ty.cellss, List.mem_append] at h
  rcases h with h | h
  · exact Ty.cells_one t x.1 v h
  · exact Ty.cellss_one ts x.2 v h
end
theorem one_of_rels {l : List V} {cvs : List Value} (h : Rels G l cvs) (h1 : ∀ v ∈ l, v.one = true) : ∀ u ∈ cvs, u.oneCell' = true := by
 intro u hu
 obtain ⟨j, hj⟩ := List.getElem?_of_mem hu
 have hl : j < l.length := by rw [← h.1]; exact append_room.get_lt'' hj
 have hv : l[j]? = some l[j] := List.getElem?_eq_getElem hl
 exact (h.2 j _ u hv hj).oneCell (h1 _ (List.mem_of_getElem? hv))
theorem Ys.of_lst {size : Nat} {tx e' : TypeId} (hk : P.underlying tx = some (.slice e')) {t : Tag} {ys : List V} {cy : Value} (hw : WRel Γ G ob nm w) (hr : VRel G (.lst t ys) cy) (hel : ∀ v ∈ ys, v.cells.length = size) (h1 : ∀ v ∈ flat ys, v.one = true) : Ys P G w size tx cy ys := by
 refine ⟨?_, hel⟩
 cases hr with
 | lst0 t p =>
  cases p with
  | none => exact ⟨[], Src.ofNil w hk 0, Rels.nil G⟩
  | some a => exact ⟨[], Src.ofSlice w hk a 0 0 [] (by simp) (fun j u hj => by simp at hj) (fun u hu => by cases hu), Rels.nil G⟩
 | lst1 a cap =>
  exact ⟨[], Src.ofSlice w hk a 0 cap [] (by simp) (fun j u hj => by simp at hj) (fun u hu => by cases hu), Rels.nil G⟩
 | @lst _ _ b off cap sz cvs hsz hl hm hv hc ht =>
  have hrel : Rels G (flat ys) cvs := ⟨hl, hv⟩
  exact ⟨cvs, Src.ofSlice w hk ⟨b, off, none⟩ ys.length cap cvs (by rw [hl, flat_length hel]) (fun j u hj => by rw [add_none]; exact hw.m _ _ _ (hm j u hj)) (one_of_rels hrel h1), hrel⟩
theorem map_one (ty : Ty) (l : List ty.den) : ∀ v ∈ flat (l.map ty.val), v.one = true := by
 intro v hv
 obtain ⟨x, hx, hv⟩ := List.mem_flatMap.1 hv
 obtain ⟨y, _, rfl⟩ := List.mem_map.1 hx
 rw [Ty.val_cells] at hv
 exact Ty.cells_one ty y v hv
theorem map_size (ty : Ty) (l : List ty.den) : ∀ v ∈ l.map ty.val, v.cells.length = ty.size := by
 intro v hv
 obtain ⟨y, _, rfl⟩ := List.mem_map.1 hv
 exact Ty.val_len ty y
theorem Ys.of_bs {size : Nat} {tx e' : TypeId} (hk : P.underlying tx = some (.slice e')) {sy : Bool} {n off len : Nat} {c : BC} {cy : Value} (hw : WRel Γ G ob nm w) (hr : VRel G (.bs sy n off len) cy) (hn : nm[n]? = some (some (.live c))) (hcz : c.sz = size) (h1 : ∀ v ∈ flat c.els, v.one = true) :
 Ys P G w size tx cy ((c.els.drop off).take len) := by
 cases hr with
 | bs0 => exact ⟨⟨[], by simpa using Src.ofNil w hk 0, by rw [List.take_zero]; exact Rels.nil G⟩, fun v hv => by simp at hv⟩
 | bs1 sy n off a =>
  refine ⟨⟨[], ?_, by rw [List.take_zero]; exact Rels.nil G⟩, fun v hv => by simp at hv⟩
  simpa using Src.ofSlice w hk a 0 0 [] (by simp) (fun j u hj => by simp at hj) (fun u hu => by cases hu)
 | @bs _ _ _ _ x hT hl =>
  have B := hw.hnm n c x hn hT
  obtain ⟨cvs, E, fr, e1, e2, e3, e4⟩ := B.row
  have hp := B.part hl e1
  have hxs : x.sz = size := B.sz.trans hcz
  have hel : ∀ v ∈ (c.els.drop off).take len, v.cells.length = size := fun v hv => (B.el v (List.mem_of_mem_drop (List.mem_of_mem_take hv))).trans hcz
  have hlen : ((c.els.drop off).take len).length = len := BC.slice_els (by rw [B.len]; exact hl)
  refine ⟨⟨_, ?_, hp⟩, hel⟩
  rw [hlen]
  refine Src.ofSlice w hk ⟨x.b, x.lo + off * x.sz, none⟩ len (x.cap - off) _ (by rw [hp.1, flat_length hel, hlen]) (fun j u hj => ?_) (one_of_rels hp (fun v hv => ?_))
  · rw [add_none, cell_row e1]
    rw [List.getElem?_take] at hj
    split at hj
    · rw [List.getElem?_drop] at hj
      simpa using hj
    · cases hj
  · obtain ⟨u, hu, hv⟩ := List.mem_flatMap.1 hv
    exact h1 v (List.mem_flatMap.2 ⟨u, List.mem_of_mem_drop (List.mem_of_mem_take hu), hv⟩)
def bytesOf (s : ByteArray) : List Int := s.data.toList.map fun b => ((b.toNat : Nat) : Int)
theorem flat_si (k : IntKind) : ∀ (l : List Int), flat (l.map (V.si k)) = l.map (V.si k)
 | [] => rfl
 | x :: l => by rw [List.map_cons, flat_cons, flat_si k l]; rfl
theorem Ys.of_str {tx : TypeId} (hk : P.underlying tx = some .string) {s : ByteArray} : Ys P G w 1 tx (.string s) ((bytesOf s).map (V.si .u8)) := by
 have hl : (bytesOf s).length = s.size := by
  unfold bytesOf
  rw [List.length_map, Array.length_toList]
  rfl
 refine ⟨⟨byteCells s, ?_, ?_⟩, fun v hv => ?_⟩
 · rw [List.length_map, hl]; exact Src.ofString w hk s
 · rw [flat_si]
   refine ⟨by simp only [bytesOf, byteCells, List.length_map], fun j v cv h1 h2 => ?_⟩
   simp only [bytesOf, byteCells, List.getElem?_map, Option.map_map, Option.map_eq_some_iff] at h1 h2
   obtain ⟨a, ha, rfl⟩ := h1
   obtain ⟨b, hb, rfl⟩ := h2
   rw [ha] at hb
   cases hb
   exact .si _ _
 · obtain ⟨x, _, rfl⟩ := List.mem_map.1 hv
   rfl
theorem flat_i (k : IntKind) : ∀ (l : List Int), flat (l.map (V.i k)) = l.map (V.i k)
 | [] => rfl
 | x :: l => by rw [List.map_cons, flat_cons, flat_i k l]; rfl
theorem Ys.of_strK {tx : TypeId} (hk : P.underlying tx = some .string) {s : ByteArray} : Ys P G w 1 tx (.string s) ((bytesOf s).map (V.i .u8)) := by
 obtain ⟨⟨news, h1, h2⟩, _⟩ := Ys.of_str (G := G) (w := w) hk (s := s)
 refine ⟨⟨news, by simpa using h1, ?_⟩, fun v hv => ?_⟩
 · rw [flat_si] at h2
   rw [flat_i]
   refine ⟨by simpa using h2.1, fun j v cv g1 g2 => ?_⟩
   simp only [List.getElem?_map, Option.map_eq_some_iff] at g1
   obtain ⟨x, hx, rfl⟩ := g1
   have := h2.2 j (.si .u8 x) cv (by simp [hx]) g2
   cases this
   exact .i _ _
 · obtain ⟨x, _, rfl⟩ := List.mem_map.1 hv
   rfl
theorem Ys.conv {size : Nat} {tx : TypeId} {cy : Value} {ys : List V} (h : Ys P G w size tx cy ys) {ty : Ty} (hz : ty.size = size) {l : List ty.den} (hl : optMap (whole ty.ofC) ys = some l) : Ys P G w size tx cy (l.map ty.val) := by
 obtain ⟨h1, h2, h3⟩ := optMap_ok (Ty.ofC_ok ty) hl
 obtain ⟨news, hs, hr⟩ := h.src
 refine ⟨⟨news, ?_, h3 G news hr⟩, fun v hv => by rw [← hz]; exact map_size ty l v hv⟩
 rw [List.length_map, h1]
 exact hs
def isStrTy (P : Program) (T : TypeId) : Bool := match P.underlying T with | some .string => true | _ => false
def isSliceTy (P : Program) (T : TypeId) : Bool := match P.underlying T with | some (.slice _) => true | _ => false
def tyRow (P : Program) (e : TypeId) : Option (Nat × Nat) :=
 match P.info? e with
 | some i => match i.zero with | some z => if z.cells.size = i.size ∧ 1 ≤ i.bytes then some (i.size, i.bytes) else none | none => none
 | none => none
def oneB (l : List V) : Bool := l.all fun v => v.cells.all V.one
def BC.part (c : BC) (off len : Nat) : BC :=
 match c with
 | .cs sz xs => .cs sz ((xs.drop off).take len)
 | .arr ty l => .arr ty ((l.drop off).take len)
 | .u8 sy E l => .u8 sy E ((l.drop off).take len)
theorem BC.part_els (c : BC) (off len : Nat) : (c.part off len).els = (c.els.drop off).take len ∧ (c.part off len).sz = c.sz := by
 cases c <;> simp [BC.part, BC.els, BC.sz, List.map_take, List.map_drop]
def BC.oneOk : BC → Bool
 | .arr _ _ => true
 | .u8 _ _ _ => false
 | .cs _ xs => oneB xs
def ysE (P : Program) (size : Nat) (tx : TypeId) (y : V) (nm : Nm) : Option (BC × List Nat) :=
 match y.str? with
 | some (s, sy) => if isStrTy P tx ∧ size = 1 then some ((match sy with | true => .arr (.int .u8) (bytesOf s) | false => .cs 1 ((bytesOf s).map (V.i .u8))), []) else none
 | none =>
  if isSliceTy P tx then
   match y with
   | .lst _ ys => if ys.all (fun v => v.cells.length == size) && oneB ys then some (.cs size ys, []) else none
   | .nls => some (.cs size [], [])
   | .els => some (.cs size [], [])
   | .slst _ ty l => if ty.size = size then some (.arr ty l, []) else none
   | .bs _ n off len =>
    match nm[n]? with
    | some (some (.live c)) => if c.sz = size ∧ c.oneOk = true then some (c.part off len, [n]) else none
    | _ => none
   | _ => none
  else none
theorem oneB_flat {l : List V} (h : oneB l = true) : ∀ v ∈ flat l, v.one = true := by
 intro v hv
 obtain ⟨x, hx, hv⟩ := List.mem_flatMap.1 hv
 have := List.all_eq_true.1 h x hx
 exact List.all_eq_true.1 this v hv
theorem ysE_ok {size : Nat} {tx : TypeId} {y : Operand} {c : BC} {rn : List Nat} (h : ysE P size tx (σ.eval Γ y) σ.nm = some (c, rn)) : c.sz = size ∧ ∀ G a w, Rel Γ G σ a w → Ys P G w size tx (a.eval y) c.els := by
 unfold ysE at h
 split at h
 · rename_i s sy hy
   split at h
   · rename_i hst
     cases h
     obtain ⟨hst, rfl⟩ := hst
     refine ⟨by cases sy <;> rfl, fun G a w hr => ?_⟩
     rw [str?_eq hy (hr.eval y)]
     unfold isStrTy at hst
     split at hst
     · rename_i hu
       cases sy
       · exact Ys.of_strK hu
       · exact Ys.of_str hu
     · cases hst
   · cases h
 · split at h
   · rename_i hsl
     unfold isSliceTy at hsl
     split at hsl
     · rename_i e' hu
       split at h
       · rename_i t ys hy
         split at h
         · rename_i hb
           simp only [Bool.and_eq_true] at hb
           cases h
           refine ⟨rfl, fun G a w hr => ?_⟩
           have := hr.eval y
           rw [hy] at this
           exact Ys.of_lst hu hr.wr this (fun v hv => by simpa using List.all_eq_true.1 hb.1 v hv) (oneB_flat hb.2)
         · cases h
       · rename_i hy
         cases h
         refine ⟨rfl, fun G a w hr => ?_⟩
         have := hr.eval y
         rw [hy] at this
         have this2 : VRel G (.lst .full []) (a.eval y) := by
          generalize a.eval y = cv at this
          cases this
          exact .lst0 _ _
         exact Ys.of_lst hu hr.wr this2 (fun v hv => by cases hv) (fun v hv => by cases hv)
       · rename_i hy
         cases h
         refine ⟨rfl, fun G a w hr => ?_⟩
         have := hr.eval y
         rw [hy] at this
         have this2 : VRel G (.lst .ro []) (a.eval y) := by
          generalize a.eval y = cv at this
          cases this
          exact .lst1 _ _
         exact Ys.of_lst hu hr.wr this2 (fun v hv => by cases hv) (fun v hv => by cases hv)
       · rename_i t ty l hy
         split at h
         · rename_i hz
           cases h
           refine ⟨hz, fun G a w hr => ?_⟩
           have := hr.eval y
           rw [hy] at this
           cases this with
           | slst q => exact Ys.of_lst hu hr.wr q (fun v hv => (map_size ty l v hv).trans hz) (map_one ty l)
         · cases h
       · rename_i sy n off len hy
         split at h
         · rename_i c0 hn
           split at h
           · rename_i hz
             cases h
             refine ⟨(BC.part_els c0 off len).2.trans hz.1, fun G a w hr => ?_⟩
             have := hr.eval y
             rw [hy] at this
             rw [(BC.part_els c0 off len).1]
             refine Ys.of_bs hu hr.wr this hn hz.1 ?_
             cases c0 with
             | arr ty l => exact map_one ty l
             | cs sz xs => exact oneB_flat hz.2
             | u8 sy E l => cases hz.2
           · cases h
         · cases h
       · cases h
     · cases hsl
   · cases h
def BC.join (a b : BC) : Option BC :=
 match a with
 | .arr ty l =>
  match b with
  | .arr ty' l' => match listAs ty l' with | some l2 => some (.arr ty (l ++ l2)) | none => none
  | .cs _ ys => match optMap (whole ty.ofC) ys with | some l2 => some (.arr ty (l ++ l2)) | none => none
  | .u8 _ _ _ => none
 | .cs sz xs =>
  match b with
  | .cs _ ys => some (.cs sz (xs ++ ys))
  | .arr ty l => match xs with | [] => some (.arr ty l) | _ :: _ => none
  | .u8 _ _ _ => none
 | .u8 _ _ _ => none
theorem BC.join_u8 {a b c : BC} (h : a.join b = some c) : c.u8E = none := by
 cases a <;> cases b <;> simp only [BC.join] at h <;> (try split at h) <;> cases h <;> rfl
theorem BC.join_ok {a b c : BC} (h : a.join b = some c) {size : Nat} (ha : a.sz = size) (hb : b.sz = size) : c.sz = size ∧ ∃ ys, c.els = a.els ++ ys ∧ ys.length = b.els.length ∧ ∀ (G : Gh) (w : World) (tx : TypeId) (cy : Value), Ys P G w size tx cy b.els → Ys P G w size tx cy ys := by
 cases a with
 | arr ty l =>
  cases b with
  | arr ty' l' =>
   simp only [BC.join] at h
   split at h
   · rename_i l2 hl
     cases h
     refine ⟨ha, l'.map ty'.val, ?_, rfl, fun _ _ _ _ h => h⟩
     simp only [BC.els, List.map_append, listAs_eq hl]
   · cases h
  | cs sz ys =>
   simp only [BC.join] at h
   split at h
   · rename_i l2 hl
     cases h
     refine ⟨ha, l2.map ty.val, by simp [BC.els], ?_, fun G w tx cy hy => hy.conv ha hl⟩
     simp only [BC.els, List.length_map]
     exact (optMap_ok (Ty.ofC_ok ty) hl).1
   · cases h
  | u8 sy E l => cases h
 | cs sz xs =>
  cases b with
  | cs sz' ys => simp only [BC.join] at h; cases h; exact ⟨ha, ys, rfl, rfl, fun _ _ _ _ h => h⟩
  | arr ty l =>
   cases xs with
   | nil => simp only [BC.join] at h; cases h; exact ⟨hb, l.map ty.val, rfl, rfl, fun _ _ _ _ h => h⟩
   | cons x xs => simp only [BC.join] at h; cases h
  | u8 sy E l => cases h
 | u8 sy E l => cases h
def BC.isArr : BC → Bool
 | .arr _ _ => true
 | .u8 _ _ _ => false
 | .cs _ _ => false
def appX (P : Program) (ts : Array TypeId) (x y : V) (nm : Nm) (s : Nat) : Option Out :=
 match ts.toList with
 | [t, tx] =>
  match P.underlying t with
  | some (.slice e) =>
   match tyRow P e with
   | some (size, bytes) =>
    match ysE P size tx y nm with
    | some (b, rn) =>
     match x with
     | .lst .full [] =>
      match (BC.cs size []).join b with
      | some c' => some ⟨decide (b.len * 2 * bytes ≤ 281474976710656), b.isArr, .bs c'.isArr s 0 b.len, { rn := rn, wn := [(s, .live c')] }⟩
      | none => none
     | .lst .full (v :: vs) =>
      match (v :: vs).all fun u => u.cells.length == size with
      | true =>
       match b with
       | .cs _ l => some ⟨decide (((v :: vs).length + b.len) * 2 * bytes ≤ 281474976710656), false, .lst .ro ((v :: vs) ++ l), { rn := rn, wn := [(s, .dead)] }⟩
       | .arr ty l => match optMap (whole ty.ofC) (v :: vs) with | some l0 => some ⟨decide (((v :: vs).length + b.len) * 2 * bytes ≤ 281474976710656), true, .slst .ro ty (l0 ++ l), { rn := rn, wn := [(s, .dead)] }⟩ | none => none
       | .u8 _ _ _ => none
      | false => none
     | .bs sy n off len =>
      match nm[n]? with
      | some (some (.live c)) =>
       if c.sz = size then
        match (c.part off len).join b with
        | some c' => some ⟨decide ((len + b.len) * 2 * bytes ≤ 281474976710656), sy || b.isArr, .bs (sy || c'.isArr) s 0 (len + b.len), { rn := n :: rn, wn := [(n, .dead), (s, .live c')] }⟩
        | none => none
       else none
      | _ => none
     | _ => none
    | none => none
   | none => none
  | _ => none
 | _ => none
def useZ (x y : V) : Bool := match x, y with | .lst .full [.i _ _], .lst _ [.si _ _] => true | _, _ => false
def appZ (P : Program) (ts : Array TypeId) (x y : V) (nm : Nm) (s : Nat) : Option Out :=
 match ts.toList with
 | [t, tx] =>
  match P.underlying t with
  | some (.slice e) =>
   match tyRow P e with
   | some (size, bytes) =>
    match ysE P size tx y nm with
    | some (.cs _ (l :: ls), rn) =>
     match x with
     | .lst .full (v :: vs) =>
      match (v :: vs).all fun u => u.cells.length == size with
      | true => some ⟨decide (((v :: vs).length + (l :: ls).length) * 2 * bytes ≤ 281474976710656), false, .bs false s 0 ((v :: vs).length + (l :: ls).length), { rn := rn, wn := [(s, .live (.cs size ((v :: vs) ++ (l :: ls))))] }⟩
      | false => none
     | _ => none
    | _ => none
   | none => none
  | _ => none
 | _ => none
theorem tyRow_ok {e : TypeId} {size bytes : Nat} (h : tyRow P e = some (size, bytes)) : ∃ i z, P.info? e = some i ∧ i.zero = some z ∧ z.cells.size = i.size ∧ 1 ≤ i.bytes ∧ i.size = size ∧ i.bytes = bytes := by
 unfold tyRow at h
 split at h
 · rename_i i hi
   split at h
   · rename_i z hz
     split at h
     · rename_i hc
       cases h
       exact ⟨i, z, hi, hz, hc.1, hc.2, rfl, rfl⟩
     · cases h
   · cases h
 · cases h
theorem lst_as_app {e : Ty} {f : List V → Option (e.den × List V)} (hf : CellsOk e f) {xs : List V} {l0 l : List e.den} (h : optMap (whole f) xs = some l0) {G : Gh} {cv : Value} (hr : VRel G (.lst .ro (xs ++ l.map e.val)) cv) : VRel G (.lst .ro ((l0 ++ l).map e.val)) cv := by
 obtain ⟨h1, h2, h3⟩ := optMap_ok hf h
 have hlen : ((l0 ++ l).map e.val).length = (xs ++ l.map e.val).length := by simp [h1]
 generalize hL : xs ++ l.map e.val = L at hr hlen
 cases hr with
 | lst0 => rw [List.length_eq_zero_iff.1 hlen]; exact .lst0 _ _
 | lst1 => rw [List.length_eq_zero_iff.1 hlen]; exact .lst1 _ _
 | @lst _ _ b off cap sz cvs k1 k2 k3 k4 k5 k6 =>
  have hR : Rels G (flat L) cvs := ⟨k2, k4⟩
  rw [← hL, flat_append] at hR
  have hR2 : Rels G (flat ((l0 ++ l).map e.val)) cvs := by
   rw [List.map_append, flat_append]
   exact Rels.join (flat xs).length (h3 G _ hR.split.1) hR.split.2
  rw [← hlen]
  exact .lst (sz := e.size) (fun v hv => by
   rw [List.mem_map] at hv
   obtain ⟨x, _, rfl⟩ := hv
   exact Ty.val_len e x) hR2.1 k3 hR2.2 (by rw [hlen]; exact k5) trivial
theorem SemV.weakV {o : Oper} {v v' : V} {ob' : Ob} {nm' : Nm} (h : SemV P Γ o σ v ob' nm') (hw : ∀ (G : Gh) (cv : Value), VRel G v cv → VRel G v' cv) : SemV P Γ o σ v' ob' nm' :=
 fun ro G a w K Q hr hk => h ro G a w K Q hr (fun G' cv w' h1 h2 h3 => hk G' cv w' h1 (hw G' cv h2) h3)
theorem SemV.appZ {o : Oper} {cl : Call} {x y : Operand} {s : Nat} {out : Out} (ho : o.op = .call cl) (hcal : cl.callee = .builtin .append) (ha : cl.args.toList = [x, y]) (h : appZ P cl.argTypes (σ.eval Γ x) (σ.eval Γ y) σ.nm s = some out) (hchk : out.chk = true) (hs : σ.nm[s]? = some none) :
 SemV P Γ o σ out.v (out.eff.ob σ.ob) (out.eff.nm σ.nm) := by
 unfold Go.Proofs.Ytofbchcclkejgaa.appZ at h
 split at h
 · rename_i t tx hts
   have hts : cl.argTypes = #[t, tx] := by apply Array.ext'; simpa using hts
   split at h
   · rename_i e hu
     split at h
     · rename_i size bytes hrow
       obtain ⟨i, z, hi, hz, hzs, hb2, rfl, rfl⟩ := tyRow_ok hrow
       split at h
       · rename_i l ls rn hys
         obtain ⟨hbz, hY⟩ := ysE_ok hys
         split at h
         · rename_i v vs hx
           split at h
           · rename_i hall
             have helo : ∀ u ∈ v :: vs, u.cells.length = i.size := fun u hu => by simpa using List.all_eq_true.1 hall u hu
             cases h
             have hd : ((v :: vs).length + (l :: ls).length) * 2 * i.bytes ≤ 281474976710656 := of_decide_eq_true hchk
             exact SemV.appendBuf (P := P) (Γ := Γ) (σ := σ) (s := s) (olds := v :: vs) (ys := l :: ls) ho hcal ha hts hu hi hz hzs hb2 hs hx (by simp) (by simp) helo (fun G a w hr => hY G a w hr) hd
           · cases h
         · cases h
       · cases h
     · cases h
   · cases h
 · cases h
theorem SemV.appX {o : Oper} {cl : Call} {x y : Operand} {s : Nat} {out : Out} (ho : o.op = .call cl) (hcal : cl.callee = .builtin .append) (ha : cl.args.toList = [x, y]) (h : appX P cl.argTypes (σ.eval Γ x) (σ.eval Γ y) σ.nm s = some out) (hchk : out.chk = true) (hs : σ.nm[s]? = some none) :
 SemV P Γ o σ out.v (out.eff.ob σ.ob) (out.eff.nm σ.nm) := by
 unfold Go.Proofs.Ytofbchcclkejgaa.appX at h
 split at h
 · rename_i t tx hts
   have hts : cl.argTypes = #[t, tx] := by apply Array.ext'; simpa using hts
   split at h
   · rename_i e hu
     split at h
     · rename_i size bytes hrow
       obtain ⟨i, z, hi, hz, hzs, hb2, rfl, rfl⟩ := tyRow_ok hrow
       split at h
       · rename_i b rn hys
         obtain ⟨hbz, hY⟩ := ysE_ok hys
         split at h
         · rename_i hx
           split at h
           · rename_i c' hj
             cases h
             have hd : b.len * 2 * i.bytes ≤ 281474976710656 := of_decide_eq_true hchk
             obtain ⟨hcs, ys, h1, h2, h3⟩ := BC.join_ok (P := P) hj rfl hbz
             rw [BC.els_len] at h2
             have := SemV.append (P := P) (Γ := Γ) (σ := σ) (s := s) (len := 0) (olds := []) (ys := ys) (nm1 := σ.nm) (c' := c') ho hcal ha hts hu hi hz hzs hb2 hs (.inl ⟨.inl hx, rfl, rfl, rfl⟩) (fun G a w hr => h3 G w tx _ (hY G a w hr)) (by rw [h2]; simpa using hd) (by rw [h1]; rfl) hcs (fun E h => by rw [BC.join_u8 hj] at h; cases h) (fun _ _ _ _ _ _ _ E h => by rw [BC.join_u8 hj] at h; cases h) c'.isArr
             rw [h2, Nat.zero_add] at this
             exact this
           · cases h
         · rename_i v vs hx
           split at h
           · rename_i hall
             have helo : ∀ u ∈ v :: vs, u.cells.length = i.size := fun u hu => by simpa using List.all_eq_true.1 hall u hu
             split at h
             · rename_i l
               cases h
               have hd : ((v :: vs).length + (BC.cs _ l).len) * 2 * i.bytes ≤ 281474976710656 := of_decide_eq_true hchk
               exact SemV.appendFull (P := P) (Γ := Γ) (σ := σ) (s := s) (olds := v :: vs) (ys := l) ho hcal ha hts hu hi hz hzs hb2 hs hx (by simp) helo (fun G a w hr => hY G a w hr) hd
             · rename_i ty l
               split at h
               · rename_i l0 hl0
                 cases h
                 have hd : ((v :: vs).length + (BC.arr ty l).len) * 2 * i.bytes ≤ 281474976710656 := of_decide_eq_true hchk
                 have := SemV.appendFull (P := P) (Γ := Γ) (σ := σ) (s := s) (olds := v :: vs) (ys := l.map ty.val) ho hcal ha hts hu hi hz hzs hb2 hs hx (by simp) helo (fun G a w hr => hY G a w hr) (by rw [List.length_map]; exact hd)
                 exact this.weakV (fun G cv h => .slst (lst_as_app (Ty.ofC_ok ty) hl0 h))
               · cases h
             · cases h
           · cases h
         · rename_i sy n off len hx
           split at h
           · rename_i c hn
             split at h
             · rename_i hcz
               split at h
               · rename_i c' hj
                 cases h
                 have hd : (len + b.len) * 2 * i.bytes ≤ 281474976710656 := of_decide_eq_true hchk
                 obtain ⟨p1, p2⟩ := BC.part_els c off len
                 obtain ⟨hcs, ys, h1, h2, h3⟩ := BC.join_ok (P := P) hj (p2.trans hcz) hbz
                 rw [BC.els_len] at h2
                 rw [p1] at h1
                 have := SemV.append (P := P) (Γ := Γ) (σ := σ) (s := s) (len := len) (olds := (c.els.drop off).take len) (ys := ys) (nm1 := σ.nm.set n (some .dead)) (c' := c') ho hcal ha hts hu hi hz hzs hb2 hs (.inr ⟨sy, n, off, c, hx, hn, hcz, rfl, rfl⟩) (fun G a w hr => h3 G w tx _ (hY G a w hr)) (by rw [h2]; exact hd) h1 hcs (fun E h => by rw [BC.join_u8 hj] at h; cases h) (fun _ _ _ _ _ _ _ E h => by rw [BC.join_u8 hj] at h; cases h) (sy || c'.isArr)
                 rw [h2] at this
                 exact this
               · cases h
             · cases h
           · cases h
         · cases h
       · cases h
     · cases h
   · cases h
 · cases h
def appU (P : Program) (ts : Array TypeId) (x y : V) (nm : Nm) (s : Nat) : Option Out :=
 match ts.toList, y.str? with
 | [t, tx], some (str, sy) =>
  match P.underlying t with
  | some (.slice e) =>
   match tyRow P e with
   | some (size, bytes) =>
    match ysE P size tx y nm with
    | some (b, []) =>
     match Nat.beq size 1 with
     | true =>
      match x with
      | .lst .full [] => some ⟨decide (str.size * 2 * bytes ≤ 281474976710656), sy, .bs sy s 0 str.size, { wn := [(s, .live (.u8 sy e (bytesOf str)))] }⟩
      | .nls => some ⟨decide (str.size * 2 * bytes ≤ 281474976710656), sy, .bs sy s 0 str.size, { wn := [(s, .live (.u8 sy e (bytesOf str)))] }⟩
      | .bs sy0 n off len =>
       match nm[n]? with
       | some (some (.live (.u8 sy1 E l))) =>
        match Nat.beq E e && (sy1 == sy) with
        | true => some ⟨decide ((len + str.size) * 2 * bytes ≤ 281474976710656), sy0 || sy, .bs (sy0 || sy) s 0 (len + str.size), { rn := [n], wn := [(n, .dead), (s, .live (.u8 sy e ((l.drop off).take len ++ bytesOf str)))] }⟩
        | false => none
       | _ => none
      | _ => none
     | false => none
    | _ => none
   | none => none
  | _ => none
 | _, _ => none
theorem ysE_str {size : Nat} {tx : TypeId} {y : V} {nm : Nm} {b : BC} {rn : List Nat} {str : ByteArray} {sy : Bool} {e : TypeId} (h : ysE P size tx y nm = some (b, rn)) (hy : y.str? = some (str, sy)) : b.els = (BC.u8 sy e (bytesOf str)).els := by
 unfold ysE at h
 rw [hy] at h
 simp only [] at h
 split at h
 · cases sy <;> cases h <;> rfl
 · cases h
theorem SemV.appU {o : Oper} {cl : Call} {x y : Operand} {s : Nat} {out : Out} (ho : o.op = .call cl) (hcal : cl.callee = .builtin .append) (ha : cl.args.toList = [x, y]) (h : appU P cl.argTypes (σ.eval Γ x) (σ.eval Γ y) σ.nm s = some out) (hchk : out.chk = true) (hs : σ.nm[s]? = some none) :
 SemV P Γ o σ out.v (out.eff.ob σ.ob) (out.eff.nm σ.nm) := by
 unfold Go.Proofs.Ytofbchcclkejgaa.appU at h
 split at h
 · rename_i t tx str sy hts hstr
   have hts : cl.argTypes = #[t, tx] := by apply Array.ext'; simpa using hts
   split at h
   · rename_i e hu
     split at h
     · rename_i size bytes hrow
       obtain ⟨i, z, hi, hz, hzs, hb2, rfl, rfl⟩ := tyRow_ok hrow
       split at h
       · rename_i b hys
         obtain ⟨hbz, hY⟩ := ysE_ok hys
         have hel := ysE_str (e := e) hys hstr
         rw [hel] at hY
         have hylen : (BC.u8 sy e (bytesOf str)).els.length = str.size := by rw [BC.els_len]; show (bytesOf str).length = str.size; unfold bytesOf; rw [List.length_map, Array.length_toList]; rfl
         split at h
         · rename_i h1
           have h1 : i.size = 1 := Nat.eq_of_beq_eq_true h1
           split at h
           · rename_i hx
             cases h
             have hd : str.size * 2 * i.bytes ≤ 281474976710656 := of_decide_eq_true hchk
             have := SemV.append (P := P) (Γ := Γ) (σ := σ) (s := s) (len := 0) (olds := []) (ys := (BC.u8 sy e (bytesOf str)).els) (nm1 := σ.nm) (c' := .u8 sy e (bytesOf str)) ho hcal ha hts hu hi hz hzs hb2 hs (.inl ⟨.inl hx, rfl, rfl, rfl⟩) hY (by rw [hylen]; simpa using hd) rfl h1.symm (fun E h => by cases h; rfl) (fun sy n off len c h => by rw [hx] at h; cases h) sy
             rw [hylen, Nat.zero_add] at this
             exact this
           · rename_i hx
             cases h
             have hd : str.size * 2 * i.bytes ≤ 281474976710656 := of_decide_eq_true hchk
             have := SemV.append (P := P) (Γ := Γ) (σ := σ) (s := s) (len := 0) (olds := []) (ys := (BC.u8 sy e (bytesOf str)).els) (nm1 := σ.nm) (c' := .u8 sy e (bytesOf str)) ho hcal ha hts hu hi hz hzs hb2 hs (.inl ⟨.inr hx, rfl, rfl, rfl⟩) hY (by rw [hylen]; simpa using hd) rfl h1.symm (fun E h => by cases h; rfl) (fun sy n off len c h => by rw [hx] at h; cases h) sy
             rw [hylen, Nat.zero_add] at this
             exact this
           · rename_i sy0 n off len hx
             split at h
             · rename_i sy1 E l hn
               split at h
               · rename_i hE
                 cases h
                 rw [Bool.and_eq_true] at hE
                 obtain ⟨hE, hsy⟩ := hE
                 obtain rfl : E = e := Nat.eq_of_beq_eq_true hE
                 obtain rfl : sy1 = sy := by simpa using hsy
                 have hd : (len + str.size) * 2 * i.bytes ≤ 281474976710656 := of_decide_eq_true hchk
                 have := SemV.append (P := P) (Γ := Γ) (σ := σ) (s := s) (len := len) (olds := ((BC.u8 sy1 E l).els.drop off).take len) (ys := (BC.u8 sy1 E (bytesOf str)).els) (nm1 := σ.nm.set n (some .dead)) (c' := .u8 sy1 E ((l.drop off).take len ++ bytesOf str)) ho hcal ha hts hu hi hz hzs hb2 hs (.inr ⟨sy0, n, off, _, hx, hn, h1.symm, rfl, rfl⟩) hY (by rw [hylen]; exact hd) (by simp only [BC.els, List.map_append, List.map_take, List.map_drop]) h1.symm (fun E h => by cases h; rfl) (fun sy' n' off' len' c h hn' F hF => by
                  rw [hx] at h
                  cases h
                  rw [hn] at hn'
                  cases hn'
                  exact hF) (sy0 || sy1)
                 rw [hylen] at this
                 exact this
               · cases h
             · cases h
           · cases h
         · cases h
       · cases h
     · cases h
   · cases h
 · cases h
end
end Go.Proofs.Ytofbchcclkejgaa

/- Stores into buffers; new buffers of zeros. -/
set_option linter.unusedVariables false
set_option linter.unusedSimpArgs false
namespace Go.Proofs.Ytofbchcclkejgaa
open Go
section
variable {P : Program} {Γ : Nat → Option V} {G : Gh} {ob : Ob} {nm : Nm} {w : World} {σ : St}
theorem WRel.setBuf {w' : World} (h : WRel Γ G ob nm w) {n : Nat} {c c' : BC} {x : Tail} (hn : nm[n]? = some (some (.live c))) (hT : G.T n = some x) {cv cv0 : Array Value} {E : TypeId} {fr : Nat × Nat} (e1 : w.heap[x.b]? = some (.cells cv0 E fr)) (hsz : cv.size = cv0.size) (rs : RowSet w w' x.b cv E fr)
 (hm : ∀ off z, G.M x.b off = some z → cv[off]? = some z) (B : BufOk G w' x c') : WRel Γ G ob (nm.set n (some (.live c'))) w' := by
 have hdd := h.dset e1 rs.row hsz rs.other
 have hlt : n < nm.length := append_room.get_lt'' hn
 have hself : (nm.set n (some (Bf.live c')))[n]? = some (some (.live c')) := by rw [List.getElem?_set_self hlt]
 have hoth : ∀ {m : Nat}, m ≠ n → (nm.set n (some (Bf.live c')))[m]? = nm[m]? := fun hm => List.getElem?_set_ne (Ne.symm hm)
 have hB := h.hnm n c x hn hT
 exact {
  m := fun b off z hz => by
   by_cases e : b = x.b
   · subst e; rw [cell_row rs.row]; exact hm off z hz
   · rw [cell_of_heap (w := w) (by exact rs.other b e)]; exact h.m _ _ _ hz
  hob := fun o cs b h1 h2 => by
   have e : b ≠ x.b := fun e => hB.obj o (by rw [← e]; exact h2)
   obtain ⟨q1, ⟨q2, q3, q4, q5, q6⟩, q7⟩ := h.hob o cs b h1 h2
   exact ⟨q1, ⟨q2, q3, q4, by rw [rs.other b e]; exact q5, q6⟩, q7⟩
  hlt := fun o b h1 => by rw [rs.size]; exact h.hlt o b h1
  habs := h.habs
  inj := h.inj
  hnm := fun m d y h1 h2 => by
   by_cases e : m = n
   · subst e
     rw [hself] at h1
     obtain rfl : c' = d := by simpa using h1
     rw [hT] at h2
     cases h2
     exact B
   · rw [hoth e] at h1
     have hy := h.hnm m d y h1 h2
     exact hy.to (rs.other _ (h.nmd m n d c y x e h1 hn h2 hT)) (fun _ _ h => h) (fun _ h => h) (fun _ h => h) hy.obj
  hno := fun m d h1 h2 => by
   by_cases e : m = n
   · subst e; rw [hT] at h2; cases h2
   · rw [hoth e] at h1; exact h.hno m d h1 h2
  nmd := fun m m' d d' y y' hne h1 h2 h3 h4 => by
   have back : ∀ {m : Nat} {d : BC}, (nm.set n (some (Bf.live c')))[m]? = some (some (.live d)) → ∃ d0, nm[m]? = some (some (.live d0)) := fun {m d} hh => by
    by_cases e : m = n
    · exact ⟨c, by rw [e]; exact hn⟩
    · exact ⟨d, by rw [← hoth e]; exact hh⟩
   obtain ⟨d0, g1⟩ := back h1
   obtain ⟨d1, g2⟩ := back h2
   exact h.nmd m m' d0 d1 y y' hne g1 g2 h3 h4
  tabs := fun m h1 => by
   by_cases e : m = n
   · subst e; rw [hself] at h1; simp at h1
   · rw [hoth e] at h1; exact h.tabs m h1
  tlt := fun m y h1 => by simpa using h.tlt m y h1
  dd := hdd
  kdle := by rw [rs.size]; exact h.kdle
  gl := h.gl
  mold := h.mold
  os := rs.os.trans h.os
  tape := rs.tape.trans h.tape
  output := rs.output.trans h.output
  size := by rw [rs.size]; exact h.size
  block := fun k hk => (rs.other k (W0.own_ne hB.old hk)).trans (h.block k hk) }
def BC.setAt (c : BC) (i : Nat) (cs : List V) : Option BC :=
 match c with
 | .u8 _ _ _ => none
 | .arr ty l => match ty.ofC cs with | some (x, []) => some (.arr ty (l.set i x)) | _ => none
 | .cs sz xs =>
  match xs[i]? with
  | some (.agg _) => some (.cs sz (xs.set i (.agg cs)))
  | some _ => match cs with | [z] => if z.isAggV then none else some (.cs sz (xs.set i z)) | _ => none
  | none => none
theorem BC.setAt_u8 {c c' : BC} {i : Nat} {cs : List V} (h : c.setAt i cs = some c') : c'.u8E = none := by
 cases c <;> simp only [BC.setAt] at h <;> repeat' (first | (cases h; done) | (cases h; rfl) | split at h)
theorem BC.setAt_ok {c c' : BC} {i : Nat} {cs : List V} (h : c.setAt i cs = some c') (hi : i < c.len) (hl : cs.length = c.sz) : c'.sz = c.sz ∧ c'.len = c.len ∧ ∃ u, c'.els = c.els.set i u ∧ u.cells.length = c.sz ∧ ∀ (G : Gh) (cvs : List Value), Rels G cs cvs → Rels G u.cells cvs := by
 cases c with
 | arr ty l =>
  simp only [BC.setAt] at h
  split at h
  · rename_i x hx
    cases h
    obtain ⟨h1, h2⟩ := Ty.ofC_ok ty _ _ _ hx
    refine ⟨rfl, by simp [BC.len], ty.val x, by simp [BC.els, List.map_set], Ty.val_len ty x, fun G cvs hr => ?_⟩
    rw [Ty.val_cells]
    have := h2 G cvs hr
    rwa [List.append_nil] at this
  · cases h
 | u8 sy E l => cases h
 | cs sz xs =>
  simp only [BC.setAt] at h
  split at h
  · cases h
    exact ⟨rfl, by simp [BC.len], .agg cs, rfl, hl, fun G cvs hr => hr⟩
  · split at h
    · rename_i z
      split at h
      · cases h
      · rename_i hz
        cases h
        have hz1 : z.cells = [z] := by cases z <;> first | rfl | (simp [V.isAggV] at hz)
        exact ⟨rfl, by simp [BC.len], z, rfl, by rw [hz1]; exact hl, fun G cvs hr => by rw [hz1]; exact hr⟩
    · cases h
  · cases h
theorem splice_lists {α : Type} {L V : List α} {lo e s off t N : Nat} (hV : V.length = t) (h1 : off + t ≤ s) (h2 : e + s ≤ N) (h3 : lo + N ≤ L.length) :
 ((L.take (lo + e + off) ++ V ++ L.drop (lo + e + off + t)).drop lo).take N = ((L.drop lo).take N).take e ++ (((L.drop (lo + e)).take s).take off ++ V ++ ((L.drop (lo + e)).take s).drop (off + t)) ++ ((L.drop lo).take N).drop (e + s) := by
 apply List.ext_getElem?
 intro j
 have m1 : min (lo + e + off) L.length = lo + e + off := by omega
 have m2 : min e (min N (L.length - lo)) = e := by omega
 have m3 : min off (min s (L.length - (lo + e))) = off := by omega
 have m4 : min s (L.length - (lo + e)) = s := by omega
 simp only [List.getElem?_take, List.getElem?_drop, List.getElem?_append, List.length_append, List.length_take, List.length_drop, hV, m1, m2, m3, m4]
 repeat' split
 all_goals first
  | omega
  | rfl
  | (congr 1; omega)
theorem SemV.store_bp {o : Oper} {T : TypeId} {p y : Operand} {sz n i off : Nat} {c c' : BC} {s : Bool} {cs : List V} (ho : o.op = .store T p y) (hs : tySize P T = some sz) (hp : σ.eval Γ p = .bp n i off) (hn : σ.nm[n]? = some (some (.live c)))
 (hc : c.at i = some (true, s, cs)) (h1 : (σ.eval Γ y).allOne = true) (h2 : (σ.eval Γ y).cells.length = sz) (h3 : off + sz ≤ cs.length) (hset : c.setAt i (cs.take off ++ (σ.eval Γ y).cells ++ cs.drop (off + sz)) = some c') :
 SemV P Γ o σ (.tup []) σ.ob (σ.nm.set n (some (.live c'))) := by
 intro ro G a w K Q hr hk
 have hpp := hr.eval p
 rw [hp] at hpp
 obtain ⟨x, cvs, E, fr, hT, he, B, e1, e2, e3, hcl, hil, e4, e5⟩ := hpp.bp_at hr.wr hn hc
 have hy := (hr.eval y).cells (V.ne_any h1)
 have hyl : (a.eval y).cells.size = sz := by have := hy.1; simp at this; omega
 have hBl := B.len
 have hcapx := B.cap
 have hle : i * x.sz + x.sz ≤ x.cap * x.sz := by rw [← Nat.succ_mul]; exact Nat.mul_le_mul_right _ (by omega)
 obtain ⟨w', g1, g2⟩ := run_storeCells_row (P := P) (b := x.b) (off := x.lo + (i * x.sz + off)) (a.eval y).cells.toList 0 cvs w e1 e2 (by simp [hyl]; omega) ((hr.eval y).cells_one h1)
 refine ⟨fun _ _ => trivial, ?_⟩
 have hrun : (execOp a.eval o).run P w = .ok .skip w' := by
  have hsv : (storeVar T ⟨x.b, x.lo + (i * x.sz + off), none⟩ (a.eval y)).run P w = .ok () w' := by
   simp only [storeVar, Sem.run_bind, run_sizeOf hs, Result.andThen_ok, hyl, ne_eq, not_true_eq_false, ↓reduceIte]
   exact g1
  simp [execOp, ho, Instr.storeAt, he, Instr.sureAddr, hsv]
 rw [semAt_skip hrun]
 refine hk G _ w' (.refl G) (VRel.undef G) ?_
 simp only [Nat.add_zero, Array.length_toList, hyl] at g2
 generalize hq : x.lo + (i * x.sz + off) = q at g2
 have hcs : cs.length = c.sz := hcl.trans B.sz
 obtain ⟨s1, s2, u, s3, s4, s5⟩ := BC.setAt_ok hset (by omega) (by simp [h2]; omega)
 have hrow : (cvs.toList.take q ++ (a.eval y).cells.toList ++ cvs.toList.drop (q + sz)).toArray.size = cvs.size := by simp [hyl]; omega
 refine hr.wr.setBuf hn hT e1 hrow g2 (fun o z hz => ?_) ?_
 · have hz0 := hr.wr.m _ _ _ hz
   rw [cell_row e1] at hz0
   have hout : o < q ∨ q + sz ≤ o := by
    rcases Nat.lt_or_ge o q with h' | h'
    · exact .inl h'
    · rcases Nat.lt_or_ge o (q + sz) with h' | h'
      · rw [B.free o (by omega) (by omega)] at hz; cases hz
      · exact .inr h'
   have hz1 : cvs.toList[o]? = some z := by simpa using hz0
   have hos : o < cvs.size := by
    rcases Nat.lt_or_ge o cvs.size with h' | h'
    · exact h'
    · rw [Array.getElem?_eq_none h'] at hz0; cases hz0
   simp only [List.getElem?_toArray, List.append_assoc]
   rcases hout with ho' | ho'
   · rw [List.getElem?_append_left (by simp; omega), List.getElem?_take, if_pos ho']
     exact hz1
   · rw [List.getElem?_append_right (by simp; omega), List.getElem?_append_right (by simp [hyl]; omega), List.getElem?_drop]
     have : q + sz + (o - (cvs.toList.take q).length - (a.eval y).cells.toList.length) = o := by simp [hyl]; omega
     rw [this]
     exact hz1
 · have hel : ∀ v ∈ c.els, v.cells.length = x.sz := fun v hv => (B.el v hv).trans B.sz.symm
   have hflen := flat_length hel
   have hels : c.els.length = x.len := by rw [BC.els_len]; exact hBl
   have hi' : i < c.els.length := by omega
   have hel' : ∀ v ∈ c'.els, v.cells.length = x.sz := fun v hv => by
    rw [s3] at hv
    rcases List.mem_or_eq_of_mem_set hv with hv | rfl
    · exact hel v hv
    · exact s4.trans B.sz.symm
   have hfs : flat c'.els = splice (flat c.els) (i * x.sz) u.cells := by rw [s3]; exact flat_set hel (s4.trans B.sz.symm) i hi'
   have hul : u.cells.length = x.sz := s4.trans B.sz.symm
   have hL : (flat c'.els).length = (flat c.els).length := by
    rw [flat_length hel', flat_length hel, s3, List.length_set]
   have hiL : i * x.sz + x.sz ≤ (flat c.els).length := by rw [hflen, ← Nat.succ_mul]; exact Nat.mul_le_mul_right _ hi'
   -- the element's new cells
   have hrc : Rels G u.cells (((cvs.toList.drop (x.lo + i * x.sz)).take cs.length).take off ++ (a.eval y).cells.toList ++ ((cvs.toList.drop (x.lo + i * x.sz)).take cs.length).drop (off + sz)) :=
    s5 G _ (((e5.take off).append hy).append (e5.drop (off + sz)))
   have hA := e4.take (i * x.sz)
   have hC := e4.drop (i * x.sz + x.sz)
   have hbig := (hA.append hrc).append hC
   refine ⟨B.old, ⟨_, E, fr, g2.row, by rw [hrow]; exact e2, by rw [hrow]; exact e3, ?_⟩, B.sz.trans s1.symm, fun v hv => (hel' v hv).trans (B.sz.trans s1.symm), s2.trans hBl, hcapx, B.free, B.obj, fun F hF => by rw [BC.setAt_u8 hset] at hF; cases hF⟩
   have hlist : (((cvs.toList.take q ++ (a.eval y).cells.toList ++ cvs.toList.drop (q + sz)).toArray.toList.drop x.lo).take (flat c'.els).length) =
    ((cvs.toList.drop x.lo).take (flat c.els).length).take (i * x.sz) ++ (((cvs.toList.drop (x.lo + i * x.sz)).take cs.length).take off ++ (a.eval y).cells.toList ++ ((cvs.toList.drop (x.lo + i * x.sz)).take cs.length).drop (off + sz)) ++ ((cvs.toList.drop x.lo).take (flat c.els).length).drop (i * x.sz + x.sz) := by
    have hfl2 : (flat c.els).length ≤ x.cap * x.sz := by rw [hflen, hels]; exact Nat.mul_le_mul_right _ hcapx
    rw [hL]
    have hqe : q = x.lo + i * x.sz + off := by omega
    rw [hqe, hcl]
    exact splice_lists (hyl ▸ Array.length_toList ..) (by omega) hiL (by simp; omega)
   rw [hlist, hfs]
   simp only [splice, hul]
   exact hbig
def tyOf (P : Program) : Nat → TypeId → Option Ty
 | 0, _ => none
 | k + 1, T =>
  match P.underlying T with
  | some .bool => some .bool
  | some (.int q) => some (.int q)
  | some .string => some .str
  | some (.slice e) => match tyOf P k e with | some t => some (.slice t) | none => none
  | some (.struct fs) => match optMap (fun f : Field => tyOf P k f.type) fs.toList with | some ts => some (.agg ts) | none => none
  | some (.array n e) => match tyOf P k e with | some t => some (.agg (List.replicate n t)) | none => none
  | _ => none
theorem SemV.makeSlice {o : Oper} {T e : TypeId} {x y : Operand} {i : TypeInfo} {z : Value} {s : Nat} {k k' : IntKind} {l c : Int} {s1 s2 : Bool} {u : V} {c' : BC} (ho : o.op = .makeSlice T x y) (ht : P.underlying T = some (.slice e)) (hi : P.info? e = some i) (hz : i.zero = some z) (hzs : z.cells.size = i.size)
 (hx : (σ.eval Γ x).int? = some (k, l, s1)) (hy : (σ.eval Γ y).int? = some (k', c, s2)) (h0 : 0 ≤ l) (hlc : l ≤ c) (hb : (i.bytes : Int) * c ≤ 281474976710656) (h63 : c ≤ 9223372036854775807) (hs : σ.nm[s]? = some none)
 (hu : ∀ G, Rels G u.cells z.cells.toList) (hels : c'.els = List.replicate l.toNat u) (hsz : c'.sz = i.size) (sy : Bool) (h8 : c'.u8E = none := by rfl) : SemV P Γ o σ (.bs sy s 0 l.toNat) σ.ob (σ.nm.set s (some (.live c'))) :=
 SemV.of_val fun G a w hr => by
  have hxi := int?_eq hx (hr.eval x)
  have hyi := int?_eq hy (hr.eval y)
  have hrun := run_make (P := P) w T e i z ht hi hz k k' l c h0 hlc hb h63
  have hk := hr.wr.alloc (.cells (madeCells z.cells (c.toNat * i.size)) e)
  have hul : u.cells.length = i.size := by have := (hu G).1; simp at this; omega
  have hall := zeros_rel (n := c.toNat) (hu G) hul
  have hmc : (madeCells z.cells (c.toNat * i.size)) = (Array.range (c.toNat * i.size)).map (z.cells[· % z.cells.size]!) := rfl
  rw [← hmc] at hall
  have hfl : (flat (List.replicate l.toNat u)).length = l.toNat * i.size := by
   rw [flat_length (sz := i.size) (fun v hv => by rw [List.eq_of_mem_replicate hv, hul])]; simp
  have hsub : Rels G (flat (List.replicate l.toNat u)) ((madeCells z.cells (c.toNat * i.size)).toList.take (l.toNat * i.size)) := by
   have e1 : flat (List.replicate c.toNat u) = flat (List.replicate l.toNat u) ++ flat (List.replicate (c.toNat - l.toNat) u) := by
    rw [← flat_append, List.replicate_append_replicate]; congr 2; omega
   rw [e1] at hall
   have := hall.split.1
   rw [hfl] at this
   exact this
  have B : BufOk G (w.alloc (.cells (madeCells z.cells (c.toNat * i.size)) e)) ⟨w.heap.size, 0, i.size, l.toNat, c.toNat⟩ c' := {
   old := .inl hr.wr.size
   row := by
    refine ⟨_, e, (0, 0), heap_alloc_self w _, .inl rfl, by simp [madeCells], ?_⟩
    rw [hels, hfl]
    show Rels G _ (((madeCells z.cells (c.toNat * i.size)).toList.drop 0).take (l.toNat * i.size))
    rw [List.drop_zero]
    exact hsub
   sz := hsz.symm
   el := fun v hv => by
    rw [hels] at hv
    rw [List.eq_of_mem_replicate hv, hul, hsz]
   len := by rw [← BC.els_len, hels]; simp
   cap := by show l.toNat ≤ c.toNat; omega
   free := fun off _ _ => hr.wr.mnew off
   obj := fun o ho => by have := (hr.wr.hlt o _ ho).2; simp at this
   u8 := fun F hF => by rw [h8] at hF; cases hF }
  obtain ⟨hle, hw'⟩ := hk.newBuf hs B (fun n c1 x1 h1 h2 => by
   have := (hr.wr.hnm n c1 x1 h1 h2).lt
   simp only [ne_eq]
   omega)
  refine ⟨.slice (some ⟨w.heap.size, 0, none⟩) l.toNat c.toNat, _, _, by simp [execOp, ho, hxi, hyi, hrun], hle, ?_, hw'⟩
  have := VRel.bs (sy := sy) (off := 0) (len := l.toNat) (addT_new G s ⟨w.heap.size, 0, i.size, l.toNat, c.toNat⟩) (by simp)
  simpa using this
def makX (P : Program) (T : TypeId) (x y : V) (s : Nat) : Option Out :=
 match P.underlying T with
 | some (.slice e) =>
  match P.info? e with
  | some i =>
   match i.zero with
   | some z =>
    if z.cells.size = i.size then
     match x.int?, y.int? with
     | some (_, l, s1), some (_, c, s2) =>
      match s1 with
      | false =>
       if (ofVal z).notAny then some ⟨decide (0 ≤ l ∧ l ≤ c ∧ (i.bytes : Int) * c ≤ 281474976710656 ∧ c ≤ 9223372036854775807), s2, .bs false s 0 l.toNat, { wn := [(s, .live (.cs i.size (List.replicate l.toNat (ofVal z))))] }⟩ else none
      | true =>
       match tyOf P 10 e with
       | some ty =>
        match ty.ofV (ofVal z) with
        | some d => if ty.size = i.size then some ⟨decide (0 ≤ l ∧ l ≤ c ∧ (i.bytes : Int) * c ≤ 281474976710656 ∧ c ≤ 9223372036854775807), true, .bs true s 0 l.toNat, { wn := [(s, .live (.arr ty (List.replicate l.toNat d)))] }⟩ else none
        | none => none
       | none => none
     | _, _ => none
    else none
   | none => none
  | none => none
 | _ => none
theorem SemV.makX {o : Oper} {T : TypeId} {x y : Operand} {s : Nat} {out : Out} (ho : o.op = .makeSlice T x y) (h : makX P T (σ.eval Γ x) (σ.eval Γ y) s = some out) (hchk : out.chk = true) (hs : σ.nm[s]? = some none) : SemV P Γ o σ out.v (out.eff.ob σ.ob) (out.eff.nm σ.nm) := by
 unfold Go.Proofs.Ytofbchcclkejgaa.makX at h
 split at h
 · rename_i e hu
   split at h
   · rename_i i hi
     split at h
     · rename_i z hz
       split at h
       · rename_i hzs
         split at h
         · rename_i k l s1 k' c s2 hx hy
           split at h
           · split at h
             · rename_i hn
               cases h
               have hd := of_decide_eq_true hchk
               exact SemV.makeSlice (u := ofVal z) ho hu hi hz hzs hx hy hd.1 hd.2.1 hd.2.2.1 hd.2.2.2 hs (fun G => (ofVal_rel G z).cells (V.notAny_ne hn)) rfl rfl false
             · cases h
           · split at h
             · rename_i ty hty
               split at h
               · rename_i d hdv
                 split at h
                 · rename_i hsz
                   cases h
                   have hd := of_decide_eq_true hchk
                   exact SemV.makeSlice (u := ty.val d) (c' := .arr ty (List.replicate l.toNat d)) ho hu hi hz hzs hx hy hd.1 hd.2.1 hd.2.2.1 hd.2.2.2 hs (fun G => (Ty.ofV_ok hdv (ofVal_rel G z)).cells (by cases ty <;> simp [Ty.val])) (by simp [BC.els]) hsz true
                 · cases h
               · cases h
             · cases h
         · cases h
       · cases h
     · cases h
   · cases h
 · cases h
def stoX (P : Program) (T : TypeId) (p v : V) (nm : Nm) : Option Out :=
 match tySize P T with
 | some sz =>
  match p with
  | .bp n i off =>
   match nm[n]? with
   | some (some (.live c)) =>
    match c.at i with
    | some (b, s, cs) =>
     if v.allOne = true ∧ v.cells.length = sz ∧ off + sz ≤ cs.length then
      match c.setAt i (cs.take off ++ v.cells ++ cs.drop (off + sz)) with
      | some c' => some ⟨b, s, .tup [], { rn := [n], wn := [(n, .live c')] }⟩
      | none => none
     else none
    | none => none
   | _ => none
  | _ => none
 | none => none
theorem SemV.stoX {o : Oper} {T : TypeId} {p y : Operand} {out : Out} (ho : o.op = .store T p y) (h : stoX P T (σ.eval Γ p) (σ.eval Γ y) σ.nm = some out) (hchk : out.chk = true) : SemV P Γ o σ out.v (out.eff.ob σ.ob) (out.eff.nm σ.nm) := by
 unfold Go.Proofs.Ytofbchcclkejgaa.stoX at h
 split at h
 · rename_i sz hsz
   split at h
   · rename_i n i off hp
     split at h
     · rename_i c hn
       split at h
       · rename_i b s cs hat
         split at h
         · rename_i hc
           split at h
           · rename_i c' hset
             cases h
             have hchk : b = true := hchk
             subst hchk
             exact SemV.store_bp ho hsz hp hn hat hc.1 hc.2.1 hc.2.2 hset
           · cases h
         · cases h
       · cases h
     · cases h
   · cases h
 · cases h
end
end Go.Proofs.Ytofbchcclkejgaa

