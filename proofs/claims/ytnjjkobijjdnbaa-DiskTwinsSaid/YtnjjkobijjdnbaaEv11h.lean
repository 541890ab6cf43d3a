/- copy and clear over buffers. -/
import Derived.Test.YtnjjkobijjdnbaaEv11g
set_option linter.unusedVariables false
set_option linter.unusedSimpArgs false
namespace Go.Proofs.Ytnjjkobijjdnbaa
open Go

section
variable {P : Program} {Γ : Nat → Option V} {G : Gh} {ob : Ob} {nm : Nm} {w : World} {σ : St}
theorem run_load_inv {a : Addr} {v : Value} {w w' : World} (h : (load a).run P w = .ok v w') : w' = w := by
  simp only [load, Sem.run] at h
  split at h
  · cases h; rfl
  · split at h
    · cases h; rfl
    · cases h
theorem loadCellsFrom_inv {a : Addr} : ∀ (n i : Nat) (acc r : Array Value) (w w' : World), (loadCellsFrom a i n acc).run P w = .ok r w' → w' = w ∧ r.size = acc.size + n ∧ acc.toList = r.toList.take acc.size
  | 0, i, acc, r, w, w', h => by
    simp only [loadCellsFrom, Sem.run_pure, Result.ok.injEq] at h
    obtain ⟨rfl, rfl⟩ := h
    exact ⟨rfl, rfl, by rw [List.take_of_length_le (by simp)]⟩
  | n + 1, i, acc, r, w, w', h => by
    simp only [loadCellsFrom, Sem.run_bind] at h
    cases hl : (load (a.add i)).run P w with
    | ok v w1 =>
      rw [hl, Result.andThen_ok] at h
      obtain rfl := run_load_inv hl
      obtain ⟨g1, g2, g3⟩ := loadCellsFrom_inv n (i + 1) (acc.push v) r w1 w' h
      simp only [Array.size_push] at g2 g3
      refine ⟨g1, by omega, ?_⟩
      have := congrArg (List.take acc.size) g3
      rw [List.take_take, Nat.min_eq_left (by omega)] at this
      rw [← this]
      simp
    | _ => rw [hl] at h; simp [Result.andThen] at h
theorem loadCellsFrom_pre {a : Addr} : ∀ (m k i : Nat) (acc r : Array Value) (w w' : World), (loadCellsFrom a i (m + k) acc).run P w = .ok r w' → (loadCellsFrom a i m acc).run P w = .ok (r.toList.take (acc.size + m)).toArray w
  | 0, k, i, acc, r, w, w', h => by
    rw [Nat.zero_add] at h
    obtain ⟨_, _, g3⟩ := loadCellsFrom_inv k i acc r w w' h
    rw [Nat.add_zero, ← g3]
    simp [loadCellsFrom]
  | m + 1, k, i, acc, r, w, w', h => by
    rw [show m + 1 + k = (m + k) + 1 by omega] at h
    simp only [loadCellsFrom, Sem.run_bind] at h ⊢
    cases hl : (load (a.add i)).run P w with
    | ok v w1 =>
      rw [hl, Result.andThen_ok] at h
      rw [Result.andThen_ok]
      obtain rfl := run_load_inv hl
      have := loadCellsFrom_pre m k (i + 1) (acc.push v) r w1 w' h
      rw [Array.size_push, show acc.size + 1 + m = acc.size + (m + 1) by omega] at this
      exact this
    | _ => rw [hl] at h; simp [Result.andThen] at h
/-- Fewer elements than there are. -/
theorem src_pre {size : Nat} {tx : TypeId} {x : Value} {n : Nat} {news : List Value} (h : Src P size tx x n news w) {k : Nat} (hk : k ≤ n) : (Builtin.firstCells size k x).run P w = .ok (news.take (k * size)).toArray w := by
  have hc := h.cells
  have hl := h.len w
  have hkn : k * size ≤ n * size := Nat.mul_le_mul_right _ hk
  have hnl := h.newsLen
  cases x with
  | slice a m c =>
    cases a with
    | none =>
      simp only [Builtin.firstCells, Sem.run_pure, Result.ok.injEq] at hc
      have : news = [] := by have := congrArg Array.toList hc.1; simpa using this.symm
      simp [Builtin.firstCells, this]
    | some a =>
      simp only [Builtin.firstCells, loadCells] at hc ⊢
      rw [show n * size = k * size + (n * size - k * size) by omega] at hc
      have := loadCellsFrom_pre _ _ _ _ _ _ _ hc
      simpa using this
  | string s =>
    simp only [Builtin.lenOf, Sem.run_pure, Result.ok.injEq] at hl
    obtain ⟨rfl, _⟩ := hl
    simp only [Builtin.firstCells, Sem.run_pure, Result.ok.injEq] at hc
    have hn := congrArg Array.toList hc.1
    have hs : (s.extract 0 s.size).data.size = s.size := by simp
    have hlen := congrArg List.length hn
    simp only [Array.length_toList, Array.size_map] at hlen
    have hsz : s.size = s.size * size := by
      have e1 : (s.extract 0 s.size).data.size = s.size := by simp
      have e2 : news.toArray.size = s.size * size := by simpa using hnl
      omega
    simp only [Builtin.firstCells, Sem.run_pure, Result.ok.injEq, and_true]
    apply Array.ext'
    rw [← (by simpa using hn : ((s.extract 0 s.size).data.map fun b => Value.int .u8 b.toNat).toList = news)]
    simp only [Array.toList_map, List.toList_toArray]
    rw [← List.map_take]
    congr 1
    rcases Nat.eq_zero_or_pos s.size with h0 | h0
    · have hk0 : k = 0 := by omega
      subst hk0
      simp
    · have h1 : size = 1 := by
        rcases Nat.lt_or_ge size 1 with h' | h'
        · have : size = 0 := by omega
          rw [this] at hsz; omega
        · rcases Nat.lt_or_ge 1 size with h2 | h2
          · have : s.size * 2 ≤ s.size * size := Nat.mul_le_mul_left _ h2
            omega
          · omega
      rw [h1, Nat.mul_one]
      simp [ByteArray.data_extract, Array.toList_extract, List.extract]
  | _ => simp [Builtin.lenOf] at hl

theorem put_lists {α : Type} {L V : List α} {lo e t N : Nat} (hV : V.length = t) (h2 : e + t ≤ N) (h3 : lo + N ≤ L.length) :
    ((L.take (lo + e) ++ V ++ L.drop (lo + e + t)).drop lo).take N = ((L.drop lo).take N).take e ++ V ++ ((L.drop lo).take N).drop (e + t) := by
  apply List.ext_getElem?
  intro j
  have m1 : min (lo + e) L.length = lo + e := by omega
  have m2 : min e (min N (L.length - lo)) = e := by omega
  simp only [List.getElem?_take, List.getElem?_drop, List.getElem?_append, List.length_append, List.length_take, List.length_drop, hV, m1, m2]
  repeat' split
  all_goals first
    | omega
    | rfl
    | (congr 1; omega)
theorem flat_take {sz : Nat} {xs : List V} (h : ∀ x ∈ xs, x.cells.length = sz) (k : Nat) : flat (xs.take k) = (flat xs).take (k * sz) := by
  have := flat_take_drop h 0 k
  simpa using this
theorem flat_drop {sz : Nat} {xs : List V} (h : ∀ x ∈ xs, x.cells.length = sz) (k : Nat) : flat (xs.drop k) = (flat xs).drop (k * sz) := by
  have h1 := flat_take_drop h k xs.length
  rw [List.take_of_length_le (by simp)] at h1
  rw [h1, List.take_of_length_le (by rw [List.length_drop, flat_length h]; omega)]
/-- A buffer's content said in other words; no memory changes. -/
theorem WRel.reNone (h : WRel Γ G ob nm w) {n : Nat} {c c' : BC} (hn : nm[n]? = some (some (.live c))) (hT : G.T n = none) (hl : c'.len = 0) : WRel Γ G ob (nm.set n (some (.live c'))) w := by
  have hlt : n < nm.length := append_room.get_lt'' hn
  have hself : (nm.set n (some (Bf.live c')))[n]? = some (some (.live c')) := by rw [List.getElem?_set_self hlt]
  have hoth : ∀ {m : Nat}, m ≠ n → (nm.set n (some (Bf.live c')))[m]? = nm[m]? := fun hm => List.getElem?_set_ne (Ne.symm hm)
  exact { h with
    hnm := fun m d x h1 h2 => by
      by_cases e : m = n
      · subst e; rw [hT] at h2; cases h2
      · rw [hoth e] at h1; exact h.hnm m d x h1 h2
    hno := fun m d h1 h2 => by
      by_cases e : m = n
      · subst e
        rw [hself] at h1
        obtain rfl : c' = d := by simpa using h1
        exact hl
      · rw [hoth e] at h1; exact h.hno m d h1 h2
    nmd := fun m m' d d' x x' hne h1 h2 h3 h4 => by
      by_cases e : m = n
      · subst e; rw [hT] at h3; cases h3
      · by_cases e' : m' = n
        · subst e'; rw [hT] at h4; cases h4
        · rw [hoth e] at h1; rw [hoth e'] at h2; exact h.nmd m m' d d' x x' hne h1 h2 h3 h4
    tabs := fun m h1 => by
      by_cases e : m = n
      · subst e; rw [hself] at h1; cases h1
      · rw [hoth e] at h1; exact h.tabs m h1
    tlt := fun m x h1 => by simpa using h.tlt m x h1 }
/-- What a content is when some of its elements are exchanged. -/
structure Put (z off k : Nat) (c : BC) (ys : List V) (c' : BC) : Prop where
  sz : c'.sz = z
  len : c'.len = c.len
  el : ∀ v ∈ c'.els, v.cells.length = z
  imp : ∀ (G : Gh) (cvs : List Value), Rels G (flat (c.els.take off ++ ys ++ c.els.drop (off + k))) cvs → Rels G (flat c'.els) cvs
/-- Elements stored into a buffer. -/
theorem WRel.put (h : WRel Γ G ob nm w) {n : Nat} {c c' : BC} {x : Tail} (hn : nm[n]? = some (some (.live c))) (hT : G.T n = some x) {off k : Nat} {ys : List V} {vs : List Value} (hp : Put c.sz off k c ys c')
    (hy : ys.length = k) (hyl : ∀ v ∈ ys, v.cells.length = c.sz) (hr : Rels G (flat ys) vs) (h1 : ∀ v ∈ vs, v.oneCell' = true) (hl : off + k ≤ x.len) :
    ∃ w', (storeCells ⟨x.b, x.lo + off * x.sz, none⟩ vs).run P w = .ok () w' ∧ WRel Γ G ob (nm.set n (some (.live c'))) w' := by
  have B := h.hnm n c x hn hT
  obtain ⟨cvs, E, fr, e1, e2, e3, e4⟩ := B.row
  have hsz := B.sz
  have hBl := B.len
  have hcap := B.cap
  have hel : ∀ v ∈ c.els, v.cells.length = x.sz := fun v hv => (B.el v hv).trans hsz.symm
  have hyl' : ∀ v ∈ ys, v.cells.length = x.sz := fun v hv => (hyl v hv).trans hsz.symm
  have hflen := flat_length hel
  have hels : c.els.length = x.len := by rw [BC.els_len]; exact hBl
  have hfy : (flat ys).length = k * x.sz := by rw [flat_length hyl', hy]
  have hvl : vs.length = k * x.sz := hr.1.trans hfy
  have hle : off * x.sz + k * x.sz ≤ x.len * x.sz := by rw [← Nat.add_mul]; exact Nat.mul_le_mul_right _ hl
  have hle2 : x.len * x.sz ≤ x.cap * x.sz := Nat.mul_le_mul_right _ hcap
  obtain ⟨w', g1, g2⟩ := run_storeCells_row (P := P) (b := x.b) (off := x.lo + off * x.sz) vs 0 cvs w e1 e2 (by omega) h1
  refine ⟨w', g1, ?_⟩
  simp only [Nat.add_zero] at g2
  generalize hq : x.lo + off * x.sz = q at g2
  have hrow : (cvs.toList.take q ++ vs ++ cvs.toList.drop (q + vs.length)).toArray.size = cvs.size := by
    simp only [List.size_toArray, List.length_append, List.length_take, List.length_drop, Array.length_toList]
    omega
  have hel' : ∀ v ∈ c'.els, v.cells.length = x.sz := fun v hv => (hp.el v hv).trans hsz.symm
  have hL : (flat c'.els).length = (flat c.els).length := by
    rw [flat_length hel', flat_length hel, BC.els_len, BC.els_len, hp.len]
  refine h.setBuf hn hT g2 (fun o z hz => ?_) ⟨B.old, ⟨_, E, fr, g2.row, by rw [hrow]; exact e2, by rw [hrow]; exact e3, ?_⟩, hsz.trans hp.sz.symm, fun v hv => (hp.el v hv).trans hp.sz.symm, hp.len.trans hBl, hcap, B.free, B.obj⟩
  · have hz0 := h.m _ _ _ hz
    rw [cell_row e1] at hz0
    have hos : o < cvs.size := by
      rcases Nat.lt_or_ge o cvs.size with h' | h'
      · exact h'
      · rw [Array.getElem?_eq_none h'] at hz0; cases hz0
    have hout : o < q ∨ q + vs.length ≤ o := by
      rcases Nat.lt_or_ge o q with h' | h'
      · exact .inl h'
      · rcases Nat.lt_or_ge o (q + vs.length) with h' | h'
        · rw [B.free o (by omega) (by omega)] at hz; cases hz
        · exact .inr h'
    have hz1 : cvs.toList[o]? = some z := by simpa using hz0
    simp only [List.getElem?_toArray, List.append_assoc]
    rcases hout with ho' | ho'
    · rw [List.getElem?_append_left (by simp; omega), List.getElem?_take, if_pos ho']
      exact hz1
    · rw [List.getElem?_append_right (by simp; omega), List.getElem?_append_right (by simp; omega), List.getElem?_drop]
      have : q + vs.length + (o - (cvs.toList.take q).length - vs.length) = o := by simp; omega
      rw [this]
      exact hz1
  · rw [hL, ← hq]
    have hN : off * x.sz + vs.length ≤ (flat c.els).length := by rw [hflen, hels, hvl]; exact hle
    have hN2 : x.lo + (flat c.els).length ≤ cvs.toList.length := by rw [hflen, hels, Array.length_toList]; omega
    rw [put_lists rfl hN hN2, hvl]
    refine hp.imp G _ ?_
    rw [flat_append, flat_append, flat_take hel, flat_drop hel, Nat.add_mul]
    exact ((e4.take _).append hr).append (e4.drop _)
theorem VRel.bs_inv {sy : Bool} {n off len : Nat} {cv : Value} (h : VRel G (.bs sy n off len) cv) : (len = 0 ∧ (cv = .slice none 0 0 ∨ ∃ b o, cv = .slice (some ⟨b, o, none⟩) 0 0)) ∨ ∃ x, G.T n = some x ∧ off + len ≤ x.len ∧ cv = .slice (some ⟨x.b, x.lo + off * x.sz, none⟩) len (x.cap - off) := by
  cases h with
  | bs0 => exact .inl ⟨rfl, .inl rfl⟩
  | bs1 _ _ _ b o => exact .inl ⟨rfl, .inr ⟨b, o, rfl⟩⟩
  | bs h hl => exact .inr ⟨_, h, hl, rfl⟩
/-- A content said in other words. -/
theorem WRel.same (P : Program) (h : WRel Γ G ob nm w) {n : Nat} {c c' : BC} (hn : nm[n]? = some (some (.live c))) {off : Nat} (hp : Put c.sz off 0 c [] c') : WRel Γ G ob (nm.set n (some (.live c'))) w := by
  cases hT : G.T n with
  | none => exact h.reNone hn hT (hp.len.trans (h.hno n c hn hT))
  | some x =>
    have B := h.hnm n c x hn hT
    have hz : Put c.sz 0 0 c [] c' := ⟨hp.sz, hp.len, hp.el, fun G cvs hr => hp.imp G cvs (by simpa [← flat_append, List.take_append_drop] using hr)⟩
    obtain ⟨w', g1, g2⟩ := h.put (P := P) hn hT hz (vs := []) rfl (fun v hv => by cases hv) ⟨rfl, fun j v cv h1 h2 => by simp [flat] at h1⟩ (fun v hv => by cases hv) (Nat.zero_le _)
    have : w' = w := by
      simp only [storeCells, Sem.run_pure, Result.ok.injEq] at g1
      exact g1.2.symm
    rw [← this]
    exact this ▸ g2

theorem BC.join_rels {a b c : BC} (h : a.join b = some c) {size : Nat} (ha : a.sz = size) (hb : b.sz = size) (hbl : ∀ v ∈ b.els, v.cells.length = size) : c.sz = size ∧ ∃ ys, c.els = a.els ++ ys ∧ ys.length = b.els.length ∧ (∀ v ∈ ys, v.cells.length = size) ∧ ∀ (G : Gh) (cvs : List Value), Rels G (flat b.els) cvs → Rels G (flat ys) cvs := by
  cases a with
  | arr ty l =>
    cases b with
    | arr ty' l' =>
      simp only [BC.join] at h
      split at h
      · rename_i l2 hl
        cases h
        refine ⟨ha, l'.map ty'.val, ?_, rfl, hbl, fun _ _ h => h⟩
        simp only [BC.els, List.map_append, listAs_eq hl]
      · cases h
    | cs sz ys =>
      simp only [BC.join] at h
      split at h
      · rename_i l2 hl
        cases h
        obtain ⟨g1, g2, g3⟩ := optMap_ok (Ty.ofC_ok ty) hl
        refine ⟨ha, l2.map ty.val, by simp [BC.els], by simp only [BC.els, List.length_map]; exact g1, fun v hv => (map_size ty l2 v hv).trans ha, fun G cvs hr => g3 G cvs hr⟩
      · cases h
  | cs sz xs =>
    cases b with
    | cs sz' ys => simp only [BC.join] at h; cases h; exact ⟨ha, ys, rfl, rfl, hbl, fun _ _ h => h⟩
    | arr ty l =>
      cases xs with
      | nil => simp only [BC.join] at h; cases h; exact ⟨hb, l.map ty.val, rfl, rfl, hbl, fun _ _ h => h⟩
      | cons x xs => simp only [BC.join] at h; cases h
/-- The content with elements exchanged. -/
def BC.splice (c : BC) (off k : Nat) (y : BC) : Option BC :=
  match (c.part 0 off).join (y.part 0 k) with
  | some d => d.join (c.part (off + k) (c.len - (off + k)))
  | none => none
theorem BC.splice_ok {c y c' : BC} {off k : Nat} (h : c.splice off k y = some c') (hy : y.sz = c.sz) (hcl : ∀ v ∈ c.els, v.cells.length = c.sz) (hyl : ∀ v ∈ y.els, v.cells.length = c.sz) (hk : k ≤ y.len) (ho : k = 0 ∨ off + k ≤ c.len) : Put c.sz off k c (y.els.take k) c' := by
  unfold BC.splice at h
  split at h
  · rename_i d hd
    obtain ⟨a1, a2⟩ := BC.part_els c 0 off
    obtain ⟨b1, b2⟩ := BC.part_els y 0 k
    obtain ⟨d1, d2⟩ := BC.part_els c (off + k) (c.len - (off + k))
    rw [List.drop_zero] at a1 b1
    have hd1 : (c.els.drop (off + k)).take (c.len - (off + k)) = c.els.drop (off + k) := List.take_of_length_le (by simp [BC.els_len])
    rw [hd1] at d1
    obtain ⟨e1, ys, e2, e3, e4, e5⟩ := BC.join_rels hd a2 (b2.trans hy) (by rw [b1]; exact fun v hv => hyl v (List.mem_of_mem_take hv))
    obtain ⟨f1, zs, f2, f3, f4, f5⟩ := BC.join_rels h e1 d2 (by rw [d1]; exact fun v hv => hcl v (List.mem_of_mem_drop hv))
    rw [a1] at e2
    rw [b1] at e3 e5
    rw [d1] at f3 f5
    refine ⟨f1, ?_, ?_, ?_⟩
    · rw [← BC.els_len, f2, e2]
      have hyy := BC.els_len y
      have hcc := BC.els_len c
      simp only [List.length_append, e3, f3, List.length_take, List.length_drop, hyy, hcc]
      omega
    · rw [f2, e2]
      intro v hv
      rcases List.mem_append.1 hv with hv | hv
      · rcases List.mem_append.1 hv with hv | hv
        · exact hcl v (List.mem_of_mem_take hv)
        · exact e4 v hv
      · exact f4 v hv
    · intro G cvs hr
      rw [f2, e2]
      rw [flat_append, flat_append] at hr ⊢
      have hs1 := hr.split
      have hs2 := hs1.1.split
      have hl1 : (flat (c.els.take off)).length ≤ cvs.length := by have := hr.1; simp at this; omega
      have := ((hs2.1.append (e5 G _ hs2.2)).append (f5 G _ hs1.2))
      simpa only [List.take_append_drop] using this
  · cases h
/-- The elements that are copied: at most as many as there is room for. -/
def copX (P : Program) (ts : Array TypeId) (x y : V) (nm : Nm) : Option Out :=
  match ts.toList with
  | [t, tx] =>
    match P.underlying t with
    | some (.slice e) =>
      match tySize P e with
      | some sz =>
        match ysE P sz tx y nm with
        | some (b, rn) =>
          match x with
          | .lst _ [] => some ⟨true, false, .i .i64 0, { rn := rn }⟩
          | .bs sy n off len =>
            match nm[n]? with
            | some (some (.live c)) =>
              if c.sz = sz then
                match c.splice off (Nat.min b.len len) b with
                | some c' => some ⟨true, false, mkI (sy || b.isArr) .i64 (Nat.min b.len len : Nat), { rn := n :: rn, wn := [(n, .live c')] }⟩
                | none => none
              else none
            | _ => none
          | _ => none
        | none => none
      | none => none
    | _ => none
  | _ => none
theorem SemV.copX {o : Oper} {cl : Call} {x y : Operand} {out : Out} (ho : o.op = .call cl) (hcal : cl.callee = .builtin .copy) (ha : cl.args.toList = [x, y]) (h : copX P cl.argTypes (σ.eval Γ x) (σ.eval Γ y) σ.nm = some out) :
    SemV P Γ o σ out.v (out.eff.ob σ.ob) (out.eff.nm σ.nm) := by
  unfold Go.Proofs.Ytnjjkobijjdnbaa.copX at h
  split at h
  · rename_i t tx hts
    have hts : cl.argTypes = #[t, tx] := by apply Array.ext'; simpa using hts
    have hca : ∀ a : Act, cl.args.map a.eval = #[a.eval x, a.eval y] := fun a => by apply Array.ext'; simp [ha]
    split at h
    · rename_i e hu
      split at h
      · rename_i sz hsz
        split at h
        · rename_i b rn hys
          obtain ⟨hbz, hY⟩ := ysE_ok hys
          split at h
          · rename_i tg hx
            cases h
            refine SemV.of_val fun G a w hr => ?_
            have hxx := hr.eval x
            rw [hx] at hxx
            obtain ⟨p, q, he⟩ := hxx.slice_form
            obtain ⟨⟨news, hS, hR⟩, hyl⟩ := hY G a w hr
            have hpre := src_pre hS (Nat.zero_le _)
            have hlen := hS.len w
            refine ⟨.int .i64 (0 : Nat), w, G, ?_, .refl G, .i _ _, hr.wr⟩
            cases p <;> simp [execOp, ho, resolve, hcal, invoke, Go.builtin, hca, Builtin.copy_, hts, he, run_underlying hu, hlen, run_sizeOf hsz, hpre, goInt, storeCells]
          · rename_i sy n off len hx
            split at h
            · rename_i c hn
              split at h
              · rename_i hcz
                split at h
                · rename_i c' hsp
                  cases h
                  refine SemV.of_val fun G a w hr => ?_
                  show ∃ cv w' G', _ ∧ _ ∧ _ ∧ WRel Γ G' σ.ob (σ.nm.set n (some (.live c'))) w'
                  obtain ⟨⟨news, hS, hR⟩, hyl⟩ := hY G a w hr
                  have hxx := hr.eval x
                  rw [hx] at hxx
                  have hkb : Nat.min b.len len ≤ b.els.length := by rw [BC.els_len]; exact Nat.min_le_left _ _
                  have hlen := hS.len w
                  have hpre := src_pre hS hkb
                  have hel : ∀ v ∈ c.els, v.cells.length = c.sz := by
                    cases hT : G.T n with
                    | some x' => exact (hr.wr.hnm n c x' hn hT).el
                    | none =>
                      have h0 := hr.wr.hno n c hn hT
                      have : c.els = [] := List.eq_nil_of_length_eq_zero (by rw [BC.els_len]; exact h0)
                      rw [this]; exact fun v hv => by cases hv
                  have hbl : b.els.length = b.len := BC.els_len b
                  rcases hxx.bs_inv with ⟨rfl, hcv⟩ | ⟨x', hT, hol, hcv⟩
                  · have hm : Nat.min b.len 0 = 0 := Nat.min_zero _
                    rw [hm] at hsp hpre ⊢
                    have hput := BC.splice_ok hsp (hbz.trans hcz.symm) hel (fun v hv => (hyl v hv).trans hcz.symm) (Nat.zero_le _) (.inl rfl)
                    refine ⟨.int .i64 (0 : Nat), w, G, ?_, .refl G, mkI_rel _ _ _ _, hr.wr.same P hn hput⟩
                    rcases hcv with hcv | ⟨b', o', hcv⟩ <;>
                      simp [execOp, ho, resolve, hcal, invoke, Go.builtin, hca, Builtin.copy_, hts, hcv, run_underlying hu, hlen, run_sizeOf hsz, hpre, hm, goInt, storeCells, hbl]
                  · have hBl := (hr.wr.hnm n c x' hn hT).len
                    have hm2 : Nat.min b.len len ≤ len := Nat.min_le_right _ _
                    have hput := BC.splice_ok hsp (hbz.trans hcz.symm) hel (fun v hv => (hyl v hv).trans hcz.symm) (Nat.min_le_left _ _) (.inr (by omega))
                    have hR' : Rels G (flat (b.els.take (Nat.min b.len len))) (news.take (Nat.min b.len len * sz)) := by
                      rw [flat_take hyl]; exact hR.take _
                    obtain ⟨w', g1, g2⟩ := hr.wr.put (P := P) hn hT hput (by rw [List.length_take]; exact Nat.min_eq_left hkb) (fun v hv => (hyl v (List.mem_of_mem_take hv)).trans hcz.symm) hR' (fun v hv => hS.one v (List.mem_of_mem_take hv)) (by omega)
                    refine ⟨.int .i64 (Nat.min b.len len : Nat), w', G, ?_, .refl G, mkI_rel _ _ _ _, g2⟩
                    rw [← hbl] at g1 hpre ⊢
                    simp [execOp, ho, resolve, hcal, invoke, Go.builtin, hca, Builtin.copy_, hts, hcv, run_underlying hu, hlen, run_sizeOf hsz, hpre, goInt, g1]
                · cases h
              · cases h
            · cases h
          · cases h
        · cases h
      · cases h
    · cases h
  · cases h
/-- Zeros, as a content like another. -/
def zeroBC (c : BC) (u : V) (sz len : Nat) : Option BC :=
  match c with
  | .cs _ _ => some (.cs sz (List.replicate len u))
  | .arr ty _ => match ty.ofV u with | some d => some (.arr ty (List.replicate len d)) | none => none
theorem zeroBC_ok {c y : BC} {u : V} {sz len : Nat} (h : zeroBC c u sz len = some y) (hc : c.sz = sz) (hu : u.cells.length = sz) (h1 : oneB [u] = true) : y.sz = sz ∧ y.len = len ∧ (∀ v ∈ y.els, v.cells.length = sz) ∧ (∀ v ∈ flat y.els, v.one = true) ∧ ∀ (G : Gh) (z : Value), Rels G u.cells z.cells.toList → VRel G u z →
    Rels G (flat y.els) ((Array.range (len * sz)).map (z.cells[· % z.cells.size]!)).toList := by
  unfold zeroBC at h
  split at h
  · cases h
    refine ⟨rfl, by simp [BC.len], fun v hv => by rw [List.eq_of_mem_replicate hv]; exact hu, fun v hv => ?_, fun G z hr _ => zeros_rel hr hu len⟩
    obtain ⟨x, hx, hv⟩ := List.mem_flatMap.1 hv
    rw [List.eq_of_mem_replicate hx] at hv
    exact oneB_flat h1 v (by simpa [flat] using hv)
  · rename_i ty l
    split at h
    · rename_i d hd
      cases h
      refine ⟨hc, by simp [BC.len], fun v hv => (map_size ty _ v hv).trans hc, map_one ty _, fun G z hr hv => ?_⟩
      have h2 := Ty.ofV_ok hd hv
      have h3 : (ty.val d).cells.length = sz := (map_size ty [d] _ (by simp)).trans hc
      have := zeros_rel (h2.cells (by cases ty <;> simp [Ty.val])) h3 len
      simpa [BC.els] using this
    · cases h
def clrX (P : Program) (ts : Array TypeId) (x : V) (nm : Nm) : Option Out :=
  match ts.toList with
  | [t] =>
    match P.underlying t with
    | some (.slice e) =>
      match P.info? e with
      | some i =>
        match i.zero with
        | some z =>
          if z.cells.size = i.size ∧ (ofVal z).notAny = true ∧ oneB [ofVal z] = true then
            match x with
            | .lst _ [] => some ⟨true, false, .any, .pure⟩
            | .bs sy n off len =>
              match nm[n]? with
              | some (some (.live c)) =>
                if c.sz = i.size then
                  match zeroBC c (ofVal z) i.size len with
                  | some y => match c.splice off len y with | some c' => some ⟨true, false, .any, { rn := [n], wn := [(n, .live c')] }⟩ | none => none
                  | none => none
                else none
              | _ => none
            | _ => none
          else none
        | none => none
      | none => none
    | _ => none
  | _ => none
theorem SemV.clrX {o : Oper} {cl : Call} {x : Operand} {out : Out} (ho : o.op = .call cl) (hcal : cl.callee = .builtin .clear) (ha : cl.args.toList = [x]) (h : clrX P cl.argTypes (σ.eval Γ x) σ.nm = some out) :
    SemV P Γ o σ out.v (out.eff.ob σ.ob) (out.eff.nm σ.nm) := by
  unfold Go.Proofs.Ytnjjkobijjdnbaa.clrX at h
  split at h
  · rename_i t hts
    have hts : cl.argTypes = #[t] := by apply Array.ext'; simpa using hts
    have hca : ∀ a : Act, cl.args.map a.eval = #[a.eval x] := fun a => by apply Array.ext'; simp [ha]
    split at h
    · rename_i e hu
      split at h
      · rename_i i hi
        split at h
        · rename_i z hz
          split at h
          · rename_i hzz
            obtain ⟨hzs, hna, hone⟩ := hzz
            split at h
            · rename_i tg hx
              cases h
              refine SemV.of_val fun G a w hr => ?_
              have hxx := hr.eval x
              rw [hx] at hxx
              obtain ⟨p, q, he⟩ := hxx.slice_form
              refine ⟨.tuple #[], w, G, ?_, .refl G, .any _, hr.wr⟩
              cases p <;> simp [execOp, ho, resolve, hcal, invoke, Go.builtin, hca, Builtin.clear_, hts, he, run_underlying hu]
            · rename_i sy n off len hx
              split at h
              · rename_i c hn
                split at h
                · rename_i hcz
                  split at h
                  · rename_i y hy
                    split at h
                    · rename_i c' hsp
                      cases h
                      refine SemV.of_val fun G a w hr => ?_
                      show ∃ cv w' G', _ ∧ _ ∧ _ ∧ WRel Γ G' σ.ob (σ.nm.set n (some (.live c'))) w'
                      have hxx := hr.eval x
                      rw [hx] at hxx
                      have hzr := (ofVal_rel G z).cells (V.notAny_ne hna)
                      have hul : (ofVal z).cells.length = i.size := by have := hzr.1; simp at this; omega
                      obtain ⟨y1, y2, y3, y4, y5⟩ := zeroBC_ok hy hcz hul hone
                      have hR := y5 G z hzr (ofVal_rel G z)
                      have hel : ∀ v ∈ c.els, v.cells.length = c.sz := by
                        cases hT : G.T n with
                        | some x' => exact (hr.wr.hnm n c x' hn hT).el
                        | none =>
                          have h0 := hr.wr.hno n c hn hT
                          have : c.els = [] := List.eq_nil_of_length_eq_zero (by rw [BC.els_len]; exact h0)
                          rw [this]; exact fun v hv => by cases hv
                      have hyy : y.els.take len = y.els := List.take_of_length_le (by rw [BC.els_len, y2]; exact Nat.le_refl _)
                      rcases hxx.bs_inv with ⟨rfl, hcv⟩ | ⟨x', hT, hol, hcv⟩
                      · have hput := BC.splice_ok hsp (y1.trans hcz.symm) hel (fun v hv => (y3 v hv).trans hcz.symm) (Nat.zero_le _) (.inl rfl)
                        refine ⟨.tuple #[], w, G, ?_, .refl G, .any _, hr.wr.same P hn hput⟩
                        rcases hcv with hcv | ⟨b', o', hcv⟩ <;>
                          simp [execOp, ho, resolve, hcal, invoke, Go.builtin, hca, Builtin.clear_, hts, hcv, run_underlying hu]
                      · have hBl := (hr.wr.hnm n c x' hn hT).len
                        have hput := BC.splice_ok hsp (y1.trans hcz.symm) hel (fun v hv => (y3 v hv).trans hcz.symm) (by omega) (.inr (by omega))
                        rw [hyy] at hput
                        obtain ⟨w', g1, g2⟩ := hr.wr.put (P := P) hn hT hput (by rw [BC.els_len, y2]) (fun v hv => (y3 v hv).trans hcz.symm) hR (one_of_rels hR y4) (by omega)
                        refine ⟨.tuple #[], ?_⟩
                        cases len with
                        | zero =>
                          refine ⟨w, G, ?_, .refl G, .any _, hr.wr.same P hn (by simpa [hyy, show y.els = [] from List.eq_nil_of_length_eq_zero (by rw [BC.els_len, y2])] using hput)⟩
                          simp [execOp, ho, resolve, hcal, invoke, Go.builtin, hca, Builtin.clear_, hts, hcv, run_underlying hu]
                        | succ len =>
                          refine ⟨w', G, ?_, .refl G, .any _, g2⟩
                          rw [← hzs] at g1
                          simp [execOp, ho, resolve, hcal, invoke, Go.builtin, hca, Builtin.clear_, hts, hcv, run_underlying hu, zeroValue, typeInfo, hi, hz, Builtin.zeroCells]
                          simp at g1
                          rw [g1]
                          rfl
                    · cases h
                  · cases h
                · cases h
              · cases h
            · cases h
          · cases h
        · cases h
      · cases h
    · cases h
  · cases h
end
end Go.Proofs.Ytnjjkobijjdnbaa
