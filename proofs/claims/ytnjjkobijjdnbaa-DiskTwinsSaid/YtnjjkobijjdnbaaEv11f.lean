/- Stores into buffers; new buffers of zeros. -/
import Derived.Test.YtnjjkobijjdnbaaEv11e
set_option linter.unusedVariables false
set_option linter.unusedSimpArgs false
namespace Go.Proofs.Ytnjjkobijjdnbaa
open Go

section
variable {P : Program} {Γ : Nat → Option V} {G : Gh} {ob : Ob} {nm : Nm} {w : World} {σ : St}
/-- A buffer's content exchanged, of the same length. -/
theorem WRel.setBuf {w' : World} (h : WRel Γ G ob nm w) {n : Nat} {c c' : BC} {x : Tail} (hn : nm[n]? = some (some (.live c))) (hT : G.T n = some x) {cv : Array Value} {E : TypeId} {fr : Nat × Nat} (rs : RowSet w w' x.b cv E fr)
    (hm : ∀ off z, G.M x.b off = some z → cv[off]? = some z) (B : BufOk G w' x c') : WRel Γ G ob (nm.set n (some (.live c'))) w' := by
  have hdd : ∀ l o, G.D l = some o → w'.heap[l]? = some o ∧ o.isCells = false ∧ G.w0.own l := by
    obtain ⟨cvs, E', fr', e1, _⟩ := (h.hnm n c x hn hT).row
    exact h.dset e1 rs.other
  have hlt : n < nm.length := append_room.get_lt'' hn
  have hself : (nm.set n (some (Bf.live c')))[n]? = some (some (.live c')) := by rw [List.getElem?_set_self hlt]
  have hoth : ∀ {m : Nat}, m ≠ n → (nm.set n (some (Bf.live c')))[m]? = nm[m]? := fun hm => List.getElem?_set_ne (Ne.symm hm)
  have hB := h.hnm n c x hn hT
  exact {
    m := fun b off z hz => by
      by_cases e : b = x.b
      · subst e; rw [cell_row rs.row]; exact hm off z hz
      · rw [cell_of_heap (w := w) (by exact rs.other b e)]; exact h.m _ _ _ hz
    hob := fun o cs b h1 h2 => by
      have e : b ≠ x.b := fun e => hB.obj o (by rw [← e]; exact h2)
      obtain ⟨q1, ⟨q2, q3, q4, q5, q6⟩, q7⟩ := h.hob o cs b h1 h2
      exact ⟨q1, ⟨q2, q3, q4, by rw [rs.other b e]; exact q5, q6⟩, q7⟩
    hlt := fun o b h1 => by rw [rs.size]; exact h.hlt o b h1
    habs := h.habs
    inj := h.inj
    hnm := fun m d y h1 h2 => by
      by_cases e : m = n
      · subst e
        rw [hself] at h1
        obtain rfl : c' = d := by simpa using h1
        rw [hT] at h2
        cases h2
        exact B
      · rw [hoth e] at h1
        have hy := h.hnm m d y h1 h2
        exact hy.to (rs.other _ (h.nmd m n d c y x e h1 hn h2 hT)) (fun _ _ h => h) (fun _ h => h) (fun _ h => h) hy.obj
    hno := fun m d h1 h2 => by
      by_cases e : m = n
      · subst e; rw [hT] at h2; cases h2
      · rw [hoth e] at h1; exact h.hno m d h1 h2
    nmd := fun m m' d d' y y' hne h1 h2 h3 h4 => by
      have back : ∀ {m : Nat} {d : BC}, (nm.set n (some (Bf.live c')))[m]? = some (some (.live d)) → ∃ d0, nm[m]? = some (some (.live d0)) := fun {m d} hh => by
        by_cases e : m = n
        · exact ⟨c, by rw [e]; exact hn⟩
        · exact ⟨d, by rw [← hoth e]; exact hh⟩
      obtain ⟨d0, g1⟩ := back h1
      obtain ⟨d1, g2⟩ := back h2
      exact h.nmd m m' d0 d1 y y' hne g1 g2 h3 h4
    tabs := fun m h1 => by
      by_cases e : m = n
      · subst e; rw [hself] at h1; simp at h1
      · rw [hoth e] at h1; exact h.tabs m h1
    tlt := fun m y h1 => by simpa using h.tlt m y h1
    dd := hdd
    kdle := by rw [rs.size]; exact h.kdle
    gl := h.gl
    mold := h.mold
    os := rs.os.trans h.os
    tape := rs.tape.trans h.tape
    output := rs.output.trans h.output
    size := by rw [rs.size]; exact h.size
    block := fun k hk => (rs.other k (W0.own_ne hB.old hk)).trans (h.block k hk) }
/-- The content with an element's cells exchanged. -/
def BC.setAt (c : BC) (i : Nat) (cs : List V) : Option BC :=
  match c with
  | .arr ty l => match ty.ofC cs with | some (x, []) => some (.arr ty (l.set i x)) | _ => none
  | .cs sz xs =>
    match xs[i]? with
    | some (.agg _) => some (.cs sz (xs.set i (.agg cs)))
    | some _ => match cs with | [z] => if z.isAggV then none else some (.cs sz (xs.set i z)) | _ => none
    | none => none
theorem BC.setAt_ok {c c' : BC} {i : Nat} {cs : List V} (h : c.setAt i cs = some c') (hi : i < c.len) (hl : cs.length = c.sz) : c'.sz = c.sz ∧ c'.len = c.len ∧ ∃ u, c'.els = c.els.set i u ∧ u.cells.length = c.sz ∧ ∀ (G : Gh) (cvs : List Value), Rels G cs cvs → Rels G u.cells cvs := by
  cases c with
  | arr ty l =>
    simp only [BC.setAt] at h
    split at h
    · rename_i x hx
      cases h
      obtain ⟨h1, h2⟩ := Ty.ofC_ok ty _ _ _ hx
      refine ⟨rfl, by simp [BC.len], ty.val x, by simp [BC.els, List.map_set], Ty.val_len ty x, fun G cvs hr => ?_⟩
      rw [Ty.val_cells]
      have := h2 G cvs hr
      rwa [List.append_nil] at this
    · cases h
  | cs sz xs =>
    simp only [BC.setAt] at h
    split at h
    · cases h
      exact ⟨rfl, by simp [BC.len], .agg cs, rfl, hl, fun G cvs hr => hr⟩
    · split at h
      · rename_i z
        split at h
        · cases h
        · rename_i hz
          cases h
          have hz1 : z.cells = [z] := by cases z <;> first | rfl | (simp [V.isAggV] at hz)
          exact ⟨rfl, by simp [BC.len], z, rfl, by rw [hz1]; exact hl, fun G cvs hr => by rw [hz1]; exact hr⟩
      · cases h
    · cases h
theorem splice_lists {α : Type} {L V : List α} {lo e s off t N : Nat} (hV : V.length = t) (h1 : off + t ≤ s) (h2 : e + s ≤ N) (h3 : lo + N ≤ L.length) :
    ((L.take (lo + e + off) ++ V ++ L.drop (lo + e + off + t)).drop lo).take N = ((L.drop lo).take N).take e ++ (((L.drop (lo + e)).take s).take off ++ V ++ ((L.drop (lo + e)).take s).drop (off + t)) ++ ((L.drop lo).take N).drop (e + s) := by
  apply List.ext_getElem?
  intro j
  have m1 : min (lo + e + off) L.length = lo + e + off := by omega
  have m2 : min e (min N (L.length - lo)) = e := by omega
  have m3 : min off (min s (L.length - (lo + e))) = off := by omega
  have m4 : min s (L.length - (lo + e)) = s := by omega
  simp only [List.getElem?_take, List.getElem?_drop, List.getElem?_append, List.length_append, List.length_take, List.length_drop, hV, m1, m2, m3, m4]
  repeat' split
  all_goals first
    | omega
    | rfl
    | (congr 1; omega)
theorem SemV.store_bp {o : Oper} {T : TypeId} {p y : Operand} {sz n i off : Nat} {c c' : BC} {s : Bool} {cs : List V} (ho : o.op = .store T p y) (hs : tySize P T = some sz) (hp : σ.eval Γ p = .bp n i off) (hn : σ.nm[n]? = some (some (.live c)))
    (hc : c.at i = some (true, s, cs)) (h1 : (σ.eval Γ y).allOne = true) (h2 : (σ.eval Γ y).cells.length = sz) (h3 : off + sz ≤ cs.length) (hset : c.setAt i (cs.take off ++ (σ.eval Γ y).cells ++ cs.drop (off + sz)) = some c') :
    SemV P Γ o σ (.tup []) σ.ob (σ.nm.set n (some (.live c'))) := by
  intro ro G a w K Q hr hk
  have hpp := hr.eval p
  rw [hp] at hpp
  obtain ⟨x, cvs, E, fr, hT, he, B, e1, e2, e3, hcl, hil, e4, e5⟩ := hpp.bp_at hr.wr hn hc
  have hy := (hr.eval y).cells (V.ne_any h1)
  have hyl : (a.eval y).cells.size = sz := by have := hy.1; simp at this; omega
  have hBl := B.len
  have hcapx := B.cap
  have hle : i * x.sz + x.sz ≤ x.cap * x.sz := by rw [← Nat.succ_mul]; exact Nat.mul_le_mul_right _ (by omega)
  obtain ⟨w', g1, g2⟩ := run_storeCells_row (P := P) (b := x.b) (off := x.lo + (i * x.sz + off)) (a.eval y).cells.toList 0 cvs w e1 e2 (by simp [hyl]; omega) ((hr.eval y).cells_one h1)
  refine ⟨fun _ _ => trivial, ?_⟩
  have hrun : (execOp a.eval o).run P w = .ok .skip w' := by
    have hsv : (storeVar T ⟨x.b, x.lo + (i * x.sz + off), none⟩ (a.eval y)).run P w = .ok () w' := by
      simp only [storeVar, Sem.run_bind, run_sizeOf hs, Result.andThen_ok, hyl, ne_eq, not_true_eq_false, ↓reduceIte]
      exact g1
    simp [execOp, ho, Instr.storeAt, he, Instr.sureAddr, hsv]
  rw [semAt_skip hrun]
  refine hk G _ w' (.refl G) (VRel.undef G) ?_
  simp only [Nat.add_zero, Array.length_toList, hyl] at g2
  generalize hq : x.lo + (i * x.sz + off) = q at g2
  have hcs : cs.length = c.sz := hcl.trans B.sz
  obtain ⟨s1, s2, u, s3, s4, s5⟩ := BC.setAt_ok hset (by omega) (by simp [h2]; omega)
  have hrow : (cvs.toList.take q ++ (a.eval y).cells.toList ++ cvs.toList.drop (q + sz)).toArray.size = cvs.size := by simp [hyl]; omega
  refine hr.wr.setBuf hn hT g2 (fun o z hz => ?_) ?_
  · have hz0 := hr.wr.m _ _ _ hz
    rw [cell_row e1] at hz0
    have hout : o < q ∨ q + sz ≤ o := by
      rcases Nat.lt_or_ge o q with h' | h'
      · exact .inl h'
      · rcases Nat.lt_or_ge o (q + sz) with h' | h'
        · rw [B.free o (by omega) (by omega)] at hz; cases hz
        · exact .inr h'
    have hz1 : cvs.toList[o]? = some z := by simpa using hz0
    have hos : o < cvs.size := by
      rcases Nat.lt_or_ge o cvs.size with h' | h'
      · exact h'
      · rw [Array.getElem?_eq_none h'] at hz0; cases hz0
    simp only [List.getElem?_toArray, List.append_assoc]
    rcases hout with ho' | ho'
    · rw [List.getElem?_append_left (by simp; omega), List.getElem?_take, if_pos ho']
      exact hz1
    · rw [List.getElem?_append_right (by simp; omega), List.getElem?_append_right (by simp [hyl]; omega), List.getElem?_drop]
      have : q + sz + (o - (cvs.toList.take q).length - (a.eval y).cells.toList.length) = o := by simp [hyl]; omega
      rw [this]
      exact hz1
  · have hel : ∀ v ∈ c.els, v.cells.length = x.sz := fun v hv => (B.el v hv).trans B.sz.symm
    have hflen := flat_length hel
    have hels : c.els.length = x.len := by rw [BC.els_len]; exact hBl
    have hi' : i < c.els.length := by omega
    have hel' : ∀ v ∈ c'.els, v.cells.length = x.sz := fun v hv => by
      rw [s3] at hv
      rcases List.mem_or_eq_of_mem_set hv with hv | rfl
      · exact hel v hv
      · exact s4.trans B.sz.symm
    have hfs : flat c'.els = splice (flat c.els) (i * x.sz) u.cells := by rw [s3]; exact flat_set hel (s4.trans B.sz.symm) i hi'
    have hul : u.cells.length = x.sz := s4.trans B.sz.symm
    have hL : (flat c'.els).length = (flat c.els).length := by
      rw [flat_length hel', flat_length hel, s3, List.length_set]
    have hiL : i * x.sz + x.sz ≤ (flat c.els).length := by rw [hflen, ← Nat.succ_mul]; exact Nat.mul_le_mul_right _ hi'
    -- the element's new cells
    have hrc : Rels G u.cells (((cvs.toList.drop (x.lo + i * x.sz)).take cs.length).take off ++ (a.eval y).cells.toList ++ ((cvs.toList.drop (x.lo + i * x.sz)).take cs.length).drop (off + sz)) :=
      s5 G _ (((e5.take off).append hy).append (e5.drop (off + sz)))
    have hA := e4.take (i * x.sz)
    have hC := e4.drop (i * x.sz + x.sz)
    have hbig := (hA.append hrc).append hC
    refine ⟨B.old, ⟨_, E, fr, g2.row, by rw [hrow]; exact e2, by rw [hrow]; exact e3, ?_⟩, B.sz.trans s1.symm, fun v hv => (hel' v hv).trans (B.sz.trans s1.symm), s2.trans hBl, hcapx, B.free, B.obj⟩
    have hlist : (((cvs.toList.take q ++ (a.eval y).cells.toList ++ cvs.toList.drop (q + sz)).toArray.toList.drop x.lo).take (flat c'.els).length) =
        ((cvs.toList.drop x.lo).take (flat c.els).length).take (i * x.sz) ++ (((cvs.toList.drop (x.lo + i * x.sz)).take cs.length).take off ++ (a.eval y).cells.toList ++ ((cvs.toList.drop (x.lo + i * x.sz)).take cs.length).drop (off + sz)) ++ ((cvs.toList.drop x.lo).take (flat c.els).length).drop (i * x.sz + x.sz) := by
      have hfl2 : (flat c.els).length ≤ x.cap * x.sz := by rw [hflen, hels]; exact Nat.mul_le_mul_right _ hcapx
      rw [hL]
      have hqe : q = x.lo + i * x.sz + off := by omega
      rw [hqe, hcl]
      exact splice_lists (hyl ▸ Array.length_toList ..) (by omega) hiL (by simp; omega)
    rw [hlist, hfs]
    simp only [splice, hul]
    exact hbig
/-- The shape of a program's type. -/
def tyOf (P : Program) : Nat → TypeId → Option Ty
  | 0, _ => none
  | k + 1, T =>
    match P.underlying T with
    | some .bool => some .bool
    | some (.int q) => some (.int q)
    | some .string => some .str
    | some (.slice e) => match tyOf P k e with | some t => some (.slice t) | none => none
    | some (.struct fs) => match optMap (fun f : Field => tyOf P k f.type) fs.toList with | some ts => some (.agg ts) | none => none
    | some (.array n e) => match tyOf P k e with | some t => some (.agg (List.replicate n t)) | none => none
    | _ => none
theorem SemV.makeSlice {o : Oper} {T e : TypeId} {x y : Operand} {i : TypeInfo} {z : Value} {s : Nat} {k k' : IntKind} {l c : Int} {s1 s2 : Bool} {u : V} {c' : BC} (ho : o.op = .makeSlice T x y) (ht : P.underlying T = some (.slice e)) (hi : P.info? e = some i) (hz : i.zero = some z) (hzs : z.cells.size = i.size)
    (hx : (σ.eval Γ x).int? = some (k, l, s1)) (hy : (σ.eval Γ y).int? = some (k', c, s2)) (h0 : 0 ≤ l) (hlc : l ≤ c) (hb : (i.bytes : Int) * c ≤ 281474976710656) (h63 : c ≤ 9223372036854775807) (hs : σ.nm[s]? = some none)
    (hu : ∀ G, Rels G u.cells z.cells.toList) (hels : c'.els = List.replicate l.toNat u) (hsz : c'.sz = i.size) (sy : Bool) : SemV P Γ o σ (.bs sy s 0 l.toNat) σ.ob (σ.nm.set s (some (.live c'))) :=
  SemV.of_val fun G a w hr => by
    have hxi := int?_eq hx (hr.eval x)
    have hyi := int?_eq hy (hr.eval y)
    have hrun := run_make (P := P) w T e i z ht hi hz k k' l c h0 hlc hb h63
    have hk := hr.wr.alloc (.cells (madeCells z.cells (c.toNat * i.size)) e)
    have hul : u.cells.length = i.size := by have := (hu G).1; simp at this; omega
    have hall := zeros_rel (n := c.toNat) (hu G) hul
    have hmc : (madeCells z.cells (c.toNat * i.size)) = (Array.range (c.toNat * i.size)).map (z.cells[· % z.cells.size]!) := rfl
    rw [← hmc] at hall
    have hfl : (flat (List.replicate l.toNat u)).length = l.toNat * i.size := by
      rw [flat_length (sz := i.size) (fun v hv => by rw [List.eq_of_mem_replicate hv, hul])]; simp
    have hsub : Rels G (flat (List.replicate l.toNat u)) ((madeCells z.cells (c.toNat * i.size)).toList.take (l.toNat * i.size)) := by
      have e1 : flat (List.replicate c.toNat u) = flat (List.replicate l.toNat u) ++ flat (List.replicate (c.toNat - l.toNat) u) := by
        rw [← flat_append, List.replicate_append_replicate]; congr 2; omega
      rw [e1] at hall
      have := hall.split.1
      rw [hfl] at this
      exact this
    have B : BufOk G (w.alloc (.cells (madeCells z.cells (c.toNat * i.size)) e)) ⟨w.heap.size, 0, i.size, l.toNat, c.toNat⟩ c' := {
      old := .inl hr.wr.size
      row := by
        refine ⟨_, e, (0, 0), heap_alloc_self w _, .inl rfl, by simp [madeCells], ?_⟩
        rw [hels, hfl]
        show Rels G _ (((madeCells z.cells (c.toNat * i.size)).toList.drop 0).take (l.toNat * i.size))
        rw [List.drop_zero]
        exact hsub
      sz := hsz.symm
      el := fun v hv => by
        rw [hels] at hv
        rw [List.eq_of_mem_replicate hv, hul, hsz]
      len := by rw [← BC.els_len, hels]; simp
      cap := by show l.toNat ≤ c.toNat; omega
      free := fun off _ _ => hr.wr.mnew off
      obj := fun o ho => by have := (hr.wr.hlt o _ ho).2; simp at this }
    obtain ⟨hle, hw'⟩ := hk.newBuf hs B (fun n c1 x1 h1 h2 => by
      have := (hr.wr.hnm n c1 x1 h1 h2).lt
      simp only [ne_eq]
      omega)
    refine ⟨.slice (some ⟨w.heap.size, 0, none⟩) l.toNat c.toNat, _, _, by simp [execOp, ho, hxi, hyi, hrun], hle, ?_, hw'⟩
    have := VRel.bs (sy := sy) (off := 0) (len := l.toNat) (addT_new G s ⟨w.heap.size, 0, i.size, l.toNat, c.toNat⟩) (by simp)
    simpa using this
/-- make, reckoned. -/
def makX (P : Program) (T : TypeId) (x y : V) (s : Nat) : Option Out :=
  match P.underlying T with
  | some (.slice e) =>
    match P.info? e with
    | some i =>
      match i.zero with
      | some z =>
        if z.cells.size = i.size then
          match x.int?, y.int? with
          | some (_, l, s1), some (_, c, s2) =>
            match s1 with
            | false =>
              if (ofVal z).notAny then some ⟨decide (0 ≤ l ∧ l ≤ c ∧ (i.bytes : Int) * c ≤ 281474976710656 ∧ c ≤ 9223372036854775807), s2, .bs false s 0 l.toNat, { wn := [(s, .live (.cs i.size (List.replicate l.toNat (ofVal z))))] }⟩ else none
            | true =>
              match tyOf P 10 e with
              | some ty =>
                match ty.ofV (ofVal z) with
                | some d => if ty.size = i.size then some ⟨decide (0 ≤ l ∧ l ≤ c ∧ (i.bytes : Int) * c ≤ 281474976710656 ∧ c ≤ 9223372036854775807), true, .bs true s 0 l.toNat, { wn := [(s, .live (.arr ty (List.replicate l.toNat d)))] }⟩ else none
                | none => none
              | none => none
          | _, _ => none
        else none
      | none => none
    | none => none
  | _ => none
theorem SemV.makX {o : Oper} {T : TypeId} {x y : Operand} {s : Nat} {out : Out} (ho : o.op = .makeSlice T x y) (h : makX P T (σ.eval Γ x) (σ.eval Γ y) s = some out) (hchk : out.chk = true) (hs : σ.nm[s]? = some none) : SemV P Γ o σ out.v (out.eff.ob σ.ob) (out.eff.nm σ.nm) := by
  unfold Go.Proofs.Ytnjjkobijjdnbaa.makX at h
  split at h
  · rename_i e hu
    split at h
    · rename_i i hi
      split at h
      · rename_i z hz
        split at h
        · rename_i hzs
          split at h
          · rename_i k l s1 k' c s2 hx hy
            split at h
            · split at h
              · rename_i hn
                cases h
                have hd := of_decide_eq_true hchk
                exact SemV.makeSlice (u := ofVal z) ho hu hi hz hzs hx hy hd.1 hd.2.1 hd.2.2.1 hd.2.2.2 hs (fun G => (ofVal_rel G z).cells (V.notAny_ne hn)) rfl rfl false
              · cases h
            · split at h
              · rename_i ty hty
                split at h
                · rename_i d hdv
                  split at h
                  · rename_i hsz
                    cases h
                    have hd := of_decide_eq_true hchk
                    exact SemV.makeSlice (u := ty.val d) (c' := .arr ty (List.replicate l.toNat d)) ho hu hi hz hzs hx hy hd.1 hd.2.1 hd.2.2.1 hd.2.2.2 hs (fun G => (Ty.ofV_ok hdv (ofVal_rel G z)).cells (by cases ty <;> simp [Ty.val])) (by simp [BC.els]) hsz true
                  · cases h
                · cases h
              · cases h
          · cases h
        · cases h
      · cases h
    · cases h
  · cases h
/-- A store into a buffer, reckoned. -/
def stoX (P : Program) (T : TypeId) (p v : V) (nm : Nm) : Option Out :=
  match tySize P T with
  | some sz =>
    match p with
    | .bp n i off =>
      match nm[n]? with
      | some (some (.live c)) =>
        match c.at i with
        | some (b, s, cs) =>
          if v.allOne = true ∧ v.cells.length = sz ∧ off + sz ≤ cs.length then
            match c.setAt i (cs.take off ++ v.cells ++ cs.drop (off + sz)) with
            | some c' => some ⟨b, s, .tup [], { rn := [n], wn := [(n, .live c')] }⟩
            | none => none
          else none
        | none => none
      | _ => none
    | _ => none
  | none => none
theorem SemV.stoX {o : Oper} {T : TypeId} {p y : Operand} {out : Out} (ho : o.op = .store T p y) (h : stoX P T (σ.eval Γ p) (σ.eval Γ y) σ.nm = some out) (hchk : out.chk = true) : SemV P Γ o σ out.v (out.eff.ob σ.ob) (out.eff.nm σ.nm) := by
  unfold Go.Proofs.Ytnjjkobijjdnbaa.stoX at h
  split at h
  · rename_i sz hsz
    split at h
    · rename_i n i off hp
      split at h
      · rename_i c hn
        split at h
        · rename_i b s cs hat
          split at h
          · rename_i hc
            split at h
            · rename_i c' hset
              cases h
              have hchk : b = true := hchk
              subst hchk
              exact SemV.store_bp ho hsz hp hn hat hc.1 hc.2.1 hc.2.2 hset
            · cases h
          · cases h
        · cases h
      · cases h
    · cases h
  · cases h
end
end Go.Proofs.Ytnjjkobijjdnbaa
