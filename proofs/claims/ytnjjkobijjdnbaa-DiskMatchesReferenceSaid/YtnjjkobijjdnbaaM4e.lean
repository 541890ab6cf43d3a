/- Parts of the library of texts, one after the other: Ev11g, Ev11h, Ev12, Ev13, Ev13a, Ev14, Ev15, Ev15a, Ev15b, Ev16, Ev17. -/
import Derived.Test.YtnjjkobijjdnbaaM4d
import Derived.Laws.BytesArg
/- Conversions; a string's bytes. -/
set_option linter.unusedVariables false
set_option linter.unusedSimpArgs false
namespace Go.Proofs.Ytnjjkobijjdnbaa
open Go

section
variable {P : Program} {Γ : Nat → Option V} {G : Gh} {ob : Ob} {nm : Nm} {w : World} {σ : St}
theorem SemV.conv_int {o : Oper} {S D : TypeId} {x : Operand} {d : TypeDesc} {k k' : IntKind} {n : Int} {s : Bool} (ho : o.op = .convert S D x) (hs : P.underlying S = some d) (hd : P.underlying D = some (.int k')) (hx : (σ.eval Γ x).int? = some (k, n, s)) :
    SemV P Γ o σ (mkI s k' (k'.wrap n)) σ.ob σ.nm :=
  SemV.of_pure fun G a w hr => by
    have hxi := int?_eq hx (hr.eval x)
    refine ⟨.int k' (k'.wrap n), ?_, mkI_rel _ _ _ _⟩
    cases d <;> simp [execOp, ho, hxi, convert, run_underlying hs, run_underlying hd, Conv.intToInt]
theorem SemV.conv_str {o : Oper} {S D : TypeId} {x : Operand} {s : ByteArray} {b : Bool} (ho : o.op = .convert S D x) (hs : P.underlying S = some .string) (hd : P.underlying D = some .string) (hx : (σ.eval Γ x).str? = some (s, b)) : SemV P Γ o σ (mkS b s) σ.ob σ.nm :=
  SemV.of_pure fun G a w hr => by
    have hxi := str?_eq hx (hr.eval x)
    exact ⟨.string s, by simp [execOp, ho, hxi, convert, run_underlying hs, run_underlying hd], mkS_rel _ _ _⟩
theorem rels_u8 {k : IntKind} : ∀ {l : List Int} {cvs : List Value}, Rels G (l.map (V.si k)) cvs → cvs = l.map (Value.int k)
  | [], cvs, h => List.length_eq_zero_iff.1 h.1
  | n :: l, cvs, h => by
    match cvs, h.1 with
    | c :: cs, _ =>
      have h0 := h.2 0 _ c rfl rfl
      cases h0
      rw [List.map_cons, rels_u8 (l := l) (cvs := cs) (by simpa using h.drop 1)]
theorem Ys.bytes {tx e : TypeId} {cy : Value} {l : List Int} (hk : P.underlying tx = some (.slice e)) (h : Ys P G w 1 tx cy (l.map (V.si .u8))) (hsl : ∃ a n c, cy = .slice a n c) : (Conv.bytesToString cy).run P w = .ok (.string (strOfNums l)) w := by
  obtain ⟨news, hs, hr⟩ := h.src
  rw [flat_si] at hr
  have hn := rels_u8 hr
  subst hn
  obtain ⟨a, n, c, rfl⟩ := hsl
  have hlen := hs.len w
  have hcells := hs.cells
  simp only [List.length_map] at hlen hcells
  have hn : n = l.length := by simpa [Builtin.lenOf] using hlen
  subst hn
  cases a with
  | none =>
    have : l = [] := by
      have e1 : (#[] : Array Value) = (l.map (Value.int .u8)).toArray := by simpa [Builtin.firstCells] using hcells
      have := congrArg Array.size e1
      simp at this
      exact List.length_eq_zero_iff.1 this.symm
    subst this
    simp [Conv.bytesToString, strOfNums]
    rfl
  | some a =>
    have hl : (loadCells a l.length).run P w = .ok (l.map (Value.int .u8)).toArray w := by simpa [Builtin.firstCells] using hcells
    rw [run_bytesToString w a l.length c l hl, foldl_push_bytes]
    simp [strOfNums, ByteArray.empty, ByteArray.emptyWithCapacity]
    rfl
/-- Bytes that are known, or not. -/
def BC.bytes (c : BC) : Option (List Int) :=
  match c with
  | .arr ty l => listAs (.int .u8) l
  | .cs _ xs => optMap (whole (Ty.ofC (.int .u8))) xs
theorem SemV.conv_bytes {o : Oper} {S D e : TypeId} {x : Operand} {b : BC} {rn : List Nat} {l : List Int} (ho : o.op = .convert S D x) (hs : P.underlying S = some (.slice e)) (he : P.underlying e = some (.int .u8)) (hd : P.underlying D = some .string)
    (hx : ysE P 1 S (σ.eval Γ x) σ.nm = some (b, rn)) (hb : b.bytes = some l) (hstr : (σ.eval Γ x).str? = none) (sy : Bool) : SemV P Γ o σ (mkS sy (strOfNums l)) σ.ob σ.nm :=
  SemV.of_pure fun G a w hr => by
    obtain ⟨hz, hY⟩ := ysE_ok hx
    have hy := hY G a w hr
    have hy2 : Ys P G w 1 S (a.eval x) (l.map (V.si .u8)) := by
      cases b with
      | arr ty l0 =>
        have e := listAs_eq hb
        have : (l.map (V.si .u8)) = l0.map ty.val := e
        rw [this]
        exact hy
      | cs sz xs => exact hy.conv (ty := .int .u8) rfl hb
    have hsl : ∃ p n c, a.eval x = .slice p n c := by
      have hrx := hr.eval x
      unfold ysE at hx
      rw [hstr] at hx
      simp only [] at hx
      split at hx
      · generalize σ.eval Γ x = v at hx hrx
        generalize a.eval x = cv at hrx
        cases v <;> simp at hx
        · obtain ⟨p, c, h⟩ := hrx.slice_form; exact ⟨_, _, _, h⟩
        · cases hrx with | slst q => obtain ⟨p, c, h⟩ := q.slice_form; exact ⟨_, _, _, h⟩
        · cases hrx <;> exact ⟨_, _, _, rfl⟩
      · cases hx
    have hrun := hy2.bytes hs hsl
    obtain ⟨p, n, c, hc⟩ := hsl
    rw [hc] at hrun
    refine ⟨.string (strOfNums l), ?_, mkS_rel _ _ _⟩
    have := run_convert_bytes_string (P := P) w S D e p n c hs he hd
    simp [execOp, ho, hc, this, hrun]
/-- A byte of a string. -/
def byteAt (s : ByteArray) (i : Nat) : Int := ((s.data.getD i 0).toNat : Nat)
theorem SemV.index_strX {o : Oper} {T : TypeId} {x y : Operand} {k : IntKind} {i : Int} {s : ByteArray} {b b' : Bool} (ho : o.op = .index T x y) (ht : P.underlying T = some .string) (hx : (σ.eval Γ x).str? = some (s, b)) (hy : (σ.eval Γ y).int? = some (k, i, b')) (hi : 0 ≤ i ∧ i < (s.size : Int)) :
    SemV P Γ o σ (mkI (b || b') .u8 (byteAt s i.toNat)) σ.ob σ.nm :=
  SemV.of_pure fun G a w hr => by
    have hxs := str?_eq hx (hr.eval x)
    have hyi := int?_eq hy (hr.eval y)
    refine ⟨.int .u8 (byteAt s i.toNat), ?_, mkI_rel _ _ _ _⟩
    have h2 : i.toNat < s.size := by omega
    have hrun := run_index_string (P := P) w T s k i ht
    rw [dif_pos hi] at hrun
    have e : (s[i.toNat]'h2).toNat = (s.data.getD i.toNat 0).toNat := by
      have h3 : i.toNat < s.data.size := h2
      have h4 : s.data.getD i.toNat 0 = s.data[i.toNat] := by unfold Array.getD; rw [dif_pos h3]; rfl
      rw [h4]
      rfl
    rw [e] at hrun
    simp [execOp, ho, hxs, hyi, hrun, byteAt]
/-- A conversion, reckoned. -/
def allKnown : BC → Bool
  | .arr _ _ => false
  | .cs _ xs => xs.all fun v => match v with | .i _ _ => true | _ => false
def cnvX (P : Program) (S D : TypeId) (x : V) (nm : Nm) : Option Out :=
  match P.underlying S, P.underlying D with
  | some sd, some (.int k') => match x.int? with | some (_, n, s) => outP (mkI s k' (k'.wrap n)) | none => none
  | some .string, some .string => match x.str? with | some (s, b) => outP (mkS b s) | none => none
  | some (.slice e), some .string =>
    match P.underlying e with
    | some (.int .u8) =>
      match x.str? with
      | some _ => none
      | none =>
        match ysE P 1 S x nm with
        | some (b, rn) => match b.bytes with | some l => some ⟨true, false, mkS (!allKnown b) (strOfNums l), .rds [] rn⟩ | none => none
        | none => none
    | _ => none
  | _, _ => none
theorem SemV.cnvX {o : Oper} {S D : TypeId} {x : Operand} {out : Out} (ho : o.op = .convert S D x) (h : cnvX P S D (σ.eval Γ x) σ.nm = some out) : SemV P Γ o σ out.v (out.eff.ob σ.ob) (out.eff.nm σ.nm) := by
  unfold Go.Proofs.Ytnjjkobijjdnbaa.cnvX at h
  split at h
  · rename_i sd k' hs hd
    split at h
    · rename_i k n s hx
      cases h
      exact SemV.conv_int ho hs hd hx
    · cases h
  · rename_i hs hd
    split at h
    · rename_i s b hx
      cases h
      exact SemV.conv_str ho hs hd hx
    · cases h
  · rename_i e hs hd
    split at h
    · rename_i he
      split at h
      · cases h
      · rename_i hstr
        split at h
        · rename_i b rn hy
          split at h
          · rename_i l hb
            cases h
            exact SemV.conv_bytes ho hs he hd hy hb hstr _
          · cases h
        · cases h
    · cases h
  · cases h
def idxS (P : Program) (T : TypeId) (x y : V) : Option Out :=
  match P.underlying T with
  | some .string =>
    match x.str?, y.int? with
    | some (s, b), some (_, i, b') => some ⟨decide (0 ≤ i ∧ i < (s.size : Int)), b || b', mkI (b || b') .u8 (byteAt s i.toNat), .pure⟩
    | _, _ => none
  | _ => none
theorem SemV.idxS {o : Oper} {T : TypeId} {x y : Operand} {out : Out} (ho : o.op = .index T x y) (h : idxS P T (σ.eval Γ x) (σ.eval Γ y) = some out) (hchk : out.chk = true) : SemV P Γ o σ out.v (out.eff.ob σ.ob) (out.eff.nm σ.nm) := by
  unfold Go.Proofs.Ytnjjkobijjdnbaa.idxS at h
  split at h
  · rename_i ht
    split at h
    · rename_i s b k i b' hx hy
      cases h
      exact SemV.index_strX ho ht hx hy (of_decide_eq_true hchk)
    · cases h
  · cases h
end
end Go.Proofs.Ytnjjkobijjdnbaa

/- copy and clear over buffers. -/
set_option linter.unusedVariables false
set_option linter.unusedSimpArgs false
namespace Go.Proofs.Ytnjjkobijjdnbaa
open Go

section
variable {P : Program} {Γ : Nat → Option V} {G : Gh} {ob : Ob} {nm : Nm} {w : World} {σ : St}
theorem run_load_inv {a : Addr} {v : Value} {w w' : World} (h : (load a).run P w = .ok v w') : w' = w := by
  simp only [load, Sem.run] at h
  split at h
  · cases h; rfl
  · split at h
    · cases h; rfl
    · cases h
theorem loadCellsFrom_inv {a : Addr} : ∀ (n i : Nat) (acc r : Array Value) (w w' : World), (loadCellsFrom a i n acc).run P w = .ok r w' → w' = w ∧ r.size = acc.size + n ∧ acc.toList = r.toList.take acc.size
  | 0, i, acc, r, w, w', h => by
    simp only [loadCellsFrom, Sem.run_pure, Result.ok.injEq] at h
    obtain ⟨rfl, rfl⟩ := h
    exact ⟨rfl, rfl, by rw [List.take_of_length_le (by simp)]⟩
  | n + 1, i, acc, r, w, w', h => by
    simp only [loadCellsFrom, Sem.run_bind] at h
    cases hl : (load (a.add i)).run P w with
    | ok v w1 =>
      rw [hl, Result.andThen_ok] at h
      obtain rfl := run_load_inv hl
      obtain ⟨g1, g2, g3⟩ := loadCellsFrom_inv n (i + 1) (acc.push v) r w1 w' h
      simp only [Array.size_push] at g2 g3
      refine ⟨g1, by omega, ?_⟩
      have := congrArg (List.take acc.size) g3
      rw [List.take_take, Nat.min_eq_left (by omega)] at this
      rw [← this]
      simp
    | _ => rw [hl] at h; simp [Result.andThen] at h
theorem loadCellsFrom_pre {a : Addr} : ∀ (m k i : Nat) (acc r : Array Value) (w w' : World), (loadCellsFrom a i (m + k) acc).run P w = .ok r w' → (loadCellsFrom a i m acc).run P w = .ok (r.toList.take (acc.size + m)).toArray w
  | 0, k, i, acc, r, w, w', h => by
    rw [Nat.zero_add] at h
    obtain ⟨_, _, g3⟩ := loadCellsFrom_inv k i acc r w w' h
    rw [Nat.add_zero, ← g3]
    simp [loadCellsFrom]
  | m + 1, k, i, acc, r, w, w', h => by
    rw [show m + 1 + k = (m + k) + 1 by omega] at h
    simp only [loadCellsFrom, Sem.run_bind] at h ⊢
    cases hl : (load (a.add i)).run P w with
    | ok v w1 =>
      rw [hl, Result.andThen_ok] at h
      rw [Result.andThen_ok]
      obtain rfl := run_load_inv hl
      have := loadCellsFrom_pre m k (i + 1) (acc.push v) r w1 w' h
      rw [Array.size_push, show acc.size + 1 + m = acc.size + (m + 1) by omega] at this
      exact this
    | _ => rw [hl] at h; simp [Result.andThen] at h
/-- Fewer elements than there are. -/
theorem src_pre {size : Nat} {tx : TypeId} {x : Value} {n : Nat} {news : List Value} (h : Src P size tx x n news w) {k : Nat} (hk : k ≤ n) : (Builtin.firstCells size k x).run P w = .ok (news.take (k * size)).toArray w := by
  have hc := h.cells
  have hl := h.len w
  have hkn : k * size ≤ n * size := Nat.mul_le_mul_right _ hk
  have hnl := h.newsLen
  cases x with
  | slice a m c =>
    cases a with
    | none =>
      simp only [Builtin.firstCells, Sem.run_pure, Result.ok.injEq] at hc
      have : news = [] := by have := congrArg Array.toList hc.1; simpa using this.symm
      simp [Builtin.firstCells, this]
    | some a =>
      simp only [Builtin.firstCells, loadCells] at hc ⊢
      rw [show n * size = k * size + (n * size - k * size) by omega] at hc
      have := loadCellsFrom_pre _ _ _ _ _ _ _ hc
      simpa using this
  | string s =>
    simp only [Builtin.lenOf, Sem.run_pure, Result.ok.injEq] at hl
    obtain ⟨rfl, _⟩ := hl
    simp only [Builtin.firstCells, Sem.run_pure, Result.ok.injEq] at hc
    have hn := congrArg Array.toList hc.1
    have hs : (s.extract 0 s.size).data.size = s.size := by simp
    have hlen := congrArg List.length hn
    simp only [Array.length_toList, Array.size_map] at hlen
    have hsz : s.size = s.size * size := by
      have e1 : (s.extract 0 s.size).data.size = s.size := by simp
      have e2 : news.toArray.size = s.size * size := by simpa using hnl
      omega
    simp only [Builtin.firstCells, Sem.run_pure, Result.ok.injEq, and_true]
    apply Array.ext'
    rw [← (by simpa using hn : ((s.extract 0 s.size).data.map fun b => Value.int .u8 b.toNat).toList = news)]
    simp only [Array.toList_map, List.toList_toArray]
    rw [← List.map_take]
    congr 1
    rcases Nat.eq_zero_or_pos s.size with h0 | h0
    · have hk0 : k = 0 := by omega
      subst hk0
      simp
    · have h1 : size = 1 := by
        rcases Nat.lt_or_ge size 1 with h' | h'
        · have : size = 0 := by omega
          rw [this] at hsz; omega
        · rcases Nat.lt_or_ge 1 size with h2 | h2
          · have : s.size * 2 ≤ s.size * size := Nat.mul_le_mul_left _ h2
            omega
          · omega
      rw [h1, Nat.mul_one]
      simp [ByteArray.data_extract, Array.toList_extract, List.extract]
  | _ => simp [Builtin.lenOf] at hl

theorem put_lists {α : Type} {L V : List α} {lo e t N : Nat} (hV : V.length = t) (h2 : e + t ≤ N) (h3 : lo + N ≤ L.length) :
    ((L.take (lo + e) ++ V ++ L.drop (lo + e + t)).drop lo).take N = ((L.drop lo).take N).take e ++ V ++ ((L.drop lo).take N).drop (e + t) := by
  apply List.ext_getElem?
  intro j
  have m1 : min (lo + e) L.length = lo + e := by omega
  have m2 : min e (min N (L.length - lo)) = e := by omega
  simp only [List.getElem?_take, List.getElem?_drop, List.getElem?_append, List.length_append, List.length_take, List.length_drop, hV, m1, m2]
  repeat' split
  all_goals first
    | omega
    | rfl
    | (congr 1; omega)
theorem flat_take {sz : Nat} {xs : List V} (h : ∀ x ∈ xs, x.cells.length = sz) (k : Nat) : flat (xs.take k) = (flat xs).take (k * sz) := by
  have := flat_take_drop h 0 k
  simpa using this
theorem flat_drop {sz : Nat} {xs : List V} (h : ∀ x ∈ xs, x.cells.length = sz) (k : Nat) : flat (xs.drop k) = (flat xs).drop (k * sz) := by
  have h1 := flat_take_drop h k xs.length
  rw [List.take_of_length_le (by simp)] at h1
  rw [h1, List.take_of_length_le (by rw [List.length_drop, flat_length h]; omega)]
/-- A buffer's content said in other words; no memory changes. -/
theorem WRel.reNone (h : WRel Γ G ob nm w) {n : Nat} {c c' : BC} (hn : nm[n]? = some (some (.live c))) (hT : G.T n = none) (hl : c'.len = 0) : WRel Γ G ob (nm.set n (some (.live c'))) w := by
  have hlt : n < nm.length := append_room.get_lt'' hn
  have hself : (nm.set n (some (Bf.live c')))[n]? = some (some (.live c')) := by rw [List.getElem?_set_self hlt]
  have hoth : ∀ {m : Nat}, m ≠ n → (nm.set n (some (Bf.live c')))[m]? = nm[m]? := fun hm => List.getElem?_set_ne (Ne.symm hm)
  exact { h with
    hnm := fun m d x h1 h2 => by
      by_cases e : m = n
      · subst e; rw [hT] at h2; cases h2
      · rw [hoth e] at h1; exact h.hnm m d x h1 h2
    hno := fun m d h1 h2 => by
      by_cases e : m = n
      · subst e
        rw [hself] at h1
        obtain rfl : c' = d := by simpa using h1
        exact hl
      · rw [hoth e] at h1; exact h.hno m d h1 h2
    nmd := fun m m' d d' x x' hne h1 h2 h3 h4 => by
      by_cases e : m = n
      · subst e; rw [hT] at h3; cases h3
      · by_cases e' : m' = n
        · subst e'; rw [hT] at h4; cases h4
        · rw [hoth e] at h1; rw [hoth e'] at h2; exact h.nmd m m' d d' x x' hne h1 h2 h3 h4
    tabs := fun m h1 => by
      by_cases e : m = n
      · subst e; rw [hself] at h1; cases h1
      · rw [hoth e] at h1; exact h.tabs m h1
    tlt := fun m x h1 => by simpa using h.tlt m x h1 }
/-- What a content is when some of its elements are exchanged. -/
structure Put (z off k : Nat) (c : BC) (ys : List V) (c' : BC) : Prop where
  sz : c'.sz = z
  len : c'.len = c.len
  el : ∀ v ∈ c'.els, v.cells.length = z
  imp : ∀ (G : Gh) (cvs : List Value), Rels G (flat (c.els.take off ++ ys ++ c.els.drop (off + k))) cvs → Rels G (flat c'.els) cvs
/-- Elements stored into a buffer. -/
theorem WRel.put (h : WRel Γ G ob nm w) {n : Nat} {c c' : BC} {x : Tail} (hn : nm[n]? = some (some (.live c))) (hT : G.T n = some x) {off k : Nat} {ys : List V} {vs : List Value} (hp : Put c.sz off k c ys c')
    (hy : ys.length = k) (hyl : ∀ v ∈ ys, v.cells.length = c.sz) (hr : Rels G (flat ys) vs) (h1 : ∀ v ∈ vs, v.oneCell' = true) (hl : off + k ≤ x.len) :
    ∃ w', (storeCells ⟨x.b, x.lo + off * x.sz, none⟩ vs).run P w = .ok () w' ∧ WRel Γ G ob (nm.set n (some (.live c'))) w' := by
  have B := h.hnm n c x hn hT
  obtain ⟨cvs, E, fr, e1, e2, e3, e4⟩ := B.row
  have hsz := B.sz
  have hBl := B.len
  have hcap := B.cap
  have hel : ∀ v ∈ c.els, v.cells.length = x.sz := fun v hv => (B.el v hv).trans hsz.symm
  have hyl' : ∀ v ∈ ys, v.cells.length = x.sz := fun v hv => (hyl v hv).trans hsz.symm
  have hflen := flat_length hel
  have hels : c.els.length = x.len := by rw [BC.els_len]; exact hBl
  have hfy : (flat ys).length = k * x.sz := by rw [flat_length hyl', hy]
  have hvl : vs.length = k * x.sz := hr.1.trans hfy
  have hle : off * x.sz + k * x.sz ≤ x.len * x.sz := by rw [← Nat.add_mul]; exact Nat.mul_le_mul_right _ hl
  have hle2 : x.len * x.sz ≤ x.cap * x.sz := Nat.mul_le_mul_right _ hcap
  obtain ⟨w', g1, g2⟩ := run_storeCells_row (P := P) (b := x.b) (off := x.lo + off * x.sz) vs 0 cvs w e1 e2 (by omega) h1
  refine ⟨w', g1, ?_⟩
  simp only [Nat.add_zero] at g2
  generalize hq : x.lo + off * x.sz = q at g2
  have hrow : (cvs.toList.take q ++ vs ++ cvs.toList.drop (q + vs.length)).toArray.size = cvs.size := by
    simp only [List.size_toArray, List.length_append, List.length_take, List.length_drop, Array.length_toList]
    omega
  have hel' : ∀ v ∈ c'.els, v.cells.length = x.sz := fun v hv => (hp.el v hv).trans hsz.symm
  have hL : (flat c'.els).length = (flat c.els).length := by
    rw [flat_length hel', flat_length hel, BC.els_len, BC.els_len, hp.len]
  refine h.setBuf hn hT g2 (fun o z hz => ?_) ⟨B.old, ⟨_, E, fr, g2.row, by rw [hrow]; exact e2, by rw [hrow]; exact e3, ?_⟩, hsz.trans hp.sz.symm, fun v hv => (hp.el v hv).trans hp.sz.symm, hp.len.trans hBl, hcap, B.free, B.obj⟩
  · have hz0 := h.m _ _ _ hz
    rw [cell_row e1] at hz0
    have hos : o < cvs.size := by
      rcases Nat.lt_or_ge o cvs.size with h' | h'
      · exact h'
      · rw [Array.getElem?_eq_none h'] at hz0; cases hz0
    have hout : o < q ∨ q + vs.length ≤ o := by
      rcases Nat.lt_or_ge o q with h' | h'
      · exact .inl h'
      · rcases Nat.lt_or_ge o (q + vs.length) with h' | h'
        · rw [B.free o (by omega) (by omega)] at hz; cases hz
        · exact .inr h'
    have hz1 : cvs.toList[o]? = some z := by simpa using hz0
    simp only [List.getElem?_toArray, List.append_assoc]
    rcases hout with ho' | ho'
    · rw [List.getElem?_append_left (by simp; omega), List.getElem?_take, if_pos ho']
      exact hz1
    · rw [List.getElem?_append_right (by simp; omega), List.getElem?_append_right (by simp; omega), List.getElem?_drop]
      have : q + vs.length + (o - (cvs.toList.take q).length - vs.length) = o := by simp; omega
      rw [this]
      exact hz1
  · rw [hL, ← hq]
    have hN : off * x.sz + vs.length ≤ (flat c.els).length := by rw [hflen, hels, hvl]; exact hle
    have hN2 : x.lo + (flat c.els).length ≤ cvs.toList.length := by rw [hflen, hels, Array.length_toList]; omega
    rw [put_lists rfl hN hN2, hvl]
    refine hp.imp G _ ?_
    rw [flat_append, flat_append, flat_take hel, flat_drop hel, Nat.add_mul]
    exact ((e4.take _).append hr).append (e4.drop _)
theorem VRel.bs_inv {sy : Bool} {n off len : Nat} {cv : Value} (h : VRel G (.bs sy n off len) cv) : (len = 0 ∧ (cv = .slice none 0 0 ∨ ∃ b o, cv = .slice (some ⟨b, o, none⟩) 0 0)) ∨ ∃ x, G.T n = some x ∧ off + len ≤ x.len ∧ cv = .slice (some ⟨x.b, x.lo + off * x.sz, none⟩) len (x.cap - off) := by
  cases h with
  | bs0 => exact .inl ⟨rfl, .inl rfl⟩
  | bs1 _ _ _ b o => exact .inl ⟨rfl, .inr ⟨b, o, rfl⟩⟩
  | bs h hl => exact .inr ⟨_, h, hl, rfl⟩
/-- A content said in other words. -/
theorem WRel.same (P : Program) (h : WRel Γ G ob nm w) {n : Nat} {c c' : BC} (hn : nm[n]? = some (some (.live c))) {off : Nat} (hp : Put c.sz off 0 c [] c') : WRel Γ G ob (nm.set n (some (.live c'))) w := by
  cases hT : G.T n with
  | none => exact h.reNone hn hT (hp.len.trans (h.hno n c hn hT))
  | some x =>
    have B := h.hnm n c x hn hT
    have hz : Put c.sz 0 0 c [] c' := ⟨hp.sz, hp.len, hp.el, fun G cvs hr => hp.imp G cvs (by simpa [← flat_append, List.take_append_drop] using hr)⟩
    obtain ⟨w', g1, g2⟩ := h.put (P := P) hn hT hz (vs := []) rfl (fun v hv => by cases hv) ⟨rfl, fun j v cv h1 h2 => by simp [flat] at h1⟩ (fun v hv => by cases hv) (Nat.zero_le _)
    have : w' = w := by
      simp only [storeCells, Sem.run_pure, Result.ok.injEq] at g1
      exact g1.2.symm
    rw [← this]
    exact this ▸ g2

theorem BC.join_rels {a b c : BC} (h : a.join b = some c) {size : Nat} (ha : a.sz = size) (hb : b.sz = size) (hbl : ∀ v ∈ b.els, v.cells.length = size) : c.sz = size ∧ ∃ ys, c.els = a.els ++ ys ∧ ys.length = b.els.length ∧ (∀ v ∈ ys, v.cells.length = size) ∧ ∀ (G : Gh) (cvs : List Value), Rels G (flat b.els) cvs → Rels G (flat ys) cvs := by
  cases a with
  | arr ty l =>
    cases b with
    | arr ty' l' =>
      simp only [BC.join] at h
      split at h
      · rename_i l2 hl
        cases h
        refine ⟨ha, l'.map ty'.val, ?_, rfl, hbl, fun _ _ h => h⟩
        simp only [BC.els, List.map_append, listAs_eq hl]
      · cases h
    | cs sz ys =>
      simp only [BC.join] at h
      split at h
      · rename_i l2 hl
        cases h
        obtain ⟨g1, g2, g3⟩ := optMap_ok (Ty.ofC_ok ty) hl
        refine ⟨ha, l2.map ty.val, by simp [BC.els], by simp only [BC.els, List.length_map]; exact g1, fun v hv => (map_size ty l2 v hv).trans ha, fun G cvs hr => g3 G cvs hr⟩
      · cases h
  | cs sz xs =>
    cases b with
    | cs sz' ys => simp only [BC.join] at h; cases h; exact ⟨ha, ys, rfl, rfl, hbl, fun _ _ h => h⟩
    | arr ty l =>
      cases xs with
      | nil => simp only [BC.join] at h; cases h; exact ⟨hb, l.map ty.val, rfl, rfl, hbl, fun _ _ h => h⟩
      | cons x xs => simp only [BC.join] at h; cases h
/-- The content with elements exchanged. -/
def BC.splice (c : BC) (off k : Nat) (y : BC) : Option BC :=
  match (c.part 0 off).join (y.part 0 k) with
  | some d => d.join (c.part (off + k) (c.len - (off + k)))
  | none => none
theorem BC.splice_ok {c y c' : BC} {off k : Nat} (h : c.splice off k y = some c') (hy : y.sz = c.sz) (hcl : ∀ v ∈ c.els, v.cells.length = c.sz) (hyl : ∀ v ∈ y.els, v.cells.length = c.sz) (hk : k ≤ y.len) (ho : k = 0 ∨ off + k ≤ c.len) : Put c.sz off k c (y.els.take k) c' := by
  unfold BC.splice at h
  split at h
  · rename_i d hd
    obtain ⟨a1, a2⟩ := BC.part_els c 0 off
    obtain ⟨b1, b2⟩ := BC.part_els y 0 k
    obtain ⟨d1, d2⟩ := BC.part_els c (off + k) (c.len - (off + k))
    rw [List.drop_zero] at a1 b1
    have hd1 : (c.els.drop (off + k)).take (c.len - (off + k)) = c.els.drop (off + k) := List.take_of_length_le (by simp [BC.els_len])
    rw [hd1] at d1
    obtain ⟨e1, ys, e2, e3, e4, e5⟩ := BC.join_rels hd a2 (b2.trans hy) (by rw [b1]; exact fun v hv => hyl v (List.mem_of_mem_take hv))
    obtain ⟨f1, zs, f2, f3, f4, f5⟩ := BC.join_rels h e1 d2 (by rw [d1]; exact fun v hv => hcl v (List.mem_of_mem_drop hv))
    rw [a1] at e2
    rw [b1] at e3 e5
    rw [d1] at f3 f5
    refine ⟨f1, ?_, ?_, ?_⟩
    · rw [← BC.els_len, f2, e2]
      have hyy := BC.els_len y
      have hcc := BC.els_len c
      simp only [List.length_append, e3, f3, List.length_take, List.length_drop, hyy, hcc]
      omega
    · rw [f2, e2]
      intro v hv
      rcases List.mem_append.1 hv with hv | hv
      · rcases List.mem_append.1 hv with hv | hv
        · exact hcl v (List.mem_of_mem_take hv)
        · exact e4 v hv
      · exact f4 v hv
    · intro G cvs hr
      rw [f2, e2]
      rw [flat_append, flat_append] at hr ⊢
      have hs1 := hr.split
      have hs2 := hs1.1.split
      have hl1 : (flat (c.els.take off)).length ≤ cvs.length := by have := hr.1; simp at this; omega
      have := ((hs2.1.append (e5 G _ hs2.2)).append (f5 G _ hs1.2))
      simpa only [List.take_append_drop] using this
  · cases h
/-- The elements that are copied: at most as many as there is room for. -/
def copX (P : Program) (ts : Array TypeId) (x y : V) (nm : Nm) : Option Out :=
  match ts.toList with
  | [t, tx] =>
    match P.underlying t with
    | some (.slice e) =>
      match tySize P e with
      | some sz =>
        match ysE P sz tx y nm with
        | some (b, rn) =>
          match x with
          | .lst _ [] => some ⟨true, false, .i .i64 0, { rn := rn }⟩
          | .bs sy n off len =>
            match nm[n]? with
            | some (some (.live c)) =>
              if c.sz = sz then
                match c.splice off (Nat.min b.len len) b with
                | some c' => some ⟨true, false, mkI (sy || b.isArr) .i64 (Nat.min b.len len : Nat), { rn := n :: rn, wn := [(n, .live c')] }⟩
                | none => none
              else none
            | _ => none
          | _ => none
        | none => none
      | none => none
    | _ => none
  | _ => none
theorem SemV.copX {o : Oper} {cl : Call} {x y : Operand} {out : Out} (ho : o.op = .call cl) (hcal : cl.callee = .builtin .copy) (ha : cl.args.toList = [x, y]) (h : copX P cl.argTypes (σ.eval Γ x) (σ.eval Γ y) σ.nm = some out) :
    SemV P Γ o σ out.v (out.eff.ob σ.ob) (out.eff.nm σ.nm) := by
  unfold Go.Proofs.Ytnjjkobijjdnbaa.copX at h
  split at h
  · rename_i t tx hts
    have hts : cl.argTypes = #[t, tx] := by apply Array.ext'; simpa using hts
    have hca : ∀ a : Act, cl.args.map a.eval = #[a.eval x, a.eval y] := fun a => by apply Array.ext'; simp [ha]
    split at h
    · rename_i e hu
      split at h
      · rename_i sz hsz
        split at h
        · rename_i b rn hys
          obtain ⟨hbz, hY⟩ := ysE_ok hys
          split at h
          · rename_i tg hx
            cases h
            refine SemV.of_val fun G a w hr => ?_
            have hxx := hr.eval x
            rw [hx] at hxx
            obtain ⟨p, q, he⟩ := hxx.slice_form
            obtain ⟨⟨news, hS, hR⟩, hyl⟩ := hY G a w hr
            have hpre := src_pre hS (Nat.zero_le _)
            have hlen := hS.len w
            refine ⟨.int .i64 (0 : Nat), w, G, ?_, .refl G, .i _ _, hr.wr⟩
            cases p <;> simp [execOp, ho, resolve, hcal, invoke, Go.builtin, hca, Builtin.copy_, hts, he, run_underlying hu, hlen, run_sizeOf hsz, hpre, goInt, storeCells]
          · rename_i sy n off len hx
            split at h
            · rename_i c hn
              split at h
              · rename_i hcz
                split at h
                · rename_i c' hsp
                  cases h
                  refine SemV.of_val fun G a w hr => ?_
                  show ∃ cv w' G', _ ∧ _ ∧ _ ∧ WRel Γ G' σ.ob (σ.nm.set n (some (.live c'))) w'
                  obtain ⟨⟨news, hS, hR⟩, hyl⟩ := hY G a w hr
                  have hxx := hr.eval x
                  rw [hx] at hxx
                  have hkb : Nat.min b.len len ≤ b.els.length := by rw [BC.els_len]; exact Nat.min_le_left _ _
                  have hlen := hS.len w
                  have hpre := src_pre hS hkb
                  have hel : ∀ v ∈ c.els, v.cells.length = c.sz := by
                    cases hT : G.T n with
                    | some x' => exact (hr.wr.hnm n c x' hn hT).el
                    | none =>
                      have h0 := hr.wr.hno n c hn hT
                      have : c.els = [] := List.eq_nil_of_length_eq_zero (by rw [BC.els_len]; exact h0)
                      rw [this]; exact fun v hv => by cases hv
                  have hbl : b.els.length = b.len := BC.els_len b
                  rcases hxx.bs_inv with ⟨rfl, hcv⟩ | ⟨x', hT, hol, hcv⟩
                  · have hm : Nat.min b.len 0 = 0 := Nat.min_zero _
                    rw [hm] at hsp hpre ⊢
                    have hput := BC.splice_ok hsp (hbz.trans hcz.symm) hel (fun v hv => (hyl v hv).trans hcz.symm) (Nat.zero_le _) (.inl rfl)
                    refine ⟨.int .i64 (0 : Nat), w, G, ?_, .refl G, mkI_rel _ _ _ _, hr.wr.same P hn hput⟩
                    rcases hcv with hcv | ⟨b', o', hcv⟩ <;>
                      simp [execOp, ho, resolve, hcal, invoke, Go.builtin, hca, Builtin.copy_, hts, hcv, run_underlying hu, hlen, run_sizeOf hsz, hpre, hm, goInt, storeCells, hbl]
                  · have hBl := (hr.wr.hnm n c x' hn hT).len
                    have hm2 : Nat.min b.len len ≤ len := Nat.min_le_right _ _
                    have hput := BC.splice_ok hsp (hbz.trans hcz.symm) hel (fun v hv => (hyl v hv).trans hcz.symm) (Nat.min_le_left _ _) (.inr (by omega))
                    have hR' : Rels G (flat (b.els.take (Nat.min b.len len))) (news.take (Nat.min b.len len * sz)) := by
                      rw [flat_take hyl]; exact hR.take _
                    obtain ⟨w', g1, g2⟩ := hr.wr.put (P := P) hn hT hput (by rw [List.length_take]; exact Nat.min_eq_left hkb) (fun v hv => (hyl v (List.mem_of_mem_take hv)).trans hcz.symm) hR' (fun v hv => hS.one v (List.mem_of_mem_take hv)) (by omega)
                    refine ⟨.int .i64 (Nat.min b.len len : Nat), w', G, ?_, .refl G, mkI_rel _ _ _ _, g2⟩
                    rw [← hbl] at g1 hpre ⊢
                    simp [execOp, ho, resolve, hcal, invoke, Go.builtin, hca, Builtin.copy_, hts, hcv, run_underlying hu, hlen, run_sizeOf hsz, hpre, goInt, g1]
                · cases h
              · cases h
            · cases h
          · cases h
        · cases h
      · cases h
    · cases h
  · cases h
/-- Zeros, as a content like another. -/
def zeroBC (c : BC) (u : V) (sz len : Nat) : Option BC :=
  match c with
  | .cs _ _ => some (.cs sz (List.replicate len u))
  | .arr ty _ => match ty.ofV u with | some d => some (.arr ty (List.replicate len d)) | none => none
theorem zeroBC_ok {c y : BC} {u : V} {sz len : Nat} (h : zeroBC c u sz len = some y) (hc : c.sz = sz) (hu : u.cells.length = sz) (h1 : oneB [u] = true) : y.sz = sz ∧ y.len = len ∧ (∀ v ∈ y.els, v.cells.length = sz) ∧ (∀ v ∈ flat y.els, v.one = true) ∧ ∀ (G : Gh) (z : Value), Rels G u.cells z.cells.toList → VRel G u z →
    Rels G (flat y.els) ((Array.range (len * sz)).map (z.cells[· % z.cells.size]!)).toList := by
  unfold zeroBC at h
  split at h
  · cases h
    refine ⟨rfl, by simp [BC.len], fun v hv => by rw [List.eq_of_mem_replicate hv]; exact hu, fun v hv => ?_, fun G z hr _ => zeros_rel hr hu len⟩
    obtain ⟨x, hx, hv⟩ := List.mem_flatMap.1 hv
    rw [List.eq_of_mem_replicate hx] at hv
    exact oneB_flat h1 v (by simpa [flat] using hv)
  · rename_i ty l
    split at h
    · rename_i d hd
      cases h
      refine ⟨hc, by simp [BC.len], fun v hv => (map_size ty _ v hv).trans hc, map_one ty _, fun G z hr hv => ?_⟩
      have h2 := Ty.ofV_ok hd hv
      have h3 : (ty.val d).cells.length = sz := (map_size ty [d] _ (by simp)).trans hc
      have := zeros_rel (h2.cells (by cases ty <;> simp [Ty.val])) h3 len
      simpa [BC.els] using this
    · cases h
def clrX (P : Program) (ts : Array TypeId) (x : V) (nm : Nm) : Option Out :=
  match ts.toList with
  | [t] =>
    match P.underlying t with
    | some (.slice e) =>
      match P.info? e with
      | some i =>
        match i.zero with
        | some z =>
          if z.cells.size = i.size ∧ (ofVal z).notAny = true ∧ oneB [ofVal z] = true then
            match x with
            | .lst _ [] => some ⟨true, false, .any, .pure⟩
            | .bs sy n off len =>
              match nm[n]? with
              | some (some (.live c)) =>
                if c.sz = i.size then
                  match zeroBC c (ofVal z) i.size len with
                  | some y => match c.splice off len y with | some c' => some ⟨true, false, .any, { rn := [n], wn := [(n, .live c')] }⟩ | none => none
                  | none => none
                else none
              | _ => none
            | _ => none
          else none
        | none => none
      | none => none
    | _ => none
  | _ => none
theorem SemV.clrX {o : Oper} {cl : Call} {x : Operand} {out : Out} (ho : o.op = .call cl) (hcal : cl.callee = .builtin .clear) (ha : cl.args.toList = [x]) (h : clrX P cl.argTypes (σ.eval Γ x) σ.nm = some out) :
    SemV P Γ o σ out.v (out.eff.ob σ.ob) (out.eff.nm σ.nm) := by
  unfold Go.Proofs.Ytnjjkobijjdnbaa.clrX at h
  split at h
  · rename_i t hts
    have hts : cl.argTypes = #[t] := by apply Array.ext'; simpa using hts
    have hca : ∀ a : Act, cl.args.map a.eval = #[a.eval x] := fun a => by apply Array.ext'; simp [ha]
    split at h
    · rename_i e hu
      split at h
      · rename_i i hi
        split at h
        · rename_i z hz
          split at h
          · rename_i hzz
            obtain ⟨hzs, hna, hone⟩ := hzz
            split at h
            · rename_i tg hx
              cases h
              refine SemV.of_val fun G a w hr => ?_
              have hxx := hr.eval x
              rw [hx] at hxx
              obtain ⟨p, q, he⟩ := hxx.slice_form
              refine ⟨.tuple #[], w, G, ?_, .refl G, .any _, hr.wr⟩
              cases p <;> simp [execOp, ho, resolve, hcal, invoke, Go.builtin, hca, Builtin.clear_, hts, he, run_underlying hu]
            · rename_i sy n off len hx
              split at h
              · rename_i c hn
                split at h
                · rename_i hcz
                  split at h
                  · rename_i y hy
                    split at h
                    · rename_i c' hsp
                      cases h
                      refine SemV.of_val fun G a w hr => ?_
                      show ∃ cv w' G', _ ∧ _ ∧ _ ∧ WRel Γ G' σ.ob (σ.nm.set n (some (.live c'))) w'
                      have hxx := hr.eval x
                      rw [hx] at hxx
                      have hzr := (ofVal_rel G z).cells (V.notAny_ne hna)
                      have hul : (ofVal z).cells.length = i.size := by have := hzr.1; simp at this; omega
                      obtain ⟨y1, y2, y3, y4, y5⟩ := zeroBC_ok hy hcz hul hone
                      have hR := y5 G z hzr (ofVal_rel G z)
                      have hel : ∀ v ∈ c.els, v.cells.length = c.sz := by
                        cases hT : G.T n with
                        | some x' => exact (hr.wr.hnm n c x' hn hT).el
                        | none =>
                          have h0 := hr.wr.hno n c hn hT
                          have : c.els = [] := List.eq_nil_of_length_eq_zero (by rw [BC.els_len]; exact h0)
                          rw [this]; exact fun v hv => by cases hv
                      have hyy : y.els.take len = y.els := List.take_of_length_le (by rw [BC.els_len, y2]; exact Nat.le_refl _)
                      rcases hxx.bs_inv with ⟨rfl, hcv⟩ | ⟨x', hT, hol, hcv⟩
                      · have hput := BC.splice_ok hsp (y1.trans hcz.symm) hel (fun v hv => (y3 v hv).trans hcz.symm) (Nat.zero_le _) (.inl rfl)
                        refine ⟨.tuple #[], w, G, ?_, .refl G, .any _, hr.wr.same P hn hput⟩
                        rcases hcv with hcv | ⟨b', o', hcv⟩ <;>
                          simp [execOp, ho, resolve, hcal, invoke, Go.builtin, hca, Builtin.clear_, hts, hcv, run_underlying hu]
                      · have hBl := (hr.wr.hnm n c x' hn hT).len
                        have hput := BC.splice_ok hsp (y1.trans hcz.symm) hel (fun v hv => (y3 v hv).trans hcz.symm) (by omega) (.inr (by omega))
                        rw [hyy] at hput
                        obtain ⟨w', g1, g2⟩ := hr.wr.put (P := P) hn hT hput (by rw [BC.els_len, y2]) (fun v hv => (y3 v hv).trans hcz.symm) hR (one_of_rels hR y4) (by omega)
                        refine ⟨.tuple #[], ?_⟩
                        cases len with
                        | zero =>
                          refine ⟨w, G, ?_, .refl G, .any _, hr.wr.same P hn (by simpa [hyy, show y.els = [] from List.eq_nil_of_length_eq_zero (by rw [BC.els_len, y2])] using hput)⟩
                          simp [execOp, ho, resolve, hcal, invoke, Go.builtin, hca, Builtin.clear_, hts, hcv, run_underlying hu]
                        | succ len =>
                          refine ⟨w', G, ?_, .refl G, .any _, g2⟩
                          rw [← hzs] at g1
                          simp [execOp, ho, resolve, hcal, invoke, Go.builtin, hca, Builtin.clear_, hts, hcv, run_underlying hu, zeroValue, typeInfo, hi, hz, Builtin.zeroCells]
                          simp at g1
                          rw [g1]
                          rfl
                    · cases h
                  · cases h
                · cases h
              · cases h
            · cases h
          · cases h
        · cases h
      · cases h
    · cases h
  · cases h
end
end Go.Proofs.Ytnjjkobijjdnbaa

/- The evaluator of one operation, put together. -/
set_option linter.unusedVariables false
set_option linter.unusedSimpArgs false
namespace Go.Proofs.Ytnjjkobijjdnbaa
open Go

section
variable {P : Program} {Γ : Nat → Option V} {G : Gh} {ob : Ob} {nm : Nm} {w : World} {σ : St}

/-! ### Builtins that only compute -/
def lenV : V → Option V
  | .lst t xs => some (.i .i64 (xs.length : Nat))
  | .sl _ _ n => some (.i .i64 (n : Nat))
  | .s x => some (.i .i64 (x.size : Nat))
  | .ss x => some (.si .i64 (x.size : Nat))
  | _ => none
def minmax (mx : Bool) (x y : V) : Option V :=
  match x.int?, y.int? with
  | some (k, a, s), some (k', b, s') => some (mkI (s || s') k (if mx then (if b > a then b else a) else (if b < a then b else a)))
  | _, _ => none
def minmaxL (mx : Bool) : V → List V → Option V
  | x, [] => some x
  | x, y :: ys => match minmax mx x y with | some z => minmaxL mx z ys | none => none
def builtinE (P : Program) (b : Builtin) (ts : Array TypeId) (args : List V) : Option V :=
  match b, args with
  | .len, [x] =>
    match ts[0]? with
    | some T =>
      match x with
      | .lst t xs => if isSliceTy P T then lenV x else none
      | .sl _ _ _ => if isSliceTy P T then lenV x else none
      | .s _ => if isStrTy P T then lenV x else none
      | .ss _ => if isStrTy P T then lenV x else none
      | _ => none
    | none => none
  | .max, x :: rest => match x.int? with | some _ => minmaxL true x rest | none => none
  | .min, x :: rest => match x.int? with | some _ => minmaxL false x rest | none => none
  | _, _ => none

theorem minmax_run {mx : Bool} {x y z : V} {cx cy : Value} (h : minmax mx x y = some z) (hx : VRel G x cx) (hy : VRel G y cy) (w : World) :
    ∃ cz, ((if mx then Builtin.max2 else Builtin.min2) cx cy).run P w = .ok cz w ∧ VRel G z cz := by
  unfold minmax at h
  split at h
  · rename_i h1 h2
    have := int?_eq h1 hx; have := int?_eq h2 hy; subst_vars
    cases h
    cases mx
    · exact ⟨_, rfl, mkI_rel _ _ _ _⟩
    · exact ⟨_, rfl, mkI_rel _ _ _ _⟩
  · cases h
theorem minmaxL_run {mx : Bool} : ∀ {ys : List V} {cys : List Value} {x z : V} {cx : Value} (w : World), minmaxL mx x ys = some z → VRel G x cx → Rels G ys cys →
    ∃ cz, (cys.foldlM (m := Sem) (if mx then Builtin.max2 else Builtin.min2) cx).run P w = .ok cz w ∧ VRel G z cz
  | [], cys, x, z, cx, w, h, hx, hr => by
    have : cys = [] := List.eq_nil_of_length_eq_zero (by simpa using hr.1)
    subst this
    simp [minmaxL] at h
    subst h
    exact ⟨cx, by simp, hx⟩
  | y :: ys, cys, x, z, cx, w, h, hx, hr => by
    cases cys with
    | nil => have := hr.1; simp at this
    | cons cy cys =>
      simp only [minmaxL] at h
      split at h
      · rename_i q hq
        obtain ⟨cq, e1, e2⟩ := minmax_run (P := P) hq hx (hr.2 0 y cy rfl rfl) w
        have hr' : Rels G ys cys := by simpa using hr.drop 1
        obtain ⟨cz, e3, e4⟩ := minmaxL_run w h e2 hr'
        exact ⟨cz, by rw [List.foldlM_cons, Sem.run_bind, e1, Result.andThen_ok, e3], e4⟩
      · cases h
theorem args_rel {a : Act} (hr : Rel Γ G σ a w) (l : List Operand) : Rels G (l.map (σ.eval Γ)) (l.map a.eval) := by
  refine ⟨by simp, fun j v cv g1 g2 => ?_⟩
  simp only [List.getElem?_map, Option.map_eq_some_iff] at g1 g2
  obtain ⟨p, hp, rfl⟩ := g1
  obtain ⟨q, hq, rfl⟩ := g2
  rw [hp] at hq
  cases hq
  exact hr.eval p
theorem SemV.builtin {o : Oper} {c : Call} {b : Builtin} {v : V} (ho : o.op = .call c) (hc : c.callee = .builtin b) (hv : builtinE P b c.argTypes (c.args.toList.map (σ.eval Γ)) = some v) : SemV P Γ o σ v σ.ob σ.nm :=
  SemV.of_pure fun G a w hr => by
    have hargs := args_rel hr c.args.toList
    generalize hvs : c.args.toList.map (σ.eval Γ) = vs at hv hargs
    generalize hcs : c.args.toList.map a.eval = cs at hargs
    have hca : c.args.map a.eval = cs.toArray := by apply Array.ext'; simp [← hcs]
    unfold builtinE at hv
    split at hv
    · -- len
      rename_i x
      split at hv
      · rename_i T hT
        obtain ⟨cx, rfl⟩ : ∃ cx, cs = [cx] := by
          match cs, hargs.1 with
          | [c], _ => exact ⟨c, rfl⟩
        have hx : VRel G x cx := hargs.2 0 x cx rfl rfl
        have key : ∀ (n : Nat), (Builtin.len_ c.argTypes o.type #[cx]).run P w = .ok (.int .i64 n) w → ∃ cv, (execOp a.eval o).run P w = .ok (.value cv) w ∧ VRel G (.i .i64 n) cv := fun n hn =>
          ⟨_, by simp [execOp, ho, resolve, hc, invoke, Go.builtin, hca, hn], .i _ _⟩
        have keys : ∀ (n : Nat), (Builtin.len_ c.argTypes o.type #[cx]).run P w = .ok (.int .i64 n) w → ∃ cv, (execOp a.eval o).run P w = .ok (.value cv) w ∧ VRel G (.si .i64 n) cv := fun n hn =>
          ⟨_, by simp [execOp, ho, resolve, hc, invoke, Go.builtin, hca, hn], .si _ _⟩
        split at hv
        · rename_i t xs
          split at hv
          · rename_i hs
            simp [lenV] at hv
            subst hv
            unfold isSliceTy at hs
            split at hs
            · rename_i e hu
              obtain ⟨p, q, rfl⟩ := hx.slice_form
              exact key _ (by simp [Builtin.len_, hT, run_underlying hu, goInt])
            · cases hs
          · cases hv
        · rename_i o' off n
          split at hv
          · rename_i hs
            simp [lenV] at hv
            subst hv
            unfold isSliceTy at hs
            split at hs
            · rename_i e hu
              cases hx
              exact key _ (by simp [Builtin.len_, hT, run_underlying hu, goInt])
            · cases hs
          · cases hv
        · rename_i s
          split at hv
          · rename_i hs
            simp [lenV] at hv
            subst hv
            unfold isStrTy at hs
            split at hs
            · rename_i hu
              cases hx
              exact key _ (by simp [Builtin.len_, hT, run_underlying hu, goInt])
            · cases hs
          · cases hv
        · rename_i s
          split at hv
          · rename_i hs
            simp [lenV] at hv
            subst hv
            unfold isStrTy at hs
            split at hs
            · rename_i hu
              cases hx
              exact keys _ (by simp [Builtin.len_, hT, run_underlying hu, goInt])
            · cases hs
          · cases hv
        · cases hv
      · cases hv
    · rename_i x rest
      split at hv
      · obtain ⟨cx, crest, rfl⟩ : ∃ cx crest, cs = cx :: crest := by
          match cs, hargs.1 with
          | c :: r, _ => exact ⟨c, r, rfl⟩
        have hx : VRel G x cx := hargs.2 0 x cx rfl rfl
        obtain ⟨cz, e1, e2⟩ := minmaxL_run (P := P) (mx := true) w hv hx (by simpa using hargs.drop 1)
        exact ⟨cz, by simp only [if_true] at e1; simp [execOp, ho, resolve, hc, invoke, Go.builtin, hca, Builtin.max_, e1], e2⟩
      · cases hv
    · rename_i x rest
      split at hv
      · obtain ⟨cx, crest, rfl⟩ : ∃ cx crest, cs = cx :: crest := by
          match cs, hargs.1 with
          | c :: r, _ => exact ⟨c, r, rfl⟩
        have hx : VRel G x cx := hargs.2 0 x cx rfl rfl
        obtain ⟨cz, e1, e2⟩ := minmaxL_run (P := P) (mx := false) w hv hx (by simpa using hargs.drop 1)
        exact ⟨cz, by simp only [Bool.false_eq_true, if_false] at e1; simp [execOp, ho, resolve, hc, invoke, Go.builtin, hca, Builtin.min_, e1], e2⟩
      · cases hv
    · cases hv

/-! ### One operation -/
/-- Operations that take up a place that is kept for them. -/
def allocs (o : Oper) : Bool := match o.op with | .alloc _ | .box _ _ => true | .makeSlice _ _ _ => true | .call c => (match c.callee with | .builtin .append => true | _ => false) | _ => false
abbrev CallF := FuncId → List V → Ob → Nm → Option Out
def evE0 (P : Program) (cf : CallF) (slot : Nat) (o : Oper) (e : Operand → V) (ob : Ob) (nm : Nm) : Option Out :=
  match o.op with
  | .move x => outP (e x)
  | .assign x => outP (e x)
  | .pick c x y =>
    match (e c).bool? with
    | some (t, s) => if s then outO (mergeV t (e x) (e y)) else outP (if t then e x else e y)
    | none => none
  | .alloc T =>
    match tyZero P T with
    | some z => if z.notAny then some ⟨true, false, .ptr slot 0, .mkO slot z.cells⟩ else none
    | none => none
  | .box T x => if (e x).notAny then some ⟨true, false, .ptr slot 0, .mkO slot (e x).cells⟩ else none
  | .build T ps =>
    match tyZero P T with
    | some z =>
      if z.notAny then
        match tyPlaces P T with
        | some pl => match fillV (pl[·]?) z.cells (ps.toList.map fun (i, x) => (i, e x)) with | some cs => outP (.agg cs) | none => none
        | none =>
          match tyElem P T with
          | some (some n, el) =>
            match tySize P el with
            | some sz => match fillV (fun i => some (i * sz, sz)) z.cells (ps.toList.map fun (i, x) => (i, e x)) with | some cs => outP (.agg cs) | none => none
            | none => none
          | _ => none
      else none
    | none => none
  | .buildSlice T len ps =>
    match tyElem P T with
    | some (none, el) =>
      match tySize P el, tyZero P el with
      | some sz, some z =>
        if z.notAny && decide (z.cells.length = sz) && decide (len * sz ≤ 2 ^ 24) then
          match fillE sz (List.replicate len z) (ps.toList.map fun (i, x) => (i, e x)) with | some xs => outP (.lst .full xs) | none => none
        else none
      | _, _ => none
    | _ => none
  | .load T x =>
    match tyAgg P T, tySize P T with
    | some ag, some sz =>
      match e x with
      | .ptr o off => match loadV ag sz ob (.ptr o off) with | some v => some ⟨true, false, v, .rd o⟩ | none => none
      | .pel xs k off => outO (loadV ag sz [] (.pel xs k off))
      | _ => none
    | _, _ => none
  | .store T x y =>
    match tySize P T with
    | some sz =>
      match e x with
      | .ptr o off =>
        match ob[o]? with
        | some (some cs) => if (e y).allOne ∧ (e y).cells.length = sz ∧ off + sz ≤ cs.length then some ⟨true, false, .tup [], .wr o (cs.take off ++ (e y).cells ++ cs.drop (off + sz))⟩ else none
        | _ => none
      | _ => none
    | none => none
  | .nilCheck x =>
    match e x with
    | .ptr o off => outP (.ptr o off)
    | .pel xs k off => outP (.pel xs k off)
    | .bp k r off => outP (.bp k r off)
    | .fn (.func f) p q => outP (.fn (.func f) p q)
    | _ => none
  | .binOp op T x y _ =>
    match binX op (e x) (e y) with
    | some (c, s, v) => some ⟨c, s, v, .pure⟩
    | none =>
      if (op == .eql || op == .neq) && (e x).plainEq && (e y).plainEq && eqGuardOk P T (e x) (e y) then
        match eqV P 12 T (e x) (e y) with
        | some (r, z) => outP (mkB z (if op == .eql then r else !r))
        | none => none
      else none
  | .unOp op _ x => outO (unV op (e x))
  | .makeInterface T x =>
    match P.underlying T with
    | some (.interface _) => none
    | some _ => outP (.ifc T (e x))
    | none => none
  | .makeFunc fn a c => outP (.fn fn (a.toList.map e) (c.toList.map e))
  | .fieldAddr T x f =>
    match fieldOff P T f with
    | some (d, fl) => match tySize P fl.type with | some sz => if sz ≠ 0 then outO ((e x).shift d) else none | none => none
    | none => none
  | .field T x f =>
    match tyField P T f with
    | some fl =>
      match tyAgg P fl.type, tySize P fl.type, e x with
      | some ag, some sz, .agg cs => outO (getV ag sz cs fl.offset)
      | _, _, _ => none
    | none => none
  | .indexAddr T x y =>
    match tyElem P T with
    | some (n, el) =>
      match tySize P el, (e y).int? with
      | some sz, some (k, i, s) => match idxX sz n (e x) i s with | some (c, s', q) => some ⟨c, s', q, .pure⟩ | none => none
      | _, _ => none
    | none => none
  | .index T x y =>
    match tyElem P T with
    | some (some n, el) =>
      match tyAgg P el, tySize P el, (e y).int?, e x with
      | some ag, some sz, some (k, i, false), .agg cs => if 0 ≤ i ∧ i < (n : Int) then outO (getV ag sz cs (i.toNat * sz)) else none
      | _, _, _, _ => none
    | _ => none
  | .extract x i => match e x with | .tup vs => outO vs[i]? | _ => none
  | .call c =>
    match c.callee with
    | .value f => match e f with | .fn (.func g) first cap => (match Nat.beq g yid with | true => none | false => cf g (first ++ c.args.toList.map e ++ cap) ob nm) | .yl tm ps as bd => cf yid (.yl tm ps as bd :: c.args.toList.map e) ob nm | _ => none
    | .builtin b => outO (builtinE P b c.argTypes (c.args.toList.map e))
    | .invoke _ _ => none
  | _ => none

/-- There is such a function with a body; or it is yield. -/
def Named (P : Program) (f : FuncId) : Prop := (f = yid ∧ P.funcs[f]? = none) ∨ (f ≠ yid ∧ ∃ fn, P.funcs[f]? = some fn ∧ fn.body.isSome = true ∧ (fn.name == "runtime.NumGoroutine") = false)
/-- What is known of the calls. -/
def CallsOk (P : Program) (Γ : Nat → Option V) (cf : CallF) : Prop :=
  ∀ f args ob nm out, cf f args ob nm = some out → out.chk = true → SemF P Γ f args ob nm out.v (out.eff.ob ob) (out.eff.nm nm) ∧ Named P f
theorem beq_ne {f : FuncId} (h : Nat.beq f yid = false) : f ≠ yid := by
  intro e
  rw [e, Nat.beq_refl] at h
  cases h
/-- A call of yield. -/
theorem SemV.yield {o : Oper} {c : Call} {x : Operand} {tm : List V} {ps : Array Tmp} {as bd : Code} {res : V} {ob' : Ob} {nm' : Nm} (ho : o.op = .call c) (hc : c.callee = .value x) (hx : σ.eval Γ x = .yl tm ps as bd)
    (hf : P.funcs[yid]? = none) (h : SemF P Γ yid (.yl tm ps as bd :: c.args.toList.map (σ.eval Γ)) σ.ob σ.nm res ob' nm') : SemV P Γ o σ res ob' nm' := by
  intro ro G a w K Q hr hk
  have hfx := hr.eval x
  have r3 : Rels G (c.args.toList.map (σ.eval Γ)) (c.args.toList.map a.eval) := by
    refine ⟨by simp, fun j v cv g1 g2 => ?_⟩
    simp only [List.getElem?_map, Option.map_eq_some_iff] at g1 g2
    obtain ⟨p, hp, rfl⟩ := g1
    obtain ⟨q, hq, rfl⟩ := g2
    rw [hp] at hq
    cases hq
    exact hr.eval p
  have hcall := h G w (a.eval x :: c.args.toList.map a.eval) hr.wr (by rw [← hx]; exact Rels.cons hfx r3)
  obtain ⟨l, rest, e, fn, tmps, as', bd', h1, h2⟩ := (callsX_yield hf).1 hcall
  simp only [List.toList_toArray, List.cons.injEq] at e
  obtain ⟨e1, rfl⟩ := e
  refine ⟨fun _ _ => trivial, ?_⟩
  have e3 : (List.map a.eval c.args.toList).toArray = c.args.map a.eval := by apply Array.ext'; simp
  rw [e3] at h1
  have hrun : (execOp a.eval o).run P w = .ok (.round l fn tmps as' bd') w := by
    simp [execOp, ho, resolve, hc, e1, Deferred.ofValue, invoke, h1]
  rw [semAt_of hrun (fun _ h => by cases h)]
  refine ⟨depthR, RoundIn.mono (F := Fence.wide) (n := 0) h2 ?_⟩
  rintro e w' ⟨cv, G1, rfl, hle, hv, hw1⟩
  exact hk G1 _ w' hle hv hw1

theorem outO_some {x : Option V} {out : Out} (h : outO x = some out) : ∃ v, x = some v ∧ out = ⟨true, false, v, .pure⟩ := by
  cases x with
  | none => cases h
  | some v => exact ⟨v, rfl, by cases h; rfl⟩
theorem evE0_sound {cf : CallF} (hcf : CallsOk P Γ cf) {slot : Nat} {o : Oper} {out : Out} (h : evE0 P cf slot o (σ.eval Γ) σ.ob σ.nm = some out) (hchk : out.chk = true) (hs : allocs o = true → σ.ob[slot]? = some none ∧ σ.nm[slot]? = some none) :
    SemV P Γ o σ out.v (out.eff.ob σ.ob) (out.eff.nm σ.nm) := by
  unfold evE0 at h
  split at h
  · rename_i x ho; cases h; exact SemV.move ho
  · rename_i x ho; cases h; exact SemV.assign ho
  · rename_i c x y ho
    split at h
    · rename_i t s hc
      split at h
      · obtain ⟨v, hv, rfl⟩ := outO_some h
        refine SemV.of_pure fun G a w hr => ?_
        have hb := bool?_eq hc (hr.eval c)
        refine ⟨if t then a.eval x else a.eval y, by simp only [execOp, ho, hb, asBool]; cases t <;> rfl, mergeV_ok _ _ _ _ hv G _ ?_⟩
        cases t
        · exact hr.eval y
        · exact hr.eval x
      · cases h
        refine SemV.of_pure fun G a w hr => ?_
        have hb := bool?_eq hc (hr.eval c)
        refine ⟨if t then a.eval x else a.eval y, by simp only [execOp, ho, hb, asBool]; cases t <;> rfl, ?_⟩
        cases t
        · exact hr.eval y
        · exact hr.eval x
    · cases h
  · rename_i T ho
    split at h
    · rename_i z hz
      split at h
      · rename_i hn
        cases h
        exact SemV.allocAt ho hz hn (hs (by simp [allocs, ho])).1
      · cases h
    · cases h
  · rename_i T x ho
    split at h
    · rename_i hn
      cases h
      exact SemV.boxAt ho hn (hs (by simp [allocs, ho])).1
    · cases h
  · rename_i T ps ho
    split at h
    · rename_i z hz
      split at h
      · rename_i hn
        split at h
        · rename_i pl hpl
          split at h
          · rename_i cs hcs; cases h; exact SemV.build_struct ho hz hn hpl hcs
          · cases h
        · split at h
          · rename_i n el hel
            split at h
            · rename_i sz hsz
              split at h
              · rename_i cs hcs; cases h; exact SemV.build_array ho hz hn hel hsz hcs
              · cases h
            · cases h
          · cases h
      · cases h
    · cases h
  · rename_i T len ps ho
    split at h
    · rename_i el hel
      split at h
      · rename_i sz z hsz hz
        split at h
        · rename_i hc
          simp only [Bool.and_eq_true, decide_eq_true_eq] at hc
          split at h
          · rename_i xs hxs; cases h; exact SemV.buildSlice ho hel hsz (by omega) hz hc.1.1 hc.1.2 hxs
          · cases h
        · cases h
      · cases h
    · cases h
  · rename_i T x ho
    split at h
    · rename_i ag sz ha hsz
      split at h
      · rename_i o' off hx
        split at h
        · rename_i v hv; cases h; exact SemV.load ho ha hsz (by rw [hx]; exact hv)
        · cases h
      · rename_i xs k off hx
        obtain ⟨v, hv, rfl⟩ := outO_some h
        exact SemV.load ho ha hsz (by rw [hx]; simpa [loadV] using hv)
      · cases h
    · cases h
  · rename_i T x y ho
    split at h
    · rename_i sz hsz
      split at h
      · rename_i o' off hx
        split at h
        · rename_i cs hcs
          split at h
          · rename_i hc
            cases h
            exact SemV.store ho hsz (by rw [hx]; simp only [storeV, hcs]; rw [if_pos hc]; rfl)
          · cases h
        · cases h
      · cases h
    · cases h
  · rename_i x ho
    split at h
    · rename_i o' off hx
      cases h
      have := SemV.nilCheck (P := P) (Γ := Γ) (σ := σ) ho ⟨_, 0, by rw [hx]; rfl⟩
      rw [hx] at this
      exact this
    · rename_i xs k off hx
      cases h
      have := SemV.nilCheck (P := P) (Γ := Γ) (σ := σ) ho ⟨_, 0, by rw [hx]; rfl⟩
      rw [hx] at this
      exact this
    · rename_i k r off hx
      cases h
      have := SemV.nilCheck (P := P) (Γ := Γ) (σ := σ) ho ⟨_, 0, by rw [hx]; rfl⟩
      rw [hx] at this
      exact this
    · rename_i f p q hx
      cases h
      have := SemV.nilCheck_fn (P := P) (Γ := Γ) (σ := σ) ho hx
      rw [hx] at this
      exact this
    · cases h
  · rename_i op T x y T' ho
    split at h
    · rename_i c s v hb
      cases h
      have hchk : c = true := hchk
      subst hchk
      exact SemV.binOp ho hb
    · split at h
      · rename_i hc
        simp only [Bool.and_eq_true, Bool.or_eq_true, beq_iff_eq] at hc
        split at h
        · rename_i r z hz
          cases h
          have := SemV.eq ho hc.1.1.1 12 (by omega) hc.1.1.2 hc.1.2 hc.2 hz
          have e : (op == .eql) = decide (op = .eql) := by cases op <;> rfl
          simp only [e, decide_eq_true_eq]
          exact this
        · cases h
      · cases h
  · rename_i op T x ho
    obtain ⟨v, hv, rfl⟩ := outO_some h
    exact SemV.unOp ho hv
  · rename_i T x ho
    split at h
    · cases h
    · rename_i d hne hd
      cases h
      exact SemV.makeInterface ho hd (fun m hm => hne m hm)
    · cases h
  · rename_i fn fs cs ho; cases h; exact SemV.makeFunc ho
  · rename_i T x f ho
    split at h
    · rename_i d fl hf
      split at h
      · rename_i sz hsz
        split at h
        · rename_i hz
          obtain ⟨v, hv, rfl⟩ := outO_some h
          exact SemV.fieldAddr ho hf hsz hz hv
        · cases h
      · cases h
    · cases h
  · rename_i T x f ho
    split at h
    · rename_i fl hf
      split at h
      · rename_i ag sz cs ha hsz hx
        obtain ⟨v, hv, rfl⟩ := outO_some h
        exact SemV.field ho hf ha hsz hx hv
      · cases h
    · cases h
  · rename_i T x y ho
    split at h
    · rename_i n el hel
      split at h
      · rename_i sz k i s hsz hy
        split at h
        · rename_i c s' q hq
          cases h
          have hchk : c = true := hchk
          subst hchk
          exact SemV.indexX ho hel hsz hy hq
        · cases h
      · cases h
    · cases h
  · rename_i T x y ho
    split at h
    · rename_i n el hel
      split at h
      · rename_i ag sz k i cs ha hsz hy hx
        split at h
        · rename_i hi
          obtain ⟨v, hv, rfl⟩ := outO_some h
          refine SemV.index_arr (k := k) ho hel ha hsz hx ?_ hi.1 hi.2 hv
          generalize σ.eval Γ y = vy at hy
          cases vy <;> simp [V.int?] at hy
          obtain ⟨rfl, rfl⟩ := hy
          rfl
        · cases h
      · cases h
    · cases h
  · rename_i x i ho
    split at h
    · rename_i vs hx
      obtain ⟨v, hv, rfl⟩ := outO_some h
      exact SemV.extract ho hx hv
    · cases h
  · rename_i c ho
    split at h
    · rename_i f hcal
      split at h
      · rename_i g first cap hf
        split at h
        · cases h
        · rename_i hne
          obtain ⟨h1, hn⟩ := hcf _ _ _ _ _ h hchk
          rcases hn with ⟨e, _⟩ | ⟨_, fn, h2, h3, h4⟩
          · exact absurd e (beq_ne hne)
          · exact SemV.call ho hcal hf h2 h3 h4 h1
      · rename_i tm ps as bd hf
        obtain ⟨h1, hn⟩ := hcf _ _ _ _ _ h hchk
        rcases hn with ⟨_, hn⟩ | ⟨e, _⟩
        · exact SemV.yield ho hcal hf hn h1
        · exact absurd rfl e
      · cases h
    · rename_i b hcal
      obtain ⟨v, hv, rfl⟩ := outO_some h
      exact SemV.builtin ho hcal hv
    · cases h
  · cases h
end
end Go.Proofs.Ytnjjkobijjdnbaa

/- The evaluator of one operation: what it looks at. -/
set_option linter.unusedVariables false
set_option linter.unusedSimpArgs false
namespace Go.Proofs.Ytnjjkobijjdnbaa
open Go

/-- What an effect does with places that are kept free: it writes what is there, or at its own place. -/
def EffOk (slot : Nat) (al : Bool) (ob : Ob) (nm : Nm) (e : Eff) : Prop :=
  (∀ p ∈ e.wo, (∃ cs, ob[p.1]? = some (some cs)) ∨ (p.1 = slot ∧ al = true)) ∧ (∀ p ∈ e.wn, (∃ bf, nm[p.1]? = some (some bf)) ∨ (p.1 = slot ∧ al = true)) ∧
  ∀ p, e.blk = some p → (∀ s : Nat, ob[s]? = some none → p.1[s]? = some none) ∧ (∀ s : Nat, nm[s]? = some none → p.2[s]? = some none) ∧ (∀ o : Nat, o < e.bl.1 → o ∉ e.ko → p.1[o]? = ob[o]?) ∧ ∀ n : Nat, n < e.bl.2 → n ∉ e.kn → p.2[n]? = nm[n]?
/-- Two memories that an effect can't tell apart. -/
def Eff.lays (e : Eff) : Bool := e.blk.isSome || !(e.xo.isEmpty && e.xn.isEmpty)
def Eff.same (ob ob' : Ob) (nm nm' : Nm) (e : Eff) : Prop :=
  (∀ o ∈ e.ro, ob[o]? = ob'[o]?) ∧ (∀ n ∈ e.rn, nm[n]? = nm'[n]?) ∧ (e.lays = true → ob = ob' ∧ nm = nm')
structure CallsFit (cf : CallF) : Prop where
  eff : ∀ f args ob nm out, cf f args ob nm = some out → EffOk 0 false ob nm out.eff
  frame : ∀ f args ob nm out, cf f args ob nm = some out → ∀ ob' nm', out.eff.same ob ob' nm nm' → cf f args ob' nm' = some out

section
variable {P : Program} {Γ : Nat → Option V} {ob ob' : Ob} {nm nm' : Nm} {cf : CallF} {slot : Nat} {o : Oper} {e e' : Operand → V} {out : Out}

theorem EffOk.none (slot : Nat) (al : Bool) (ob : Ob) (nm : Nm) : EffOk slot al ob nm .pure := ⟨(fun p hp => by cases hp), (fun p hp => by cases hp), (fun p hp => by cases hp)⟩
theorem EffOk.rd (slot : Nat) (al : Bool) (ob : Ob) (nm : Nm) (o : Nat) : EffOk slot al ob nm (.rd o) := ⟨(fun p hp => by cases hp), (fun p hp => by cases hp), (fun p hp => by cases hp)⟩
theorem EffOk.mkO {slot : Nat} {al : Bool} {ob : Ob} {nm : Nm} {cs : List V} (h : al = true) : EffOk slot al ob nm (.mkO slot cs) := ⟨(fun p hp => by simp [Eff.mkO] at hp; subst hp; exact .inr ⟨rfl, h⟩), (fun p hp => by cases hp), (fun p hp => by cases hp)⟩
theorem EffOk.wr {slot : Nat} {al : Bool} {ob : Ob} {nm : Nm} {o : Nat} {c cs : List V} (h : ob[o]? = some (some c)) : EffOk slot al ob nm (.wr o cs) := ⟨(fun p hp => by simp [Eff.wr] at hp; subst hp; exact .inl ⟨c, h⟩), (fun p hp => by cases hp), (fun p hp => by cases hp)⟩
theorem EffOk.any {slot : Nat} {al : Bool} {ob : Ob} {nm : Nm} {e : Eff} (h : EffOk 0 false ob nm e) : EffOk slot al ob nm e :=
  ⟨(fun p hp => (h.1 p hp).imp_right (fun k => by cases k.2)), (fun p hp => (h.2.1 p hp).imp_right (fun k => by cases k.2)), h.2.2⟩
theorem evE0_eff (hc : CallsFit cf) (h : evE0 P cf slot o e ob nm = some out) : EffOk slot (allocs o) ob nm out.eff := by
  unfold evE0 at h
  split at h
  case h_3 =>
    split at h
    · split at h
      · obtain ⟨v, hv, rfl⟩ := outO_some h; exact EffOk.none _ _ _ _
      · cases h; exact EffOk.none _ _ _ _
    · cases h
  case h_4 T ho =>
    split at h
    · split at h
      · cases h; exact EffOk.mkO (by simp [allocs, ho])
      · cases h
    · cases h
  case h_5 T x ho =>
    split at h
    · cases h; exact EffOk.mkO (by simp [allocs, ho])
    · cases h
  case h_9 =>
    split at h
    · split at h
      · split at h
        · rename_i cs hcs
          split at h
          · cases h; exact EffOk.wr hcs
          · cases h
        · cases h
      · cases h
    · cases h
  all_goals
    repeat' (split at h)
    all_goals first
      | (cases h; done)
      | (cases h; exact EffOk.none _ _ _ _)
      | (cases h; exact EffOk.rd _ _ _ _ _)
      | (obtain ⟨v, hv, rfl⟩ := outO_some h; exact EffOk.none _ _ _ _)
      | exact (hc.eff _ _ _ _ _ h).any
theorem evE0_frame (hc : CallsFit cf) (h : evE0 P cf slot o e ob nm = some out) (hs : out.eff.same ob ob' nm nm') : evE0 P cf slot o e ob' nm' = some out := by
  unfold evE0 at h ⊢
  split at h
  case h_8 =>
    split at h
    · split at h
      · split at h
        · rename_i v hv
          cases h
          have hs : ob[_]? = ob'[_]? := hs.1 _ (List.mem_singleton.2 rfl)
          simp only [loadV, ← hs] at hv ⊢
          rw [hv]
        · cases h
      · exact h
      · cases h
    · cases h
  case h_9 =>
    split at h
    · split at h
      · split at h
        · rename_i cs hcs
          split at h
          · rename_i hc'
            cases h
            have hs : ob[_]? = ob'[_]? := hs.1 _ (List.mem_singleton.2 rfl)
            rw [hs] at hcs
            simp only [hcs]
            rw [if_pos hc']
          · cases h
        · cases h
      · cases h
    · cases h
  case h_20 =>
    split at h
    · split at h
      · split at h
        · cases h
        · exact hc.frame _ _ _ _ _ h _ _ hs
      · exact hc.frame _ _ _ _ _ h _ _ hs
      · cases h
    · exact h
    · cases h
  all_goals exact h
theorem evE0_loc (he : ∀ x, x ∈ o.op.operands → e x = e' x) : evE0 P cf slot o e ob nm = evE0 P cf slot o e' ob nm := by
  have hp : ∀ (ps : Array (Nat × Operand)), (∀ p ∈ ps.toList, e p.2 = e' p.2) → (ps.toList.map fun (i, x) => (i, e x)) = ps.toList.map fun (i, x) => (i, e' x) := fun ps h => List.map_congr_left fun p hp => by simp [h p hp]
  have hl : ∀ (l : List Operand), (∀ x ∈ l, e x = e' x) → l.map e = l.map e' := fun l h => List.map_congr_left h
  unfold evE0
  cases ho : o.op with
  | build T ps =>
    rw [ho] at he
    have := hp ps (fun p hm => he p.2 (by simp [Op.operands]; exact ⟨p.1, by simpa using hm⟩))
    simp only [this]
  | buildSlice T len ps =>
    rw [ho] at he
    have := hp ps (fun p hm => he p.2 (by simp [Op.operands]; exact ⟨p.1, by simpa using hm⟩))
    simp only [this]
  | makeFunc fn a c =>
    rw [ho] at he
    simp only [hl a.toList (fun x hx => he x (by simp [Op.operands]; exact .inl (by simpa using hx))), hl c.toList (fun x hx => he x (by simp [Op.operands]; exact .inr (by simpa using hx)))]
  | call c =>
    rw [ho] at he
    have := hl c.args.toList (fun x hx => he x (by simp [Op.operands, Call.operands]; exact .inr (by simpa using hx)))
    simp only [this]
    split
    · rename_i f hf
      rw [he f (by simp [Op.operands, Call.operands, hf])]
    · rfl
    · rfl
  | _ =>
    (rw [ho] at he) <;> first
      | rfl
      | ((simp only [Op.operands] at he) <;> simp [he])
end
end Go.Proofs.Ytnjjkobijjdnbaa

/- The evaluator of one operation with lists of plain data and buffers. -/
set_option linter.unusedVariables false
set_option linter.unusedSimpArgs false
namespace Go.Proofs.Ytnjjkobijjdnbaa
open Go

def V.isLs : V → Bool
  | .slst _ _ _ => true
  | .bs _ _ _ _ => true
  | _ => false
def V.isBp : V → Bool
  | .bp _ _ _ => true
  | _ => false
/-- Which operations are looked at here: by their shape, and that of what they are handed. -/
def xop (o : Oper) (e : Operand → V) : Bool :=
  match o.op with
  | .load _ x => (e x).isBp
  | .store _ x _ => (e x).isBp
  | .makeSlice _ _ _ => true
  | .convert _ _ _ => true
  | .index _ x _ => (e x).str?.isSome
  | .indexAddr _ x _ => (e x).isLs
  | .slice _ _ _ _ _ => true
  | .call c => match c.callee, c.args.toList with | .builtin .len, [x] => (e x).isLs | .builtin .append, [_, _] => true | .builtin .copy, [_, _] => true | .builtin .clear, [_] => true | _, _ => false
  | _ => false
def lenX (P : Program) (ts : Array TypeId) (x : V) : Option Out :=
  match ts[0]? with
  | some T =>
    if isSliceTy P T then
      match x with
      | .slst _ _ l => outP (.si .i64 (l.length : Nat))
      | .bs sy _ _ len => outP (mkI sy .i64 (len : Nat))
      | _ => none
    else none
  | none => none
def idxL (P : Program) (T : TypeId) (x y : V) (nm : Nm) : Option Out :=
  match tyElem P T with
  | some (none, el) =>
    match tySize P el, y.int? with
    | some sz, some (k, i, s) =>
      match x with
      | .slst _ ty l => if ty.size = sz then some ⟨decide (0 ≤ i ∧ i < (l.length : Int)), true, .pel [ty.val (l.getD i.toNat ty.dflt)] 0 0, .pure⟩ else none
      | .bs sy n off len =>
        match nm[n]? with
        | some (some (.live c)) => if c.sz = sz then some ⟨decide (0 ≤ i ∧ i < (len : Int)), sy || s, .bp n (off + i.toNat) 0, .rds [] [n]⟩ else none
        | _ => none
      | _ => none
    | _, _ => none
  | _ => none
def loadX (P : Program) (T : TypeId) (x : V) (nm : Nm) : Option Out :=
  match tyAgg P T, tySize P T with
  | some ag, some sz =>
    match x with
    | .bp n i off =>
      match nm[n]? with
      | some (some (.live c)) =>
        match c.at i with
        | some (b, s, cs) => match getV ag sz cs off with | some v => some ⟨b, s, v, .rds [] [n]⟩ | none => none
        | none => none
      | _ => none
    | _ => none
  | _, _ => none
def sliceX (P : Program) (T : TypeId) (x : V) (lo hi : Bd) (nm : Nm) : Option Out :=
  match x.str? with
  | some (s, sy) => if isStrTy P T then some ⟨decide (0 ≤ lo.lo ∧ lo.lo ≤ hi.hi s.size ∧ hi.hi s.size ≤ (s.size : Int)), sy || lo.sy || hi.sy, mkS (sy || lo.sy || hi.sy) (s.extract lo.lo.toNat (hi.hi s.size).toNat), .pure⟩ else none
  | none =>
    match tyElem P T with
    | some (none, el) =>
      match tySize P el with
      | some sz =>
        match x with
        | .slst _ ty l => if ty.size = sz then some ⟨decide (0 ≤ lo.lo ∧ lo.lo ≤ hi.hi l.length ∧ hi.hi l.length ≤ (l.length : Int)), true, .slst .ro ty ((l.take (hi.hi l.length).toNat).drop lo.lo.toNat), .pure⟩ else none
        | .lst _ xs => if xs.all (fun v => v.cells.length == sz) && !(lo.sy || hi.sy) then some ⟨decide (0 ≤ lo.lo ∧ lo.lo ≤ hi.hi xs.length ∧ hi.hi xs.length ≤ (xs.length : Int)), false, .lst .ro ((xs.take (hi.hi xs.length).toNat).drop lo.lo.toNat), .pure⟩ else none
        | .bs sy n off len =>
          match nm[n]? with
          | some (some (.live c)) => if c.sz = sz then some ⟨decide (0 ≤ lo.lo ∧ lo.lo ≤ hi.hi len ∧ hi.hi len ≤ (len : Int)), sy || lo.sy || hi.sy, .bs (sy || lo.sy || hi.sy) n (off + lo.lo.toNat) ((hi.hi len).toNat - lo.lo.toNat), .rds [] [n]⟩ else none
          | _ => none
        | _ => none
      | none => none
    | _ => none
def evX (P : Program) (slot : Nat) (o : Oper) (e : Operand → V) (nm : Nm) : Option Out :=
  match o.op with
  | .load T x => loadX P T (e x) nm
  | .store T x y => stoX P T (e x) (e y) nm
  | .makeSlice T x y => makX P T (e x) (e y) slot
  | .convert S D x => cnvX P S D (e x) nm
  | .index T x y => idxS P T (e x) (e y)
  | .indexAddr T x y => idxL P T (e x) (e y) nm
  | .slice T x low high none => match bdE e low, bdE e high with | some lo, some hi => sliceX P T (e x) lo hi nm | _, _ => none
  | .call c => match c.callee, c.args.toList with | .builtin .len, [x] => lenX P c.argTypes (e x) | .builtin .append, [x, y] => appX P c.argTypes (e x) (e y) nm slot | .builtin .copy, [x, y] => copX P c.argTypes (e x) (e y) nm | .builtin .clear, [x] => clrX P c.argTypes (e x) nm | _, _ => none
  | _ => none
def evE (P : Program) (cf : CallF) (slot : Nat) (o : Oper) (e : Operand → V) (ob : Ob) (nm : Nm) : Option Out :=
  match xop o e with
  | true => evX P slot o e nm
  | false => evE0 P cf slot o e ob nm

section
variable {P : Program} {Γ : Nat → Option V} {σ : St} {ob ob' : Ob} {nm nm' : Nm} {cf : CallF} {slot : Nat} {o : Oper} {e e' : Operand → V} {out : Out}
theorem SemV.lenX {c : Call} {x : Operand} (ho : o.op = .call c) (hc : c.callee = .builtin .len) (ha : c.args.toList = [x]) (h : lenX P c.argTypes (σ.eval Γ x) = some out) : SemV P Γ o σ out.v (out.eff.ob σ.ob) (out.eff.nm σ.nm) := by
  unfold Go.Proofs.Ytnjjkobijjdnbaa.lenX at h
  split at h
  · rename_i T hT
    split at h
    · rename_i hs
      unfold isSliceTy at hs
      split at hs
      · rename_i el hu
        have hca : ∀ a : Act, c.args.map a.eval = #[a.eval x] := fun a => by apply Array.ext'; simp [ha]
        split at h
        · rename_i t ty l hx
          cases h
          refine SemV.of_pure fun G a w hr => ?_
          have hxx := hr.eval x
          rw [hx] at hxx
          cases hxx with
          | slst q =>
            obtain ⟨p, cap, he⟩ := q.slice_form
            simp only [List.length_map] at he
            exact ⟨_, by simp [execOp, ho, resolve, hc, invoke, Go.builtin, hca, Builtin.len_, hT, run_underlying hu, he, goInt], .si _ _⟩
        · rename_i sy n off len hx
          cases h
          refine SemV.of_pure fun G a w hr => ?_
          have hxx := hr.eval x
          rw [hx] at hxx
          obtain ⟨p, cap, he⟩ : ∃ p cap, a.eval x = .slice p len cap := by
            generalize a.eval x = cv at hxx
            cases hxx <;> exact ⟨_, _, rfl⟩
          exact ⟨.int .i64 (len : Nat), by simp [execOp, ho, resolve, hc, invoke, Go.builtin, hca, Builtin.len_, hT, run_underlying hu, he, goInt], mkI_rel _ _ _ _⟩
        · cases h
      · cases hs
    · cases h
  · cases h
theorem evX_sound (h : evX P slot o (σ.eval Γ) σ.nm = some out) (hchk : out.chk = true) (hs : allocs o = true → σ.ob[slot]? = some none ∧ σ.nm[slot]? = some none) : SemV P Γ o σ out.v (out.eff.ob σ.ob) (out.eff.nm σ.nm) := by
  unfold evX at h
  split at h
  · rename_i T x ho
    unfold loadX at h
    split at h
    · rename_i ag sz ha hsz
      split at h
      · rename_i n i off hx
        split at h
        · rename_i c hn
          split at h
          · rename_i b s cs hat
            split at h
            · rename_i v hv
              cases h
              have hchk : b = true := hchk
              subst hchk
              exact SemV.load_bp ho ha hsz hx hn hat hv
            · cases h
          · cases h
        · cases h
      · cases h
    · cases h
  · rename_i T x y ho
    exact SemV.stoX ho h hchk
  · rename_i T x y ho
    exact SemV.makX ho h hchk (hs (by simp [allocs, ho])).2
  · rename_i S D x ho
    exact SemV.cnvX ho h
  · rename_i T x y ho
    exact SemV.idxS ho h hchk
  · rename_i T x y ho
    unfold idxL at h
    split at h
    · rename_i el hel
      split at h
      · rename_i sz k i s hsz hy
        split at h
        · rename_i t ty l hx
          split at h
          · rename_i hz
            cases h
            exact SemV.index_slst ho hel hsz hz hx hy (of_decide_eq_true hchk)
          · cases h
        · rename_i sy n off len hx
          split at h
          · rename_i c hn
            split at h
            · rename_i hz
              cases h
              exact SemV.index_bs ho hel hsz hz hx hn hy (of_decide_eq_true hchk)
            · cases h
          · cases h
        · cases h
      · cases h
    · cases h
  · rename_i T x low high ho
    split at h
    · rename_i lo hi hlo hhi
      unfold sliceX at h
      split at h
      · rename_i s sy hx
        split at h
        · rename_i hst
          cases h
          have hd := of_decide_eq_true hchk
          unfold isStrTy at hst
          split at hst
          · rename_i hu
            exact SemV.slice_str ho hu hx hlo hhi hd.1 hd.2.1 hd.2.2
          · cases hst
        · cases h
      · split at h
        · rename_i el hel
          split at h
          · rename_i sz hsz
            split at h
            · rename_i t ty l hx
              split at h
              · rename_i hz
                cases h
                have hd := of_decide_eq_true hchk
                exact SemV.slice_slst ho hel hsz hz hx hlo hhi hd.1 hd.2.1 hd.2.2
              · cases h
            · rename_i t xs hx
              split at h
              · rename_i hz
                simp only [Bool.and_eq_true] at hz
                cases h
                have hd := of_decide_eq_true hchk
                exact SemV.slice_lst ho hel hsz hz.1 hx hlo hhi hd.1 hd.2.1 hd.2.2
              · cases h
            · rename_i sy n off len hx
              split at h
              · rename_i c hn
                split at h
                · rename_i hz
                  cases h
                  have hd := of_decide_eq_true hchk
                  exact SemV.slice_bs ho hel hsz hz hx hn hlo hhi hd.1 hd.2.1 hd.2.2
                · cases h
              · cases h
            · cases h
          · cases h
        · cases h
    · cases h
  · rename_i c ho
    split at h
    · rename_i x hcal hargs
      exact SemV.lenX ho hcal hargs h
    · rename_i x y hcal hargs
      exact SemV.appX ho hcal hargs h hchk (hs (by simp [allocs, ho, hcal])).2
    · rename_i x y hcal hargs
      exact SemV.copX ho hcal hargs h
    · rename_i x hcal hargs
      exact SemV.clrX ho hcal hargs h
    · cases h
  · cases h
theorem evE_sound (hcf : CallsOk P Γ cf) (h : evE P cf slot o (σ.eval Γ) σ.ob σ.nm = some out) (hchk : out.chk = true) (hs : allocs o = true → σ.ob[slot]? = some none ∧ σ.nm[slot]? = some none) : SemV P Γ o σ out.v (out.eff.ob σ.ob) (out.eff.nm σ.nm) := by
  unfold evE at h
  split at h
  · exact evX_sound h hchk hs
  · exact evE0_sound hcf h hchk hs
theorem EffOk.rds (slot : Nat) (al : Bool) (ob : Ob) (nm : Nm) (a b : List Nat) : EffOk slot al ob nm (.rds a b) := ⟨(fun p hp => by cases hp), (fun p hp => by cases hp), (fun p hp => by cases hp)⟩
theorem appX_eff {ts : Array TypeId} {x y : V} {al : Bool} (hal : al = true) (h : appX P ts x y nm slot = some out) : EffOk slot al ob nm out.eff := by
  unfold appX at h
  repeat' (split at h)
  all_goals first
    | (cases h; done)
    | (cases h; exact ⟨(fun p hp => by cases hp), (fun p hp => by
        simp only [List.mem_cons, List.not_mem_nil, or_false] at hp
        first
          | (subst hp; exact .inr ⟨rfl, hal⟩)
          | (rcases hp with rfl | rfl
             · exact .inl ⟨_, by assumption⟩
             · exact .inr ⟨rfl, hal⟩)), (fun p hp => by cases hp)⟩)
theorem stoX_eff {T : TypeId} {x y : V} {al : Bool} (h : stoX P T x y nm = some out) : EffOk slot al ob nm out.eff := by
  unfold stoX at h
  repeat' (split at h)
  all_goals first
    | (cases h; done)
    | (cases h; exact ⟨(fun p hp => by cases hp), (fun p hp => by
        simp only [List.mem_cons, List.not_mem_nil, or_false] at hp
        subst hp
        exact .inl ⟨_, by assumption⟩), (fun p hp => by cases hp)⟩)
theorem makX_eff {T : TypeId} {x y : V} {al : Bool} (hal : al = true) (h : makX P T x y slot = some out) : EffOk slot al ob nm out.eff := by
  unfold makX at h
  repeat' (split at h)
  all_goals first
    | (cases h; done)
    | (cases h; exact ⟨(fun p hp => by cases hp), (fun p hp => by
        simp only [List.mem_cons, List.not_mem_nil, or_false] at hp
        subst hp
        exact .inr ⟨rfl, hal⟩), (fun p hp => by cases hp)⟩)
theorem copX_eff {ts : Array TypeId} {x y : V} {al : Bool} (h : copX P ts x y nm = some out) : EffOk slot al ob nm out.eff := by
  unfold copX at h
  repeat' (split at h)
  all_goals first
    | (cases h; done)
    | (cases h; exact ⟨(fun p hp => by cases hp), (fun p hp => by
        simp only [List.mem_cons, List.not_mem_nil, or_false] at hp
        subst hp
        exact .inl ⟨_, by assumption⟩), (fun p hp => by cases hp)⟩)
    | (cases h; exact ⟨(fun p hp => by cases hp), (fun p hp => by cases hp), (fun p hp => by cases hp)⟩)
theorem clrX_eff {ts : Array TypeId} {x : V} {al : Bool} (h : clrX P ts x nm = some out) : EffOk slot al ob nm out.eff := by
  unfold clrX at h
  repeat' (split at h)
  all_goals first
    | (cases h; done)
    | (cases h; exact EffOk.none _ _ _ _)
    | (cases h; exact ⟨(fun p hp => by cases hp), (fun p hp => by
        simp only [List.mem_cons, List.not_mem_nil, or_false] at hp
        subst hp
        exact .inl ⟨_, by assumption⟩), (fun p hp => by cases hp)⟩)
theorem evX_eff (h : evX P slot o e nm = some out) : EffOk slot (allocs o) ob nm out.eff := by
  unfold evX at h
  split at h
  case h_2 T x y ho => exact stoX_eff h
  case h_3 T x y ho => exact makX_eff (by simp [allocs, ho]) h
  case h_4 S D x ho =>
    unfold cnvX at h
    repeat' (split at h)
    all_goals first
      | (cases h; done)
      | (cases h; exact EffOk.none _ _ _ _)
      | (cases h; exact EffOk.rds _ _ _ _ _ _)
  case h_5 T x y ho =>
    unfold idxS at h
    repeat' (split at h)
    all_goals first
      | (cases h; done)
      | (cases h; exact EffOk.none _ _ _ _)
  case h_8 c ho =>
    split at h
    · unfold lenX at h
      repeat' (split at h)
      all_goals first
        | (cases h; done)
        | (cases h; exact EffOk.none _ _ _ _)
    · rename_i x y hcal hargs
      exact appX_eff (by simp [allocs, ho, hcal]) h
    · exact copX_eff h
    · exact clrX_eff h
    · cases h
  all_goals
    (try unfold loadX at h)
    (try unfold idxL at h)
    (try unfold sliceX at h)
    repeat' (split at h)
    all_goals first
      | (cases h; done)
      | (cases h; exact EffOk.none _ _ _ _)
      | (cases h; exact EffOk.rds _ _ _ _ _ _)
theorem evE_eff (hc : CallsFit cf) (h : evE P cf slot o e ob nm = some out) : EffOk slot (allocs o) ob nm out.eff := by
  unfold evE at h
  split at h
  · exact evX_eff h
  · exact evE0_eff hc h
theorem rds1 {n : Nat} (h : (Eff.rds [] [n]).same ob ob' nm nm') : nm[n]? = nm'[n]? := h.2.1 n (List.mem_singleton.2 rfl)
theorem ysE_frame {size : Nat} {tx : TypeId} {y : V} {c : BC} {rn : List Nat} (h : ysE P size tx y nm = some (c, rn)) (hs : ∀ n ∈ rn, nm[n]? = nm'[n]?) : ysE P size tx y nm' = some (c, rn) := by
  unfold ysE at h ⊢
  split at h
  · exact h
  · split at h
    · rename_i hsl
      rw [if_pos hsl]
      split at h
      · exact h
      · exact h
      · split at h
        · rename_i c0 hn
          split at h
          · rename_i hz
            cases h
            rw [hs _ (List.mem_singleton.2 rfl)] at hn
            simp only [*, if_true, and_self]
          · cases h
        · cases h
      · cases h
    · cases h
theorem appX_frame {ts : Array TypeId} {x y : V} (h : appX P ts x y nm slot = some out) (hs : ∀ n ∈ out.eff.rn, nm[n]? = nm'[n]?) : appX P ts x y nm' slot = some out := by
  unfold appX at h ⊢
  split at h
  · split at h
    · split at h
      · split at h
        · rename_i b rn hys
          split at h
          · split at h
            · cases h
              have hy := ysE_frame hys hs
              simp only [*]
            · cases h
          · split at h
            · split at h
              · cases h
                have hy := ysE_frame hys hs
                simp only [*]
              · split at h
                · cases h
                  have hy := ysE_frame hys hs
                  simp only [*]
                · cases h
            · cases h
          · split at h
            · rename_i c hn
              split at h
              · split at h
                · cases h
                  have hy := ysE_frame hys (fun n hn => hs n (List.mem_cons_of_mem _ hn))
                  rw [hs _ (List.mem_cons_self ..)] at hn
                  simp only [*, if_true]
                · cases h
              · cases h
            · cases h
          · cases h
        · cases h
      · cases h
    · cases h
  · cases h
theorem stoX_frame {T : TypeId} {x y : V} (h : stoX P T x y nm = some out) (hs : ∀ n ∈ out.eff.rn, nm[n]? = nm'[n]?) : stoX P T x y nm' = some out := by
  unfold stoX at h ⊢
  split at h
  · split at h
    · split at h
      · rename_i c hn
        split at h
        · split at h
          · split at h
            · cases h
              rw [hs _ (List.mem_singleton.2 rfl)] at hn
              rename_i hc c' hset
              simp only [*, if_true, and_self]
            · cases h
          · cases h
        · cases h
      · cases h
    · cases h
  · cases h
theorem copX_frame {ts : Array TypeId} {x y : V} (h : copX P ts x y nm = some out) (hs : ∀ n ∈ out.eff.rn, nm[n]? = nm'[n]?) : copX P ts x y nm' = some out := by
  unfold copX at h ⊢
  split at h
  · split at h
    · split at h
      · split at h
        · rename_i b rn hys
          split at h
          · cases h
            have hy := ysE_frame hys hs
            simp only [*]
          · split at h
            · rename_i c hn
              split at h
              · split at h
                · cases h
                  have hy := ysE_frame hys (fun n hn => hs n (List.mem_cons_of_mem _ hn))
                  rw [hs _ (List.mem_cons_self ..)] at hn
                  simp only [*, if_true]
                · cases h
              · cases h
            · cases h
          · cases h
        · cases h
      · cases h
    · cases h
  · cases h
theorem clrX_frame {ts : Array TypeId} {x : V} (h : clrX P ts x nm = some out) (hs : ∀ n ∈ out.eff.rn, nm[n]? = nm'[n]?) : clrX P ts x nm' = some out := by
  unfold clrX at h ⊢
  split at h
  · split at h
    · split at h
      · split at h
        · split at h
          · rename_i hzz
            split at h
            · cases h
              simp only [*, if_true, and_self]
            · split at h
              · rename_i c hn
                split at h
                · split at h
                  · split at h
                    · cases h
                      rw [hs _ (List.mem_singleton.2 rfl)] at hn
                      simp only [*, if_true, and_self]
                    · cases h
                  · cases h
                · cases h
              · cases h
            · cases h
          · cases h
        · cases h
      · cases h
    · cases h
  · cases h
theorem evX_frame (h : evX P slot o e nm = some out) (hs : out.eff.same ob ob' nm nm') : evX P slot o e nm' = some out := by
  unfold evX at h ⊢
  split at h
  · rename_i T x ho
    unfold loadX at h ⊢
    split at h
    · split at h
      · split at h
        · rename_i c hn
          split at h
          · split at h
            · cases h
              rw [rds1 hs] at hn
              simp only [*]
            · cases h
          · cases h
        · cases h
      · cases h
    · cases h
  · exact stoX_frame h hs.2.1
  · exact h
  · unfold cnvX at h ⊢
    split at h
    · exact h
    · exact h
    · split at h
      · split at h
        · cases h
        · rename_i hstr
          split at h
          · rename_i b rn hy
            split at h
            · cases h
              have hy' := ysE_frame hy hs.2.1
              simp only [*]
            · cases h
          · cases h
      · cases h
    · cases h
  · exact h
  · rename_i T x y ho
    unfold idxL at h ⊢
    split at h
    · split at h
      · split at h
        · exact h
        · split at h
          · rename_i c hn
            split at h
            · cases h
              rw [rds1 hs] at hn
              simp only [*, if_true]
            · cases h
          · cases h
        · cases h
      · cases h
    · cases h
  · split at h
    · unfold sliceX at h ⊢
      split at h
      · exact h
      · split at h
        · split at h
          · split at h
            · exact h
            · exact h
            · split at h
              · rename_i c hn
                split at h
                · cases h
                  rw [rds1 hs] at hn
                  simp only [*, if_true]
                · cases h
              · cases h
            · cases h
          · cases h
        · cases h
    · cases h
  · split at h
    · exact h
    · exact appX_frame h hs.2.1
    · exact copX_frame h hs.2.1
    · exact clrX_frame h hs.2.1
    · cases h
  · cases h
theorem evE_frame (hc : CallsFit cf) (h : evE P cf slot o e ob nm = some out) (hs : out.eff.same ob ob' nm nm') : evE P cf slot o e ob' nm' = some out := by
  unfold evE at h ⊢
  split at h
  · exact evX_frame h hs
  · exact evE0_frame hc h hs
theorem bdE_loc {x : Option Operand} (h : ∀ y, x = some y → e y = e' y) : bdE e x = bdE e' x := by
  cases x with
  | none => rfl
  | some x => simp only [bdE, h x rfl]
theorem evE_loc (he : ∀ x, x ∈ o.op.operands → e x = e' x) : evE P cf slot o e ob nm = evE P cf slot o e' ob nm := by
  have h1 : xop o e = xop o e' := by
    unfold xop
    cases ho : o.op <;> (rw [ho] at he) <;> first
      | rfl
      | (simp only [Op.operands] at he; simp [he]; done)
      | skip
    rename_i c
    simp only [Op.operands] at he
    simp only []
    split
    · rename_i x hcal ha
      have : e x = e' x := he x (by
        have hx : x ∈ c.args.toList := by rw [ha]; exact List.mem_singleton.2 rfl
        simp [Call.operands]; exact .inr (by simpa using hx))
      rw [this]
    · rfl
    · rfl
    · rfl
    · rfl
  have h2 : evX P slot o e nm = evX P slot o e' nm := by
    unfold evX
    cases ho : o.op <;> (rw [ho] at he) <;> first
      | rfl
      | (simp only [Op.operands] at he; simp [he]; done)
      | skip
    · rename_i T x low high mx
      cases mx with
      | some m => rfl
      | none =>
        simp only [Op.operands] at he
        have a1 : e x = e' x := he x (by simp)
        have a2 : bdE e low = bdE e' low := bdE_loc fun y hy => he y (by simp [hy])
        have a3 : bdE e high = bdE e' high := bdE_loc fun y hy => he y (by simp [hy])
        simp only [a1, a2, a3]
    · rename_i c
      simp only [Op.operands] at he
      simp only []
      split
      · rename_i x hcal ha
        have : e x = e' x := he x (by
          have hx : x ∈ c.args.toList := by rw [ha]; exact List.mem_singleton.2 rfl
          simp [Call.operands]; exact .inr (by simpa using hx))
        rw [this]
      · rename_i x y hcal ha
        have h1 : e x = e' x := he x (by
          have hx : x ∈ c.args.toList := by rw [ha]; simp
          simp [Call.operands]; exact .inr (by simpa using hx))
        have h2 : e y = e' y := he y (by
          have hx : y ∈ c.args.toList := by rw [ha]; simp
          simp [Call.operands]; exact .inr (by simpa using hx))
        rw [h1, h2]
      · rename_i x y hcal ha
        have h1 : e x = e' x := he x (by
          have hx : x ∈ c.args.toList := by rw [ha]; simp
          simp [Call.operands]; exact .inr (by simpa using hx))
        have h2 : e y = e' y := he y (by
          have hx : y ∈ c.args.toList := by rw [ha]; simp
          simp [Call.operands]; exact .inr (by simpa using hx))
        rw [h1, h2]
      · rename_i x hcal ha
        have : e x = e' x := he x (by
          have hx : x ∈ c.args.toList := by rw [ha]; exact List.mem_singleton.2 rfl
          simp [Call.operands]; exact .inr (by simpa using hx))
        rw [this]
      · rfl
  unfold evE
  rw [h1, h2, evE0_loc he]
end
end Go.Proofs.Ytnjjkobijjdnbaa

/- A region: its operations in the text's order, and in any order. -/
set_option linter.unusedVariables false
set_option linter.unusedSimpArgs false
namespace Go.Proofs.Ytnjjkobijjdnbaa
open Go

/-! ### Decision trees -/
inductive Tr (α : Type) where
  | leaf (x : Option α)
  | br (b : Bool) (x y : Tr α)
def Tr.run {α : Type} : Tr α → Option α
  | .leaf x => x
  | .br b x y => match b with | true => x.run | false => y.run
def Tr.bind {α β : Type} : Tr α → (α → Tr β) → Tr β
  | .leaf none, _ => .leaf none
  | .leaf (some a), f => f a
  | .br b x y, f => .br b (x.bind f) (y.bind f)
theorem Tr.run_bind {α β : Type} (t : Tr α) (f : α → Tr β) : (t.bind f).run = t.run.bind fun a => (f a).run := by
  induction t with
  | leaf x => cases x <;> rfl
  | br b x y ihx ihy => cases b <;> simp [Tr.bind, Tr.run, ihx, ihy]
/-- What must hold. -/
def Tr.chk {α : Type} (c s : Bool) (t : Tr α) : Tr α :=
  match s with
  | true => .br c t (.leaf none)
  | false => match c with | true => t | false => .leaf none
theorem Tr.run_chk {α : Type} (c s : Bool) (t : Tr α) : (Tr.chk c s t).run = if c then t.run else none := by cases s <;> cases c <;> rfl

/-! ### One step of a region -/
def wantedL (ops : Array Oper) (tm : List V) (o : Oper) : Option Bool :=
  match o.guard with
  | none => some true
  | some (j, want) =>
    match (ops[j]?).bind (·.dst) with
    | none => some false
    | some d =>
      match tm[d]? with
      | some (.b x) => some (x == want)
      | some (.tup _) => some false
      | _ => none
theorem wantedL_V {ops : Array Oper} {tm : List V} {o : Oper} {t : Bool} (h : wantedL ops tm o = some t) : wantedV ops tm o = some t := by
  unfold wantedL at h
  unfold wantedV
  split
  · rename_i hg; simpa [hg] using h
  · rename_i j want hg
    simp only [hg] at h
    split
    · rename_i hd; simpa [hd] using h
    · rename_i d hd
      simp only [hd] at h
      split <;> rename_i ht <;> simp [ht] at h ⊢ <;> exact h
/-- A Bool that a guard asks for is decided where it is made. -/
def litG (g : Bool) (v : V) : V := match g, v with | true, .sb b => .b b | _, v => v
theorem litG_rel {G : Gh} (g : Bool) {v : V} {cv : Value} (h : VRel G v cv) : VRel G (litG g v) cv := by
  unfold litG
  split
  · cases h; exact .b _
  · exact h
def isGd (ops : Array Oper) (i : Nat) : Bool := ops.toList.any fun o => match o.guard with | some (j, _) => j == i | none => false
def slotOf (ops : Array Oper) (base i : Nat) : Nat := base + ((ops.toList.take i).filter allocs).length
def St.after (x : St) (out : Out) (d : Option Nat) (v : V) : St := ({ x with ob := out.eff.ob x.ob, nm := out.eff.nm x.nm } : St).put d v

section
variable {P : Program} {Γ : Nat → Option V} {cf : CallF} {ops : Array Oper} {base : Nat}

def stp (P : Program) (Γ : Nat → Option V) (cf : CallF) (ops : Array Oper) (base i : Nat) (x : St) : Option (St × Option Eff) :=
  match ops[i]? with
  | none => some (x, none)
  | some o =>
    match wantedL ops x.tm o with
    | none => none
    | some false => some (x.put o.dst (.tup []), none)
    | some true =>
      match evE P cf (slotOf ops base i) o (x.eval Γ) x.ob x.nm with
      | none => none
      | some out => if out.chk then some (x.after out o.dst (litG (isGd ops i) out.v), some out.eff) else none
/-- The places that are kept from operation i on are free. -/
def Free (ops : Array Oper) (base i : Nat) (x : St) : Prop := ∀ j o, i ≤ j → ops[j]? = some o → allocs o = true → x.ob[slotOf ops base j]? = some none ∧ x.nm[slotOf ops base j]? = some none

/-- A step in the machine. -/
theorem stp_wp (hcf : CallsOk P Γ cf) (hfit : CallsFit cf) {i : Nat} {x x' : St} {ef : Option Eff} (h : stp P Γ cf ops base i x = some (x', ef)) (hfree : ∀ o, ops[i]? = some o → allocs o = true → x.ob[slotOf ops base i]? = some none ∧ x.nm[slotOf ops base i]? = some none)
    {ro : Option Nat} {G : Gh} {a : Act} {w : World} (hr : Rel Γ G x a w) (K : Act → World → Prop) (Q : Exit → Act → World → Prop) (hk : ∀ G' a' w', G.le G' → Rel Γ G' x' a' w' → K a' w') : wpOpIn (wideR ro) 0 P ops Q i K a w := by
  unfold stp at h
  unfold wpOpIn
  cases ho : ops[i]? with
  | none =>
    simp only [ho, Option.some.injEq, Prod.mk.injEq] at h
    obtain ⟨rfl, rfl⟩ := h
    exact hk G a w (.refl G) hr
  | some o =>
    simp only [ho] at h ⊢
    split at h
    · cases h
    · rename_i hw
      simp only [Option.some.injEq, Prod.mk.injEq] at h
      obtain ⟨rfl, rfl⟩ := h
      rw [wanted_of hr.tm (wantedL_V hw)]
      exact ⟨fun _ _ => trivial, hk G _ w (.refl G) (hr.put o.dst (VRel.undef G))⟩
    · rename_i hw
      rw [wanted_of hr.tm (wantedL_V hw)]
      split at h
      · cases h
      · rename_i out he
        split at h
        · rename_i hc
          simp only [Option.some.injEq, Prod.mk.injEq] at h
          obtain ⟨rfl, rfl⟩ := h
          have hsv := evE_sound (σ := x) hcf he hc (hfree o ho)
          simp only [if_true]
          refine hsv ro G a w K Q hr ?_
          intro G' cv w' hle hv hw'
          refine hk G' _ w' hle ?_
          have : Rel Γ G' { x with ob := out.eff.ob x.ob, nm := out.eff.nm x.nm } a w' := ⟨hr.tm.mono hle, hw', hr.df.mono hle.d hle.kd, hle.kh.trans hr.kh, hle.kt.trans hr.kt⟩
          exact this.put o.dst (litG_rel _ hv)
        · cases h

/-- The steps from operation i on, n of them: the state and the effects. -/
def chain (P : Program) (Γ : Nat → Option V) (cf : CallF) (ops : Array Oper) (base : Nat) : Nat → Nat → St → Option (St × List (Option Eff))
  | 0, _, x => some (x, [])
  | n + 1, i, x =>
    match stp P Γ cf ops base i x with
    | none => none
    | some (x1, ef) =>
      match chain P Γ cf ops base n (i + 1) x1 with
      | none => none
      | some (x2, es) => some (x2, ef :: es)

theorem setsO_get {s : Nat} : ∀ (ps : List (Nat × List V)) (ob : Ob), (∀ p ∈ ps, p.1 ≠ s) → (setsO ps ob)[s]? = ob[s]?
  | [], ob, _ => rfl
  | p :: ps, ob, h => by
    simp only [setsO]
    rw [setsO_get ps _ (fun q hq => h q (by simp [hq])), List.getElem?_set_ne (h p (by simp))]
theorem setsN_get {s : Nat} : ∀ (ps : List (Nat × Bf)) (nm : Nm), (∀ p ∈ ps, p.1 ≠ s) → (setsN ps nm)[s]? = nm[s]?
  | [], nm, _ => rfl
  | p :: ps, nm, h => by
    simp only [setsN]
    rw [setsN_get ps _ (fun q hq => h q (by simp [hq])), List.getElem?_set_ne (h p (by simp))]
theorem get_lt {α : Type} {l : List α} {i : Nat} {a : α} (h : l[i]? = some a) : i < l.length := by
  rcases Nat.lt_or_ge i l.length with h' | h'
  · exact h'
  · rw [List.getElem?_eq_none h'] at h; cases h
theorem Eff.ob_get {e : Eff} {ob : Ob} {s : Nat} {c : Option (List V)} (h : (setsO e.wo ob)[s]? = some c) (hb : ∀ p, e.blk = some p → p.1[s]? = some c) : (e.ob ob)[s]? = some c := by
  unfold Eff.ob
  split
  · rename_i p hp; exact hb p hp
  · split
    · exact h
    · rw [List.getElem?_append_left (get_lt h)]; exact h
theorem Eff.nm_get {e : Eff} {nm : Nm} {s : Nat} {c : Option Bf} (h : (setsN e.wn nm)[s]? = some c) (hb : ∀ p, e.blk = some p → p.2[s]? = some c) : (e.nm nm)[s]? = some c := by
  unfold Eff.nm
  split
  · rename_i p hp; exact hb p hp
  · split
    · exact h
    · rw [List.getElem?_append_left (get_lt h)]; exact h
theorem set_free {x : St} {i : Nat} {x' : St} {ef : Option Eff} (hfit : CallsFit cf) (h : stp P Γ cf ops base i x = some (x', ef)) {s : Nat} (hs : x.ob[s]? = some none ∧ x.nm[s]? = some none) (hne : ∀ o, ops[i]? = some o → allocs o = true → s ≠ slotOf ops base i) : x'.ob[s]? = some none ∧ x'.nm[s]? = some none := by
  unfold stp at h
  have hput : ∀ (y : St) (d : Option Nat) (v : V), (y.put d v).ob = y.ob ∧ (y.put d v).nm = y.nm := fun y d v => by cases d <;> exact ⟨rfl, rfl⟩
  split at h
  · cases h; exact hs
  · rename_i o ho
    split at h
    · cases h
    · cases h; rw [(hput _ _ _).1, (hput _ _ _).2]; exact hs
    · split at h
      · cases h
      · rename_i out he
        split at h
        · cases h
          rw [show (x.after out o.dst (litG (isGd ops i) out.v)).ob = out.eff.ob x.ob from (hput _ _ _).1, show (x.after out o.dst (litG (isGd ops i) out.v)).nm = out.eff.nm x.nm from (hput _ _ _).2]
          obtain ⟨k1, k2, k3⟩ := evE_eff hfit he
          refine ⟨Eff.ob_get ?_ (fun p hp => (k3 p hp).1 s hs.1), Eff.nm_get ?_ (fun p hp => (k3 p hp).2.1 s hs.2)⟩
          · rw [setsO_get]
            · exact hs.1
            · intro p hp e
              rcases k1 p hp with ⟨cs, hc⟩ | ⟨hc, hal⟩
              · rw [e, hs.1] at hc; cases hc
              · exact hne o ho hal (e.symm.trans hc)
          · rw [setsN_get]
            · exact hs.2
            · intro p hp e
              rcases k2 p hp with ⟨cs, hc⟩ | ⟨hc, hal⟩
              · rw [e, hs.2] at hc; cases hc
              · exact hne o ho hal (e.symm.trans hc)
        · cases h

theorem slot_lt {i j : Nat} {o : Oper} (hij : i < j) (ho : ops[i]? = some o) (hal : allocs o = true) : slotOf ops base i < slotOf ops base j := by
  unfold slotOf
  have hi : i < ops.toList.length := by
    rcases Nat.lt_or_ge i ops.toList.length with h | h
    · exact h
    · have : ops.toList[i]? = some o := by simpa using ho
      rw [List.getElem?_eq_none h] at this
      cases this
  have h1 : ops.toList.take (i + 1) = ops.toList.take i ++ [o] := by
    rw [List.take_succ_eq_append_getElem hi]
    congr 2
    have : ops.toList[i]? = some o := by simpa using ho
    rw [List.getElem?_eq_getElem hi] at this
    exact Option.some.inj this
  have h2 : ((ops.toList.take i).filter allocs).length + 1 = ((ops.toList.take (i + 1)).filter allocs).length := by rw [h1]; simp [hal]
  have h3 : ((ops.toList.take (i + 1)).filter allocs).length ≤ ((ops.toList.take j).filter allocs).length := by
    have : ops.toList.take (i + 1) = (ops.toList.take j).take (i + 1) := by rw [List.take_take]; congr 1; omega
    rw [this]
    exact ((List.take_sublist _ _).filter _).length_le
  omega
theorem Free.next {x x' : St} {i : Nat} {ef : Option Eff} (hfit : CallsFit cf) (hf : Free ops base i x) (h : stp P Γ cf ops base i x = some (x', ef)) : Free ops base (i + 1) x' := by
  intro j o hj ho hal
  refine set_free hfit h (hf j o (by omega) ho hal) fun o' ho' hal' => ?_
  have := slot_lt (base := base) (show i < j by omega) ho' hal'
  omega

/-- In the text's order. -/
theorem chain_sem (hcf : CallsOk P Γ cf) (hfit : CallsFit cf) : ∀ (n i : Nat) (x x' : St) (es : List (Option Eff)), Free ops base i x → chain P Γ cf ops base n i x = some (x', es) → SemR P Γ ops (List.range' i n) x x'
  | 0, i, x, x', es, _, h => by simp [chain] at h; obtain ⟨rfl, rfl⟩ := h; exact SemR.nil
  | n + 1, i, x, x', es, hf, h => by
    simp only [chain] at h
    split at h
    · cases h
    · rename_i x1 ef h1
      split at h
      · cases h
      · rename_i x2 es' h2
        cases h
        have ih := chain_sem hcf hfit n (i + 1) x1 x' es' (hf.next hfit h1) h2
        intro ro G a w hr
        rw [List.range'_succ, wpOpsIn_cons]
        refine stp_wp hcf hfit h1 (fun o ho hal => hf i o (Nat.le_refl _) ho hal) hr _ _ ?_
        intro G1 a1 w1 hle1 r1
        refine wpOps_mono ?_ _ _ _ (ih ro G1 a1 w1 r1)
        rintro e a' w' ⟨rfl, G2, hle2, r2⟩
        exact ⟨rfl, G2, hle1.trans hle2, r2⟩
theorem SemC.region_chain (hcf : CallsOk P Γ cf) (hfit : CallsFit cf) {id : Nat} {x x' : St} {es : List (Option Eff)} (hf : Free ops base 0 x) (h : chain P Γ cf ops base ops.size 0 x = some (x', es)) : SemC P Γ (.region id ops false) x .normal x' :=
  SemC.region (by rw [List.range_eq_range']; exact chain_sem hcf hfit _ _ _ _ _ hf h)
end
end Go.Proofs.Ytnjjkobijjdnbaa

/- A region that draws its order: the text's order serves every order. -/
set_option linter.unusedVariables false
set_option linter.unusedSimpArgs false
namespace Go.Proofs.Ytnjjkobijjdnbaa
open Go

/-- The keys of one list are no elements of another one. -/
def apartL (ks os : List Nat) : Bool := ks.all fun k => !os.contains k
theorem apartL_ne {ks os : List Nat} (h : apartL ks os = true) {k o : Nat} (hk : k ∈ ks) (ho : o ∈ os) : k ≠ o := by
  intro e
  subst e
  have := List.all_eq_true.1 h k hk
  simp at this
  exact this ho
def Eff.isPure (e : Eff) : Bool := e.ro.isEmpty && e.rn.isEmpty && e.wo.isEmpty && e.wn.isEmpty && e.xo.isEmpty && e.xn.isEmpty && e.blk.isNone && Nat.beq e.bl.1 0 && Nat.beq e.bl.2 0 && e.ko.isEmpty && e.kn.isEmpty
/-- It only looks. -/
def Eff.looks (e : Eff) : Bool := !e.lays && e.wo.isEmpty && e.wn.isEmpty
/-- One leaves a memory, the other looks at what that leaves alone. -/
def Eff.beside (a b : Eff) : Bool := a.blk.isSome && b.looks && (b.ro.all fun o => Nat.blt o a.bl.1) && (b.rn.all fun n => Nat.blt n a.bl.2) && apartL a.ko b.ro && apartL a.kn b.rn
def Eff.keysO (e : Eff) : List Nat := e.wo.map (·.1)
def Eff.keysN (e : Eff) : List Nat := e.wn.map (·.1)
def Eff.comm (a b : Eff) : Bool :=
  a.isPure || b.isPure || a.beside b || b.beside a || (!a.lays && !b.lays && (apartL a.keysO b.ro && apartL a.keysO b.keysO && apartL b.keysO a.ro) && (apartL a.keysN b.rn && apartL a.keysN b.keysN && apartL b.keysN a.rn))
theorem Eff.isPure_eq {e : Eff} (h : e.isPure = true) : e = .pure := by
  obtain ⟨a, b, c, d, f, g, k, ⟨l1, l2⟩, m, q⟩ := e
  simp [Eff.isPure] at h
  obtain ⟨⟨⟨⟨⟨⟨⟨⟨⟨⟨rfl, rfl⟩, rfl⟩, rfl⟩, rfl⟩, rfl⟩, rfl⟩, rfl⟩, rfl⟩, rfl⟩, rfl⟩ := h
  rfl
theorem apartL_symm {a b : List Nat} (h : apartL a b = true) : apartL b a = true := by
  refine List.all_eq_true.2 fun k hk => ?_
  simp only [Bool.not_eq_true', List.contains_eq_mem, decide_eq_false_iff_not]
  exact fun hka => apartL_ne h hka hk rfl
theorem apartL_comm (a b : List Nat) : apartL a b = apartL b a := by
  rw [Bool.eq_iff_iff]
  exact ⟨apartL_symm, apartL_symm⟩
theorem Eff.comm_symm (a b : Eff) : a.comm b = b.comm a := by
  unfold Eff.comm
  rw [Bool.or_comm a.isPure b.isPure, apartL_comm a.keysO b.keysO, apartL_comm a.keysN b.keysN, Bool.or_assoc (b.isPure || a.isPure), Bool.or_comm (a.beside b) (b.beside a), ← Bool.or_assoc]
  cases b.isPure || a.isPure <;> cases b.beside a <;> cases a.beside b <;> cases a.lays <;> cases b.lays <;> cases apartL a.keysO b.ro <;> cases apartL b.keysO a.ro <;> cases apartL a.keysN b.rn <;> cases apartL b.keysN a.rn <;> cases apartL b.keysO a.keysO <;> cases apartL b.keysN a.keysN <;> rfl
theorem Eff.ob_plain {e : Eff} (h : e.lays = false) (ob : Ob) : e.ob ob = setsO e.wo ob := by
  simp [Eff.lays] at h
  unfold Eff.ob
  rw [h.1, h.2.1]
theorem Eff.nm_plain {e : Eff} (h : e.lays = false) (nm : Nm) : e.nm nm = setsN e.wn nm := by
  simp [Eff.lays] at h
  unfold Eff.nm
  rw [h.1, h.2.2]
theorem setsO_comm : ∀ (a b : List (Nat × List V)) (ob : Ob), (∀ p ∈ a, ∀ q ∈ b, p.1 ≠ q.1) → setsO b (setsO a ob) = setsO a (setsO b ob)
  | [], b, ob, _ => rfl
  | p :: a, b, ob, h => by
    have key : ∀ (b : List (Nat × List V)) (ob : Ob), (∀ q ∈ b, p.1 ≠ q.1) → setsO b (ob.set p.1 (some p.2)) = (setsO b ob).set p.1 (some p.2) := by
      intro b
      induction b with
      | nil => intro ob _; rfl
      | cons q b ih =>
        intro ob hq
        simp only [setsO]
        rw [List.set_comm _ _ (hq q (by simp)), ih _ (fun r hr => hq r (by simp [hr]))]
    simp only [setsO]
    rw [setsO_comm a b _ (fun q hq => h q (by simp [hq])), key b ob (fun q hq => h p (by simp) q hq)]
theorem setsN_comm : ∀ (a b : List (Nat × Bf)) (nm : Nm), (∀ p ∈ a, ∀ q ∈ b, p.1 ≠ q.1) → setsN b (setsN a nm) = setsN a (setsN b nm)
  | [], b, nm, _ => rfl
  | p :: a, b, nm, h => by
    have key : ∀ (b : List (Nat × Bf)) (nm : Nm), (∀ q ∈ b, p.1 ≠ q.1) → setsN b (nm.set p.1 (some p.2)) = (setsN b nm).set p.1 (some p.2) := by
      intro b
      induction b with
      | nil => intro nm _; rfl
      | cons q b ih =>
        intro nm hq
        simp only [setsN]
        rw [List.set_comm _ _ (hq q (by simp)), ih _ (fun r hr => hq r (by simp [hr]))]
    simp only [setsN]
    rw [setsN_comm a b _ (fun q hq => h q (by simp [hq])), key b nm (fun q hq => h p (by simp) q hq)]
theorem Eff.pure_ob (ob : Ob) : Eff.pure.ob ob = ob := rfl
theorem Eff.pure_nm (nm : Nm) : Eff.pure.nm nm = nm := rfl
theorem Eff.same_refl (e : Eff) (ob : Ob) (nm : Nm) : e.same ob ob nm nm := ⟨fun _ _ => rfl, fun _ _ => rfl, fun _ => ⟨rfl, rfl⟩⟩
theorem Eff.beside_spec {a b : Eff} (h : a.beside b = true) : a.blk.isSome = true ∧ b.lays = false ∧ b.wo = [] ∧ b.wn = [] ∧ (∀ o ∈ b.ro, o < a.bl.1 ∧ o ∉ a.ko) ∧ ∀ n ∈ b.rn, n < a.bl.2 ∧ n ∉ a.kn := by
  simp only [Eff.beside, Eff.looks, Bool.and_eq_true, Bool.not_eq_true', List.isEmpty_iff] at h
  obtain ⟨⟨⟨⟨⟨h1, ⟨h2, h3⟩, h4⟩, h5⟩, h6⟩, h7⟩, h8⟩ := h
  exact ⟨h1, h2, h3, h4, fun o ho => ⟨Nat.le_of_ble_eq_true (List.all_eq_true.1 h5 o ho), fun hk => apartL_ne h7 hk ho rfl⟩, fun n hn => ⟨Nat.le_of_ble_eq_true (List.all_eq_true.1 h6 n hn), fun hk => apartL_ne h8 hk hn rfl⟩⟩
theorem Eff.comm_cases {a b : Eff} (h : a.comm b = true) : a = .pure ∨ b = .pure ∨ a.beside b = true ∨ b.beside a = true ∨ (a.lays = false ∧ b.lays = false ∧ (∀ p ∈ a.wo, p.1 ∉ b.ro) ∧ (∀ p ∈ a.wo, ∀ q ∈ b.wo, p.1 ≠ q.1) ∧ (∀ p ∈ a.wn, p.1 ∉ b.rn) ∧ (∀ p ∈ a.wn, ∀ q ∈ b.wn, p.1 ≠ q.1)) := by
  unfold Eff.comm at h
  simp only [Bool.or_eq_true, Bool.and_eq_true, Bool.not_eq_true'] at h
  rcases h with (((h | h) | h) | h) | h
  · exact .inl (Eff.isPure_eq h)
  · exact .inr (.inl (Eff.isPure_eq h))
  · exact .inr (.inr (.inl h))
  · exact .inr (.inr (.inr (.inl h)))
  · obtain ⟨⟨⟨h1, h2⟩, ⟨h3, h4⟩, h5⟩, ⟨h6, h7⟩, h8⟩ := h
    exact .inr (.inr (.inr (.inr ⟨h1, h2, fun p hp hb => apartL_ne h3 (List.mem_map.2 ⟨p, hp, rfl⟩) hb rfl, fun p hp q hq => apartL_ne h4 (List.mem_map.2 ⟨p, hp, rfl⟩) (List.mem_map.2 ⟨q, hq, rfl⟩),
      fun p hp hb => apartL_ne h6 (List.mem_map.2 ⟨p, hp, rfl⟩) hb rfl, fun p hp q hq => apartL_ne h7 (List.mem_map.2 ⟨p, hp, rfl⟩) (List.mem_map.2 ⟨q, hq, rfl⟩)⟩)))
/-- What an effect leaves of a memory. -/
def Eff.fits (e : Eff) (ob : Ob) (nm : Nm) : Prop := ∀ p, e.blk = some p → (∀ o : Nat, o < e.bl.1 → o ∉ e.ko → p.1[o]? = ob[o]?) ∧ ∀ n : Nat, n < e.bl.2 → n ∉ e.kn → p.2[n]? = nm[n]?
theorem Eff.blk_ob {e : Eff} {p : Ob × Nm} (h : e.blk = some p) (ob : Ob) : e.ob ob = p.1 := by simp [Eff.ob, h]
theorem Eff.blk_nm {e : Eff} {p : Ob × Nm} (h : e.blk = some p) (nm : Nm) : e.nm nm = p.2 := by simp [Eff.nm, h]
theorem Eff.looks_ob {e : Eff} (h1 : e.lays = false) (h2 : e.wo = []) (ob : Ob) : e.ob ob = ob := by rw [Eff.ob_plain h1, h2]; rfl
theorem Eff.looks_nm {e : Eff} (h1 : e.lays = false) (h2 : e.wn = []) (nm : Nm) : e.nm nm = nm := by rw [Eff.nm_plain h1, h2]; rfl
theorem Eff.comm_same {a b : Eff} (h : a.comm b = true) {ob : Ob} {nm : Nm} (hf : a.fits ob nm) : b.same ob (a.ob ob) nm (a.nm nm) := by
  rcases Eff.comm_cases h with rfl | rfl | hb | hb | ⟨h1, h2, h3, h4, h5, h6⟩
  · exact Eff.same_refl _ _ _
  · exact ⟨(fun o ho => by cases ho), (fun o ho => by cases ho), (fun hl => by cases hl)⟩
  · obtain ⟨g1, g2, g3, g4, g5, g6⟩ := Eff.beside_spec hb
    obtain ⟨p, hp⟩ := Option.isSome_iff_exists.1 g1
    obtain ⟨f1, f2⟩ := hf p hp
    refine ⟨fun o ho => ?_, fun n hn => ?_, fun hl => by rw [g2] at hl; cases hl⟩
    · rw [Eff.blk_ob hp, f1 o (g5 o ho).1 (g5 o ho).2]
    · rw [Eff.blk_nm hp, f2 n (g6 n hn).1 (g6 n hn).2]
  · obtain ⟨g1, g2, g3, g4, g5, g6⟩ := Eff.beside_spec hb
    rw [Eff.looks_ob g2 g3, Eff.looks_nm g2 g4]
    exact Eff.same_refl _ _ _
  · refine ⟨fun o ho => ?_, fun n hn => ?_, fun hl => by rw [h2] at hl; cases hl⟩
    · rw [Eff.ob_plain h1, setsO_get]
      exact fun p hp e => h3 p hp (by rw [e]; exact ho)
    · rw [Eff.nm_plain h1, setsN_get]
      exact fun p hp e => h5 p hp (by rw [e]; exact hn)
theorem Eff.comm_ob {a b : Eff} (h : a.comm b = true) (ob : Ob) : b.ob (a.ob ob) = a.ob (b.ob ob) := by
  rcases Eff.comm_cases h with rfl | rfl | hb | hb | ⟨h1, h2, h3, h4, h5, h6⟩
  · rfl
  · rfl
  · obtain ⟨g1, g2, g3, g4, g5, g6⟩ := Eff.beside_spec hb
    rw [Eff.looks_ob g2 g3, Eff.looks_ob g2 g3]
  · obtain ⟨g1, g2, g3, g4, g5, g6⟩ := Eff.beside_spec hb
    rw [Eff.looks_ob g2 g3, Eff.looks_ob g2 g3]
  · rw [Eff.ob_plain h1, Eff.ob_plain h2, Eff.ob_plain h1, Eff.ob_plain h2, setsO_comm _ _ _ h4]
theorem Eff.comm_nm {a b : Eff} (h : a.comm b = true) (nm : Nm) : b.nm (a.nm nm) = a.nm (b.nm nm) := by
  rcases Eff.comm_cases h with rfl | rfl | hb | hb | ⟨h1, h2, h3, h4, h5, h6⟩
  · rfl
  · rfl
  · obtain ⟨g1, g2, g3, g4, g5, g6⟩ := Eff.beside_spec hb
    rw [Eff.looks_nm g2 g4, Eff.looks_nm g2 g4]
  · obtain ⟨g1, g2, g3, g4, g5, g6⟩ := Eff.beside_spec hb
    rw [Eff.looks_nm g2 g4, Eff.looks_nm g2 g4]
  · rw [Eff.nm_plain h1, Eff.nm_plain h2, Eff.nm_plain h1, Eff.nm_plain h2, setsN_comm _ _ _ h6]
theorem Eff.same_symm {e : Eff} {ob ob' : Ob} {nm nm' : Nm} (h : e.same ob ob' nm nm') : e.same ob' ob nm' nm :=
  ⟨fun o ho => (h.1 o ho).symm, fun n hn => (h.2.1 n hn).symm, fun hl => ⟨(h.2.2 hl).1.symm, (h.2.2 hl).2.symm⟩⟩
def fitsO (e : Option Eff) (ob : Ob) (nm : Nm) : Prop := match e with | some e => e.fits ob nm | none => True

def obO (e : Option Eff) (ob : Ob) : Ob := match e with | some e => e.ob ob | none => ob
def nmO (e : Option Eff) (nm : Nm) : Nm := match e with | some e => e.nm nm | none => nm
def sameO (e : Option Eff) (ob ob' : Ob) (nm nm' : Nm) : Prop := match e with | some e => e.same ob ob' nm nm' | none => True
def commO : Option Eff → Option Eff → Bool
  | some a, some b => a.comm b
  | _, _ => true
theorem commO_same {a b : Option Eff} (h : commO a b = true) {ob : Ob} {nm : Nm} (hf : fitsO a ob nm) : sameO b ob (obO a ob) nm (nmO a nm) := by
  cases a <;> cases b <;> simp only [sameO, obO, nmO]
  · exact Eff.same_refl _ _ _
  · exact Eff.comm_same h hf
theorem commO_symm (a b : Option Eff) : commO a b = commO b a := by cases a <;> cases b <;> simp [commO, Eff.comm_symm]
theorem commO_ob {a b : Option Eff} (h : commO a b = true) (ob : Ob) : obO b (obO a ob) = obO a (obO b ob) := by
  cases a <;> cases b <;> simp [obO]
  exact Eff.comm_ob h ob
theorem commO_nm {a b : Option Eff} (h : commO a b = true) (nm : Nm) : nmO b (nmO a nm) = nmO a (nmO b nm) := by
  cases a <;> cases b <;> simp [nmO]
  exact Eff.comm_nm h nm
theorem sameO_symm {e : Option Eff} {ob ob' : Ob} {nm nm' : Nm} (h : sameO e ob ob' nm nm') : sameO e ob' ob nm' nm := by
  cases e with
  | none => trivial
  | some e => exact Eff.same_symm h

section
variable {P : Program} {Γ : Nat → Option V} {cf : CallF} {ops : Array Oper} {base : Nat}

/-- A step's value and effect. -/
def stv (P : Program) (Γ : Nat → Option V) (cf : CallF) (ops : Array Oper) (base i : Nat) (o : Oper) (x : St) : Option (V × Option Eff) :=
  match wantedL ops x.tm o with
  | none => none
  | some false => some (.tup [], none)
  | some true =>
    match evE P cf (slotOf ops base i) o (x.eval Γ) x.ob x.nm with
    | none => none
    | some out => if out.chk then some (litG (isGd ops i) out.v, some out.eff) else none
def St.app (x : St) (e : Option Eff) (d : Option Nat) (v : V) : St := ({ x with ob := obO e x.ob, nm := nmO e x.nm } : St).put d v
theorem stp_eq {i : Nat} {o : Oper} (ho : ops[i]? = some o) (x : St) : stp P Γ cf ops base i x = (stv P Γ cf ops base i o x).map fun p => (x.app p.2 o.dst p.1, p.2) := by
  unfold stp stv
  simp only [ho]
  cases hw : wantedL ops x.tm o with
  | none => rfl
  | some t =>
    cases t with
    | false => rfl
    | true =>
      simp only []
      cases he : evE P cf (slotOf ops base i) o (x.eval Γ) x.ob x.nm with
      | none => rfl
      | some out => by_cases hc : out.chk = true <;> simp [hc] <;> rfl

theorem put_tm (x : St) (d : Option Nat) (v : V) (t : Nat) (h : d ≠ some t) : (x.put d v).tm[t]? = x.tm[t]? := by
  cases d with
  | none => rfl
  | some d =>
    simp only [St.put]
    rw [List.getElem?_set_ne (fun e => h (by rw [e]))]
theorem put_ob (x : St) (d : Option Nat) (v : V) : (x.put d v).ob = x.ob := by cases d <;> rfl
theorem put_nm (x : St) (d : Option Nat) (v : V) : (x.put d v).nm = x.nm := by cases d <;> rfl
/-- What a step does not look at. -/
theorem stv_apart {i : Nat} {o : Oper} {x y : St} (h : ∀ t, t ∈ o.looksAt ops → y.tm[t]? = x.tm[t]?) (hob : y.ob = x.ob) (hnm : y.nm = x.nm) : stv P Γ cf ops base i o y = stv P Γ cf ops base i o x := by
  have hw : wantedL ops y.tm o = wantedL ops x.tm o := by
    unfold wantedL
    split
    · rfl
    · rename_i j want hg
      split
      · rfl
      · rename_i d hd
        rw [h d (by simp [Oper.looksAt, hg, hd])]
  have he : evE P cf (slotOf ops base i) o (y.eval Γ) y.ob y.nm = evE P cf (slotOf ops base i) o (x.eval Γ) x.ob x.nm := by
    rw [hob, hnm]
    refine evE_loc fun q hq => ?_
    cases q with
    | tmp t => simp only [St.eval]; rw [h t (by simp [Oper.looksAt]; exact .inl ⟨_, by simpa using hq, rfl⟩)]
    | _ => rfl
  unfold stv
  rw [hw, he]
theorem stv_frame (hfit : CallsFit cf) {i : Nat} {o : Oper} {x y : St} {v : V} {e : Option Eff} (h : stv P Γ cf ops base i o x = some (v, e)) (htm : y.tm = x.tm) (hs : sameO e x.ob y.ob x.nm y.nm) : stv P Γ cf ops base i o y = some (v, e) := by
  unfold stv at h ⊢
  rw [htm]
  split at h
  · cases h
  · exact h
  · split at h
    · cases h
    · rename_i out he
      split at h
      · rename_i hc
        simp only [Option.some.injEq, Prod.mk.injEq] at h
        obtain ⟨rfl, rfl⟩ := h
        have hev : y.eval Γ = x.eval Γ := by funext q; cases q <;> simp [St.eval, htm]
        rw [hev, evE_frame hfit he hs]
        simp [hc]
      · cases h

theorem stv_fits (hfit : CallsFit cf) {i : Nat} {o : Oper} {x : St} {v : V} {e : Option Eff} (h : stv P Γ cf ops base i o x = some (v, e)) : fitsO e x.ob x.nm := by
  unfold stv at h
  split at h
  · cases h
  · cases h; trivial
  · split at h
    · cases h
    · rename_i out he
      split at h
      · simp only [Option.some.injEq, Prod.mk.injEq] at h
        obtain ⟨rfl, rfl⟩ := h
        exact fun p hp => ((evE_eff hfit he).2.2 p hp).2.2
      · cases h
/-- Two steps that are apart change places. -/
theorem stp_swap (hfit : CallsFit cf) {i j : Nat} {oi oj : Oper} (hi : ops[i]? = some oi) (hj : ops[j]? = some oj) (hap : oi.apart ops oj = true) {x x1 x2 : St} {ei ej : Option Eff} (h1 : stp P Γ cf ops base i x = some (x1, ei)) (h2 : stp P Γ cf ops base j x1 = some (x2, ej))
    (hc : commO ei ej = true) : ∃ x1', stp P Γ cf ops base j x = some (x1', ej) ∧ stp P Γ cf ops base i x1' = some (x2, ei) := by
  obtain ⟨a1, a2, a3⟩ := Oper.apart_spec hap
  rw [stp_eq hi] at h1
  rw [stp_eq hj] at h2
  simp only [Option.map_eq_some_iff] at h1 h2
  obtain ⟨⟨vi, ei'⟩, h1, h1'⟩ := h1
  obtain ⟨⟨vj, ej'⟩, h2, h2'⟩ := h2
  simp only [Prod.mk.injEq] at h1' h2'
  obtain ⟨rfl, rfl⟩ := h1'
  obtain ⟨rfl, rfl⟩ := h2'
  have hc' : commO ej' ei' = true := by rw [commO_symm]; exact hc
  -- j first
  have hj1 : stv P Γ cf ops base j oj x = some (vj, ej') := by
    have q1 : stv P Γ cf ops base j oj ({ x with ob := obO ei' x.ob, nm := nmO ei' x.nm } : St) = some (vj, ej') := by
      rw [← h2]
      refine (stv_apart (fun t ht => ?_) ?_ ?_).symm
      · exact put_tm _ _ _ _ (fun e => a1 t e ht)
      · exact put_ob _ _ _
      · exact put_nm _ _ _
    exact stv_frame hfit q1 rfl (sameO_symm (commO_same hc (stv_fits hfit h1)))
  refine ⟨x.app ej' oj.dst vj, by rw [stp_eq hj, hj1]; rfl, ?_⟩
  have hi1 : stv P Γ cf ops base i oi (x.app ej' oj.dst vj) = some (vi, ei') := by
    have q1 : stv P Γ cf ops base i oi ({ x with ob := obO ej' x.ob, nm := nmO ej' x.nm } : St) = some (vi, ei') := stv_frame hfit h1 rfl (commO_same hc' (stv_fits hfit hj1))
    rw [← q1]
    refine stv_apart (fun t ht => ?_) ?_ ?_
    · exact put_tm _ _ _ _ (fun e => a3 t e ht)
    · exact put_ob _ _ _
    · exact put_nm _ _ _
  rw [stp_eq hi, hi1]
  simp only [Option.map_some, Option.some.injEq, Prod.mk.injEq, and_true]
  -- the two states are one
  have e1 := commO_ob hc x.ob
  have e2 := commO_nm hc x.nm
  cases hdi : oi.dst with
  | none => cases hdj : oj.dst <;> simp [St.app, St.put, e1, e2]
  | some di =>
    cases hdj : oj.dst with
    | none => simp [St.app, St.put, e1, e2]
    | some dj =>
      have hne : di ≠ dj := fun e => a2 di hdi (by rw [hdj, e])
      simp [St.app, St.put, e1, e2, List.set_comm _ _ hne]

/-- Whatever order: the same end. -/
def anyC (P : Program) (Γ : Nat → Option V) (cf : CallF) (md : Region.Mode) (ops : Array Oper) (base : Nat) (E : Nat → Option Eff) (xf : St) : Nat → Array Bool → St → Prop
  | 0, listed, x => Region.ready md ops listed = [] ∧ x = xf
  | fuel + 1, listed, x => (Region.ready md ops listed = [] → x = xf) ∧ ∀ i ∈ Region.ready md ops listed, ∃ x', stp P Γ cf ops base i x = some (x', E i) ∧ anyC P Γ cf md ops base E xf fuel (listed.setIfInBounds i true) x'

/-- One operation waits for the other, by the edges. -/
inductive Waits (md : Region.Mode) (ops : Array Oper) (i : Nat) : Nat → Prop where
  | edge {j : Nat} {oj : Oper} {e : Edge} (h : ops[j]? = some oj) (he : e ∈ oj.after) (hb : Region.binds md e = true) (hi : e.on = i) : Waits md ops i j
  | via {j : Nat} {oj : Oper} {e : Edge} (h : ops[j]? = some oj) (he : e ∈ oj.after) (hb : Region.binds md e = true) (hi : Waits md ops i e.on) : Waits md ops i j
/-- What is listed has all listed that it waits for. -/
def Closed (md : Region.Mode) (ops : Array Oper) (listed : Array Bool) : Prop := ∀ m om, listed.getD m false = true → ops[m]? = some om → ∀ e ∈ om.after, Region.binds md e = true → listed.getD e.on false = true
theorem Closed.waits {md : Region.Mode} {listed : Array Bool} (hc : Closed md ops listed) {i : Nat} (hi : listed.getD i false = false) {j : Nat} (h : Waits md ops i j) : listed.getD j false = false := by
  cases hj : listed.getD j false with
  | false => rfl
  | true =>
    exfalso
    induction h with
    | edge h he hb e =>
      have := hc _ _ hj h _ he hb
      rw [e, hi] at this
      cases this
    | via h he hb _ ih => exact ih (hc _ _ hj h _ he hb)
theorem unlisted {listed : Array Bool} {i : Nat} (h : listed.getD i true = false) : listed.getD i false = false := by
  rcases Nat.lt_or_ge i listed.size with h' | h'
  · simpa [h'] using h
  · simp [Array.getElem?_eq_none h'] at h
theorem Closed.ready {md : Region.Mode} {listed : Array Bool} (hc : Closed md ops listed) {i j : Nat} (hi : listed.getD i true = false) (hj : j ∈ Region.ready md ops listed) : ¬ Waits md ops i j := by
  intro h
  obtain ⟨_, o, ho, hall⟩ := mem_ready.1 hj
  cases h with
  | edge h he hb e =>
    rw [ho] at h
    cases h
    have := hall _ he hb
    rw [e, unlisted hi] at this
    cases this
  | via h he hb hbb =>
    rw [ho] at h
    cases h
    have := hc.waits (unlisted hi) hbb
    rw [hall _ he hb] at this
    cases this
theorem Closed.set {md : Region.Mode} {listed : Array Bool} (hc : Closed md ops listed) {j : Nat} (hj : j ∈ Region.ready md ops listed) : Closed md ops (listed.setIfInBounds j true) := by
  intro m om hm ho e he hb
  by_cases hmj : j = m
  · subst hmj
    obtain ⟨_, o, ho', hall⟩ := mem_ready.1 hj
    rw [ho] at ho'
    cases ho'
    exact getD_set_true (hall e he hb)
  · rw [getD_set_ne false hmj] at hm
    exact getD_set_true (hc m om hm ho e he hb)
theorem anyC_first (hfit : CallsFit cf) {md : Region.Mode} {E : Nat → Option Eff} {xf : St} {i : Nat} {oi : Oper} (hi : ops[i]? = some oi) : ∀ (fuel : Nat) (listed : Array Bool) (x x1 : St),
    (∀ j oj, ops[j]? = some oj → j ≠ i → listed.getD j true = false → ¬ Waits md ops i j → oi.apart ops oj = true ∧ commO (E i) (E j) = true) → Closed md ops listed →
    i ∈ Region.ready md ops listed → stp P Γ cf ops base i x = some (x1, E i) → anyC P Γ cf md ops base E xf fuel (listed.setIfInBounds i true) x1 → anyC P Γ cf md ops base E xf (fuel + 1) listed x := by
  intro fuel
  induction fuel with
  | zero =>
    intro listed x x1 _ _ hr hs H
    refine ⟨fun h => (by rw [h] at hr; cases hr), fun j hj => ?_⟩
    by_cases hji : j = i
    · subst hji; exact ⟨x1, hs, H⟩
    · have := ready_mono hj hji
      rw [H.1] at this
      cases this
  | succ fuel ih =>
    intro listed x x1 hfree hcl hr hs H
    refine ⟨fun h => (by rw [h] at hr; cases hr), fun j hj => ?_⟩
    by_cases hji : j = i
    · subst hji; exact ⟨x1, hs, H⟩
    · obtain ⟨x2, hs2, H2⟩ := H.2 j (ready_mono hj hji)
      obtain ⟨hjun, oj, hoj, hall⟩ := mem_ready.1 hj
      have hnot : ¬ Waits md ops i j := hcl.ready (mem_ready.1 hr).1 hj
      obtain ⟨hap, hco⟩ := hfree j oj hoj hji hjun hnot
      obtain ⟨x1', g1, g2⟩ := stp_swap hfit hi hoj hap hs hs2 hco
      have hfree' : ∀ k ok, ops[k]? = some ok → k ≠ i → (listed.setIfInBounds j true).getD k true = false → ¬ Waits md ops i k → oi.apart ops ok = true ∧ commO (E i) (E k) = true := fun k ok hk hki hun hno => by
        refine hfree k ok hk hki ?_ hno
        by_cases hjk : j = k
        · subst hjk; exact hjun
        · rw [getD_set_ne true hjk] at hun; exact hun
      refine ⟨x1', g1, ih (listed.setIfInBounds j true) x1' x2 hfree' (hcl.set hj) (ready_mono hr (Ne.symm hji)) g2 ?_⟩
      rw [Array.setIfInBounds_comm _ _ hji]
      exact H2

/-- One operation waits for the other, looked for. -/
def waitsB (ops : Array Oper) : Nat → Nat → Nat → Bool
  | 0, _, _ => false
  | n + 1, i, j =>
    match ops[j]? with
    | some o => o.after.any fun e => Region.binds .any e && (e.on == i || (Nat.blt i e.on && waitsB ops n i e.on))
    | none => false
theorem waits_spec : ∀ (n i j : Nat), waitsB ops n i j = true → Waits .any ops i j
  | 0, i, j, h => by cases h
  | n + 1, i, j, h => by
    simp only [waitsB] at h
    split at h
    · rename_i o ho
      rw [Array.any_eq_true'] at h
      obtain ⟨e, he, hh⟩ := h
      simp only [Bool.and_eq_true, Bool.or_eq_true, beq_iff_eq] at hh
      rcases hh.2 with h2 | h2
      · exact .edge ho he hh.1 h2
      · exact .via ho he hh.1 (waits_spec n i _ h2.2)
    · cases h
/-- The effects along the text, looked at in pairs that no edge orders. -/
def commAll (ops : Array Oper) (es : List (Option Eff)) : Bool :=
  (List.range ops.size).all fun j =>
    match es[j]?.join with
    | none => true
    | some b => b.isPure || (List.range j).all fun i => match es[i]?.join with | none => true | some a => a.comm b || waitsB ops 4 i j
theorem commAll_spec {es : List (Option Eff)} (h : commAll ops es = true) {i j : Nat} {oj : Oper} (hij : i < j) (hj : ops[j]? = some oj) (hno : ¬ Waits .any ops i j) : commO (es[i]?.join) (es[j]?.join) = true := by
  have hjl : j < ops.size := by
    rcases Nat.lt_or_ge j ops.size with h' | h'
    · exact h'
    · simp [Array.getElem?_eq_none h'] at hj
  unfold commAll at h
  rw [List.all_eq_true] at h
  have h1 := h j (List.mem_range.2 hjl)
  cases hb : es[j]?.join with
  | none => cases es[i]?.join <;> rfl
  | some b =>
    cases ha : es[i]?.join with
    | none => rfl
    | some a =>
      simp only [commO]
      by_cases hp : b.isPure = true
      · rw [Eff.isPure_eq hp]; simp [Eff.comm, Eff.isPure, Eff.pure]
      · have h2 : (List.range j).all (fun i => match es[i]?.join with | none => true | some a => a.comm b || waitsB ops 4 i j) = true := by
          rw [hb] at h1
          simpa [hp] using h1
        rw [List.all_eq_true] at h2
        have h3 := h2 i (List.mem_range.2 hij)
        rw [ha] at h3
        simp only [Bool.or_eq_true] at h3
        rcases h3 with h3 | h3
        · exact h3
        · exact absurd (waits_spec _ _ _ h3) hno

theorem anyC_lex (hfit : CallsFit cf) {es : List (Option Eff)} {xf : St} (hcomm : commAll ops es = true) : ∀ (n k : Nat) (listed : Array Bool) (x : St) (es' : List (Option Eff)), k + n = ops.size → (∀ j, j < n → es'[j]? = es[k + j]?) → (∀ j, j < k → listed.getD j true = true) → Closed .any ops listed →
    Region.lexFrom .any ops n k listed = true → chain P Γ cf ops base n k x = some (xf, es') → anyC P Γ cf .any ops base (fun i => es[i]?.join) xf n listed x
  | 0, k, listed, x, es', _, _, _, _, hB, h => by
    simp only [chain, Option.some.injEq, Prod.mk.injEq] at h
    exact ⟨by simpa [Region.lexFrom] using hB, h.1⟩
  | n + 1, k, listed, x, es', hk, hes, hli, hcl, hB, h => by
    have h0 : k < ops.size := by omega
    have hok : ops[k]? = some ops[k] := Array.getElem?_eq_getElem h0
    simp only [Region.lexFrom, Bool.and_eq_true] at hB
    obtain ⟨⟨hr, hf⟩, hB'⟩ := hB
    simp only [chain] at h
    split at h
    · cases h
    · rename_i x1 ef h1
      split at h
      · cases h
      · rename_i x2 es2 h2
        cases h
        have hEk : es[k]?.join = ef := by
          have := hes 0 (by omega)
          simp at this
          rw [← this]
          rfl
        refine anyC_first hfit hok n listed x x1 ?_ hcl (by simpa using hr) (by rw [h1, hEk]) ?_
        · intro j oj hj hjk hun hno
          refine ⟨Region.free_spec hok hf j oj hj hjk hun (fun e he hb heq => hno (.edge hj he hb heq)), ?_⟩
          have hkj : k < j := by
            rcases Nat.lt_or_ge j k with hlt | hge
            · rw [hli j hlt] at hun; cases hun
            · omega
          exact commAll_spec hcomm hkj hj hno
        · refine anyC_lex hfit hcomm n (k + 1) _ x1 es2 (by omega) (fun j hj => ?_) (fun j hj => ?_) (hcl.set (by simpa using hr)) hB' h2
          · have := hes (j + 1) (by omega)
            simpa [Nat.add_assoc, Nat.add_comm 1 j] using this
          · by_cases hjk : j = k
            · subst hjk
              have hsz : j < listed.size := by
                rcases Nat.lt_or_ge j listed.size with h' | h'
                · exact h'
                · have := (mem_ready.1 (by simpa using hr : j ∈ Region.ready .any ops listed)).1
                  simp [Array.getElem?_eq_none h'] at this
              simp [hsz]
            · rw [getD_set_ne true (Ne.symm hjk)]
              exact hli j (by omega)

theorem anyC_wp (hcf : CallsOk P Γ cf) (hfit : CallsFit cf) {ro : Option Nat} {E : Nat → Option Eff} {xf : St} {Q : Exit → Act → World → Prop} {G0 : Gh} (hQ : ∀ G a w, G0.le G → Rel Γ G xf a w → Q .normal a w) : ∀ (fuel : Nat) (listed : Array Bool) (x : St) (G : Gh) (a : Act) (w : World),
    (∀ j o, ops[j]? = some o → allocs o = true → listed.getD j true = false → x.ob[slotOf ops base j]? = some none ∧ x.nm[slotOf ops base j]? = some none) → G0.le G → Rel Γ G x a w → anyC P Γ cf .any ops base E xf fuel listed x → wpAnyIn (wideR ro) 0 P .any ops Q fuel listed a w
  | 0, listed, x, G, a, w, _, hle, hr, h => ⟨h.1, hQ G a w hle (h.2 ▸ hr)⟩
  | fuel + 1, listed, x, G, a, w, hfree, hle, hr, h => by
    refine ⟨fun h0 => hQ G a w hle ((h.1 h0) ▸ hr), fun i hi => ?_⟩
    obtain ⟨x', hs, H⟩ := h.2 i hi
    have hun := (mem_ready.1 hi).1
    refine stp_wp hcf hfit hs (fun o ho hal => hfree i o ho hal hun) hr _ _ ?_
    intro G' a' w' hle' hr'
    refine anyC_wp hcf hfit hQ fuel _ x' G' a' w' ?_ (hle.trans hle') hr' H
    intro j o ho hal hun'
    by_cases hij : i = j
    · subst hij
      have hsz : i < listed.size := by
        rcases Nat.lt_or_ge i listed.size with h' | h'
        · exact h'
        · simp [Array.getElem?_eq_none h'] at hun
      simp [hsz] at hun'
    · rw [getD_set_ne true hij] at hun'
      refine set_free hfit hs (hfree j o ho hal hun') fun o' ho' hal' => ?_
      intro e
      rcases Nat.lt_or_ge i j with hlt | hge
      · have := slot_lt (base := base) hlt ho' hal'; omega
      · have := slot_lt (base := base) (show j < i by omega) ho hal; omega

/-- A region that draws its order. -/
theorem SemC.region_draw (hcf : CallsOk P Γ cf) (hfit : CallsFit cf) (hm : P.follows .mixedOrders = true) {id : Nat} {x x' : St} {es : List (Option Eff)} (hB : Region.lexB .any ops = true) (hf : Free ops base 0 x) (h : chain P Γ cf ops base ops.size 0 x = some (x', es)) (hcomm : commAll ops es = true) :
    SemC P Γ (.region id ops true) x .normal x' := by
  intro ro G a w hr ho
  simp only [Region.lexB, Bool.and_eq_true] at hB
  refine wpIn_region_any hm ?_
  have hany := anyC_lex (P := P) (Γ := Γ) (base := base) hfit hcomm ops.size 0 (Array.replicate ops.size false) x es (by omega) (fun j _ => by simp) (fun j hj => by omega) (fun m om hm => by simp [Array.getD_eq_getD_getElem?, Array.getElem?_replicate] at hm; split at hm <;> simp at hm) hB.2 h
  refine anyC_wp hcf hfit (G0 := G) (fun G' a' w' hle hr' => ⟨rfl, G', hle.weak, hr'⟩) _ _ x G a _ (fun j o ho hal _ => hf j o (Nat.zero_le _) ho hal) (.refl G) ⟨hr.tm, hr.wr.drew, hr.df, hr.kh, hr.kt⟩ hany
end
end Go.Proofs.Ytnjjkobijjdnbaa

/- A range over a function: the statement. -/
set_option linter.unusedVariables false
set_option linter.unusedSimpArgs false
namespace Go.Proofs.Ytnjjkobijjdnbaa
open Go

/-- Values as they are, but for yields. -/
def idP : V → Option V
  | .ptr o off => some (.ptr o off)
  | .sl o off n => some (.sl o off n)
  | .bs sy n off len => some (.bs sy n off len)
  | .bp n j off => some (.bp n j off)
  | _ => none
theorem idP_eq {u q : V} (h : idP u = some q) : q = u := by
  unfold idP at h
  split at h <;> first | (cases h; rfl) | cases h
theorem idP_cell : ∀ u q, idP u = some q → q.cells = [q] := by
  intro u q h
  unfold idP at h
  split at h <;> first | (cases h; rfl) | cases h
mutual
theorem cl_id : ∀ (v v' : V), v.cl idP = some v' → v' = v
  | .b x, v', h => by simp only [V.cl] at h; cases h; rfl
  | .i k n, v', h => by simp only [V.cl] at h; cases h; rfl
  | .s x, v', h => by simp only [V.cl] at h; cases h; rfl
  | .sb x, v', h => by simp only [V.cl] at h; cases h; rfl
  | .si k n, v', h => by simp only [V.cl] at h; cases h; rfl
  | .ss x, v', h => by simp only [V.cl] at h; cases h; rfl
  | .nil, v', h => by simp only [V.cl] at h; cases h; rfl
  | .ptr o off, v', h => by simp only [V.cl] at h; exact idP_eq h
  | .sl o off n, v', h => by simp only [V.cl] at h; exact idP_eq h
  | .bs sy n off len, v', h => by simp only [V.cl] at h; exact idP_eq h
  | .bp n j off, v', h => by simp only [V.cl] at h; exact idP_eq h
  | .slst t ty l, v', h => by simp only [V.cl] at h; cases h; rfl
  | .pel xs k off, v', h => by
    simp only [V.cl] at h
    split at h
    · rename_i ys hy; cases h; rw [clL_id xs ys hy]
    · cases h
  | .lst t xs, v', h => by
    simp only [V.cl] at h
    split at h
    · rename_i ys hy; cases h; rw [clL_id xs ys hy]
    · cases h
  | .fn f a c, v', h => by
    simp only [V.cl] at h
    split at h
    · rename_i x y hx hy; cases h; rw [clL_id a x hx, clL_id c y hy]
    · cases h
  | .nilfn, v', h => by simp only [V.cl] at h; cases h; rfl
  | .ifc t x, v', h => by
    simp only [V.cl] at h
    split at h
    · rename_i y hy; cases h; rw [cl_id x y hy]
    · cases h
  | .nilifc, v', h => by simp only [V.cl] at h; cases h; rfl
  | .agg cs, v', h => by
    simp only [V.cl] at h
    split at h
    · rename_i ys hy; cases h; rw [clL_id cs ys hy]
    · cases h
  | .tup cs, v', h => by
    simp only [V.cl] at h
    split at h
    · rename_i ys hy; cases h; rw [clL_id cs ys hy]
    · cases h
  | .yl _ _ _ _, v', h => by simp only [V.cl] at h; cases h
  | .any, v', h => by simp only [V.cl] at h; cases h; rfl
theorem clL_id : ∀ (xs ys : List V), V.clL idP xs = some ys → ys = xs
  | [], ys, h => by simp only [V.clL] at h; cases h; rfl
  | x :: xs, ys, h => by
    simp only [V.clL] at h
    split at h
    · rename_i a b h1 h2; cases h; rw [cl_id x a h1, clL_id xs b h2]
    · cases h
end
theorem clL_id_mem : ∀ {xs : List V}, V.clL idP xs = some xs → ∀ v ∈ xs, v.cl idP = some v
  | [], _, v, hv => by cases hv
  | x :: xs, h, v, hv => by
    simp only [V.clL] at h
    split at h
    · rename_i a b h1 h2
      cases h
      rcases List.mem_cons.1 hv with rfl | hv
      · exact h1
      · exact clL_id_mem h2 v hv
    · cases h
/-- No yield in the memory. -/
def noYm (ob : Ob) (nm : Nm) : Bool :=
  (ob.all fun x => match x with | some cs => (V.clL idP cs).isSome | none => true) && nm.all fun x => match x with | some (.live (.cs _ l)) => (V.clL idP l).isSome | _ => true
theorem noYm_ob {ob : Ob} {nm : Nm} (h : noYm ob nm = true) : ∀ v ∈ ob.flatMap (fun x => x.getD []), v.cl idP = some v := by
  intro v hv
  simp only [noYm, Bool.and_eq_true, List.all_eq_true] at h
  obtain ⟨x, hx, hv⟩ := List.mem_flatMap.1 hv
  cases x with
  | none => simp at hv
  | some cs =>
    have := h.1 _ hx
    simp only [] at this
    cases hc : V.clL idP cs with
    | none => rw [hc] at this; cases this
    | some ys =>
      obtain rfl := clL_id _ _ hc
      exact clL_id_mem hc v (by simpa using hv)
theorem noYm_nm {ob : Ob} {nm : Nm} (h : noYm ob nm = true) : ∀ v ∈ nm.flatMap (fun x => match x with | some (.live c) => flat c.els | _ => []), v.cl idP = some v := by
  intro v hv
  simp only [noYm, Bool.and_eq_true, List.all_eq_true] at h
  obtain ⟨x, hx, hv⟩ := List.mem_flatMap.1 hv
  split at hv
  · rename_i c
    cases c with
    | cs sz l =>
      have := h.2 _ hx
      simp only [] at this
      cases hc : V.clL idP l with
      | none => rw [hc] at this; cases this
      | some ys =>
        obtain rfl := clL_id _ _ hc
        exact clL_id_mem (clnL_flat idP_cell hc) v hv
    | arr ty l => exact clL_id_mem (clnL_flat idP_cell (Ty.map_cl idP ty l)) v hv
  · cases hv
theorem VRel.noY {G G' : Gh} (hm : G'.M = G.M) (hh : G'.H = G.H) (ht : G'.T = G.T) {v : V} {cv : Value} (h : VRel G v cv) (hv : v.cl idP = some v) : VRel G' v cv :=
  VRel.cl (p := idP) (G' := G') idP_cell (fun b off cv h => by rw [hm]; exact h) (fun u q cu hu hq => by
    have e := idP_eq hq
    subst e
    cases q <;> simp only [idP] at hq <;> try cases hq
    case ptr => cases hu with | ptr h => exact .ptr (by rw [hh]; exact h)
    case sl => cases hu with | sl h hc => exact .sl (by rw [hh]; exact h) hc
    case bs =>
      cases hu with
      | bs0 => exact .bs0 _ _ _
      | bs1 => exact .bs1 _ _ _ _ _
      | bs h hl => exact .bs (by rw [ht]; exact h) hl
    case bp => cases hu with | bp h => exact .bp (by rw [ht]; exact h)) h hv

theorem VRel.noYD {G : Gh} {b : Nat} {o : Obj} {v : V} {cv : Value} (h : VRel G v cv) (hv : v.cl idP = some v) : VRel (G.setD b o) v cv :=
  VRel.noY (G := G) (G' := G.setD b o) rfl rfl rfl h hv
section
variable {P : Program} {Γ : Nat → Option V} {G : Gh} {ob : Ob} {nm : Nm} {w : World} {σ : St}
theorem Gh.le_setD {b : Nat} {o : Obj} (h : G.D b = none) : G.le (G.setD b o) :=
  ⟨⟨fun _ _ _ h => h, fun _ _ h => h, fun _ _ h => h, fun l q k => by
    by_cases hl : l = b
    · subst hl; rw [h] at k; cases k
    · simpa [Gh.setD, hl] using k⟩, rfl, rfl, rfl, rfl, rfl⟩
theorem setD_new (G : Gh) (b : Nat) (o : Obj) : (G.setD b o).D b = some o := by simp [Gh.setD]
theorem WRel.addD (h : WRel Γ G ob nm w) {b : Nat} {o : Obj} (hb : G.D b = none) (ho : w.heap[b]? = some o) (hc : o.isCells = false) (h0 : G.w0.own b) : WRel Γ (G.setD b o) ob nm w := by
  have hle := Gh.le_setD (o := o) hb
  exact {
    m := h.m
    hob := fun o cs b h1 h2 => by
      obtain ⟨q1, ⟨q2, q3, q4, q5, q6, q7, q8⟩, q9⟩ := h.hob o cs b h1 h2
      exact ⟨q1, ⟨q2, q3, q4, q5, q6, q7, q8.mono hle⟩, q9⟩
    hlt := h.hlt
    habs := h.habs
    inj := h.inj
    hnm := fun n c x h1 h2 => (h.hnm n c x h1 h2).to rfl (fun _ _ h => h.mono hle) (fun _ h => h) (fun _ h => h) (h.hnm n c x h1 h2).obj
    hno := h.hno
    kdle := h.kdle
    nmd := h.nmd
    tabs := h.tabs
    tlt := h.tlt
    dd := fun l q hl => by
      simp only [Gh.setD] at hl
      split at hl
      · rename_i e; subst e; cases hl; exact ⟨ho, hc, h0⟩
      · exact h.dd l q hl
    gl := h.gl
    mold := h.mold
    os := h.os
    tape := h.tape
    output := h.output
    size := h.size
    block := h.block }
/-- The statement: the function that is ranged over is called with yield. -/
theorem SemC.rangeFunc {g : Operand} {ps : Array Tmp} {as bd : Code} {f : FuncId} {fn : Func} {first cap : List V} {v : V} {ob' : Ob} {nm' : Nm} (hx : σ.eval Γ g = .fn (.func f) first cap)
    (hf : P.funcs[f]? = some fn) (hb : fn.body.isSome = true) (hn : (fn.name == "runtime.NumGoroutine") = false) (h : SemF P Γ f (first ++ .yl σ.tm ps as bd :: cap) σ.ob σ.nm v ob' nm') (hY : noYm ob' nm' = true) :
    SemC P Γ (.rangeFunc g ps as bd) σ .normal { σ with ob := ob', nm := nm' } := by
  intro ro G a w hr ho
  have hfx := hr.eval g
  rw [hx] at hfx
  generalize he : a.eval g = cg at hfx
  cases hfx with
  | @fn _ _ _ ca cc ha hcc h1 h2 =>
    have r1 : Rels G first ca.toList := ⟨by simpa using ha, fun j v cv g1 g2 => h1 j v cv g1 (by simpa using g2)⟩
    have r2 : Rels G cap cc.toList := ⟨by simpa using hcc, fun j v cv g1 g2 => h2 j v cv g1 (by simpa using g2)⟩
    refine wpIn_rangeFunc (fun fnid _ => ?_)
    have hn' : ¬ fn.name = "runtime.NumGoroutine" := by simpa using hn
    have hbn' : ¬ fn.body = none := by intro hh; simp [hh] at hb
    have core : ∀ (l : Nat) (mark : List Deferred) (W1 : World) (G2 : Gh) (dfs : Nat), (Instr.enterLoop fnid a.tmps ps as bd ro).run P w = .ok (l, mark) W1 → G.le G2 → WRel Γ G2 σ.ob σ.nm W1 → G.D l = none → G.w0.heap.size ≤ l →
        G2.D l = some (.loop { state := .ready, pending := none, fn := fnid, tmps := a.tmps, params := ps, assign := as, body := bd, defers := dfs }) → Marks G2 (mark ++ a.defers) → (∀ D, { target := .collected D, args := #[] } ∈ mark ++ a.defers → D ≠ l) →
        ∃ (l : Nat) (mark : List Deferred) (w₁ : World) (d : Deferred) (w₁' : World) (f : FuncId) (args : Array Value) (w₂ : World),
          (Instr.enterLoop fnid a.tmps ps as bd (wideR ro).round).run P w = .ok (l, mark) w₁ ∧ (Go.resolve a.eval (rangeCall g l) 0).run P w₁ = .ok d w₁' ∧ (∀ f', Target.leads P w₁' d.target d.args = some f' → (wideR ro).fn f') ∧
          (invoke d.target d.args).run P w₁' = .ok (.enter f args) w₂ ∧ ((wideR ro).depth.isSome = true → 1 ≤ 0) ∧
          CallsIn (wideR ro) (0 - 1) P f args w₂ (rangePost (wideR ro) 0 P l (fun e a' w' => e = .normal ∧ ∃ G', G.leW G' ∧ Rel Γ G' { σ with ob := ob', nm := nm' } a' w') { a with defers := mark ++ a.defers }) := by
      intro l mark W1 G2 dfs e1 hle hw2 hl0 hlo hD hM hMl
      refine ⟨l, mark, W1, { target := .fn (.func f) cc, args := ca ++ #[.func (.yield l) #[] #[]] }, W1, f, ca ++ #[.func (.yield l) #[] #[]] ++ cc, W1, e1, ?_, fun _ _ => trivial, ?_, depthR, ?_⟩
      · simp [Go.resolve, he, Deferred.ofValue]; rfl
      · simp [invoke, callFunc, hf, hbn', hn']
      · have hy : VRel G2 (.yl σ.tm ps as bd) (.func (.yield l) #[] #[]) := .yl hD ⟨rfl, rfl, rfl, rfl, rfl⟩ (by have := hr.tm.1; simpa using this) (fun j v cv g1 g2 => (hr.tm.2 j v cv g1 (by simpa using g2)).mono hle)
        have hcall := h G2 W1 (ca.toList ++ .func (.yield l) #[] #[] :: cc.toList) hw2 ((r1.mono hle).append (Rels.cons hy (r2.mono hle)))
        have hargs : (ca.toList ++ Value.func (.yield l) #[] #[] :: cc.toList).toArray = ca ++ #[.func (.yield l) #[] #[]] ++ cc := by
          apply Array.ext'
          simp
        rw [hargs] at hcall
        refine callsR.2 (((callsX_fn hf).1 hcall).mono ?_)
        rintro e w' ⟨cv, G1, rfl, hle1, hv, hw1⟩
        have hD1 := hle1.d _ _ hD
        have hheap := (hw1.dd _ _ hD1).1
        refine ⟨none, _, run_endLoop hheap (by simp), ?_⟩
        have hlb : G1.w0.own l := by rw [hle1.w0, hle.w0]; exact .inl hlo
        have hw3 := hw1.putD (G2 := G1.setD l (.loop { state := .exhausted, pending := none, fn := fnid, tmps := a.tmps, params := ps, assign := as, body := bd, defers := dfs })) (o := .loop { state := .exhausted, pending := none, fn := fnid, tmps := a.tmps, params := ps, assign := as, body := bd, defers := dfs }) hD1 rfl hlb rfl
          (fun v hv cv h => VRel.noYD h (noYm_ob hY v hv)) (fun v hv cv h => VRel.noYD h (noYm_nm hY v hv))
        have hle3 : G.le (G1.setD l (.loop { state := .exhausted, pending := none, fn := fnid, tmps := a.tmps, params := ps, assign := as, body := bd, defers := dfs })) := by
          have hh := hle.trans hle1
          exact ⟨⟨hh.m, hh.h, hh.t, fun k q hk => by
            have : k ≠ l := by rintro rfl; rw [hl0] at hk; cases hk
            show (if k = l then _ else G1.D k) = _
            rw [if_neg this]
            exact hh.d _ _ hk⟩, hh.kh, hh.kt, hh.w0, hh.m0, hh.kd⟩
        refine ⟨rfl, _, hle3.weak, ⟨hr.tm.mono hle3, hw3, ⟨hM.nd, fun d hd => ?_⟩, hle3.kh.trans hr.kh, hle3.kt.trans hr.kt⟩⟩
        obtain ⟨D, rfl, q1, q2⟩ := hM.at_ d hd
        refine ⟨D, rfl, by rw [hle3.kd, ← hle.kd]; exact q1, ?_⟩
        show (if D = l then _ else G1.D D) = _
        rw [if_neg (hMl D hd)]
        exact hle1.d _ _ q2
    have hkd : ∀ {d}, d ∈ a.defers → ∃ D, d = { target := .collected D, args := #[] } ∧ D < w.heap.size := fun hd => by
      obtain ⟨D, e, q1, q2⟩ := hr.df.at_ _ hd
      exact ⟨D, e, hr.wr.dlt q2⟩
    cases ro with
    | none =>
      have w1 := hr.wr.alloc (.deferred (some []))
      have d1 : G.D w.heap.size = none := hr.wr.dnew (Nat.le_refl _)
      have w2 := w1.addD d1 (World.alloc_heap_new w _) rfl (.inl hr.wr.size)
      have w3 := w2.alloc (.loop { state := .ready, pending := none, fn := fnid, tmps := a.tmps, params := ps, assign := as, body := bd, defers := w.heap.size })
      have d2 : (G.setD w.heap.size (.deferred (some []))).D (w.heap.size + 1) = none := w2.dnew (by simp)
      have e4 := World.alloc_heap_new (w.alloc (.deferred (some []))) (.loop { state := .ready, pending := none, fn := fnid, tmps := a.tmps, params := ps, assign := as, body := bd, defers := w.heap.size })
      rw [World.size_alloc] at e4
      have w4 := w3.addD d2 e4 rfl (.inl (Nat.le_succ_of_le hr.wr.size))
      have hle := (Gh.le_setD (o := .deferred (some [])) d1).trans (Gh.le_setD (o := .loop { state := .ready, pending := none, fn := fnid, tmps := a.tmps, params := ps, assign := as, body := bd, defers := w.heap.size }) d2)
      refine core _ _ _ _ w.heap.size (run_enterLoop_outer _ _ _ _ _) hle w4 (hr.wr.dnew (by omega)) (by have := hr.wr.size; omega) (setD_new _ _ _) ⟨?_, ?_⟩ ?_
      · refine List.nodup_cons.2 ⟨fun hd => ?_, hr.df.nd⟩
        obtain ⟨D, e, hlt⟩ := hkd hd
        have : D = w.heap.size := by simpa using e.symm
        omega
      · intro d hd
        rcases List.mem_cons.1 hd with rfl | hd
        · refine ⟨_, rfl, ?_, ?_⟩
          · show G.kd ≤ w.heap.size
            exact hr.wr.kdle
          · show (if w.heap.size = w.heap.size + 1 then _ else (if w.heap.size = w.heap.size then _ else _)) = _
            rw [if_neg (by omega), if_pos rfl]
        · exact ((hr.df.mono hle.d hle.kd)).at_ d hd
      · intro D hd
        rcases List.mem_cons.1 hd with e | hd
        · have : D = w.heap.size := by simpa using e
          omega
        · obtain ⟨D', e, hlt⟩ := hkd hd
          have : D = D' := by simpa using e
          omega
    | some l0 =>
      obtain ⟨r0, hr0⟩ := ho l0 rfl
      have d1 : G.D w.heap.size = none := hr.wr.dnew (Nat.le_refl _)
      have w2 := (hr.wr.alloc (.loop { state := .ready, pending := none, fn := fnid, tmps := a.tmps, params := ps, assign := as, body := bd, defers := r0.defers })).addD d1 (World.alloc_heap_new w _) rfl (.inl hr.wr.size)
      have hle := Gh.le_setD (o := .loop { state := .ready, pending := none, fn := fnid, tmps := a.tmps, params := ps, assign := as, body := bd, defers := r0.defers }) d1
      refine core _ _ _ _ r0.defers (run_enterLoop_inner (hr.wr.dd _ _ hr0).1 _ _ _ _ _) hle w2 d1 hr.wr.size (setD_new _ _ _) (hr.df.mono hle.d hle.kd) ?_
      intro D hd
      obtain ⟨D', e, hlt⟩ := hkd hd
      have : D = D' := by simpa using e
      omega
end
end Go.Proofs.Ytnjjkobijjdnbaa

/- A range over a function: its rounds. -/
set_option linter.unusedVariables false
set_option linter.unusedSimpArgs false
namespace Go.Proofs.Ytnjjkobijjdnbaa
open Go

/-- Yield's arguments in the loop's temporaries. -/
def setPs : List Nat → List V → List V → List V
  | p :: ps, v :: vs, tm => setPs ps vs (tm.set p v)
  | _, _, tm => tm
theorem setPs_rels {G : Gh} : ∀ (ps : List Nat) (vs : List V) (cvs : List Value) (tm : List V) (t : Array Value), Rels G vs cvs → Rels G tm t.toList → Rels G (setPs ps vs tm) ((ps.zip cvs).foldl (fun t p => t.setIfInBounds p.1 p.2) t).toList
  | [], vs, cvs, tm, t, _, h => by simpa [setPs] using h
  | p :: ps, [], cvs, tm, t, h1, h => by
    have : cvs = [] := by have := h1.1; simpa using this
    subst this
    simpa [setPs] using h
  | p :: ps, v :: vs, [], tm, t, h1, h => by have := h1.1; simp at this
  | p :: ps, v :: vs, c :: cvs, tm, t, h1, h => by
    have hv : VRel G v c := h1.2 0 v c rfl rfl
    have hvs : Rels G vs cvs := ⟨by have := h1.1; simpa using this, fun j x y a b => h1.2 (j + 1) x y (by simpa using a) (by simpa using b)⟩
    simp only [setPs, List.zip_cons_cons, List.foldl_cons]
    exact setPs_rels ps vs cvs _ _ hvs (by simpa using h.set hv p)
def St.noY (x : St) : Bool := (V.clL idP x.tm).isSome && noYm x.ob x.nm
section
variable {P : Program} {Γ : Nat → Option V} {G : Gh} {ob : Ob} {nm : Nm} {w : World} {σ : St}
theorem rec_back {r : Loop} (h1 : r.state = .ready) (h2 : r.pending = none) : ({ r with state := .ready, pending := none } : Loop) = r := by
  cases r
  simp only at h1 h2
  subst h1
  subst h2
  rfl
theorem SemF.yield {tm : List V} {ps : Array Tmp} {as bd : Code} {vs : List V} {s1 s2 : St} (hf : P.funcs[yid]? = none) (hl : vs.length = ps.size)
    (hA : SemC P Γ as ⟨setPs ps.toList vs tm, ob, nm, ob.length, nm.length⟩ .normal s1) (hY : s1.noY = true) (hB : SemC P Γ bd s1 .normal s2) : SemF P Γ yid (.yl tm ps as bd :: vs) ob nm (.b true) s2.ob s2.nm := by
  intro G w cargs hw hr
  refine (callsX_yield hf).2 ?_
  match cargs, hr with
  | [], hr => exact absurd hr.1 (by simp)
  | c0 :: rest, hr =>
    have h0 : VRel G (.yl tm ps as bd) c0 := hr.2 0 _ _ rfl rfl
    have hrs : Rels G vs rest := ⟨by have := hr.1; simpa using this, fun j x y a b => hr.2 (j + 1) x y (by simpa using a) (by simpa using b)⟩
    cases h0 with
    | @yl _ _ _ _ l r hD hs hlen ht =>
      obtain ⟨s0, p0, rfl, rfl, rfl⟩ := hs
      have hheap := (hw.dd _ _ hD).1
      refine ⟨l, rest, rfl, r.fn, _, r.assign, r.body, run_yield hheap (by rw [← hl]; simpa using hrs.1), ?_⟩
      refine roundIn_of_wpIn (F := Fence.wide) trivial ?_
      have htm : Rels G tm r.tmps.toList := ⟨by simpa using hlen, fun j v cv a b => ht j v cv a (by simpa using b)⟩
      have e0 : ((r.params.zip rest.toArray).foldl (fun tmps (x : Tmp × Value) => match x with | (t, a) => tmps.setIfInBounds t a) r.tmps) = (r.params.toList.zip rest).foldl (fun t p => t.setIfInBounds p.1 p.2) r.tmps := by
        rw [← Array.foldl_toList, Array.toList_zip]
      have hps := setPs_rels r.params.toList vs rest tm r.tmps hrs htm
      rw [← e0] at hps
      have hw0 := hw.reK ob.length nm.length
      refine wpIn_mono (hA (some l) (G.reK ob.length nm.length) _ w ⟨hps.mono' (G.reK_sub _ _), hw0, .nil _, rfl, rfl⟩ (fun l' e => by cases e; exact ⟨r, hD⟩)) ?_
      rintro e a1 w1 ⟨rfl, G1, hle1, r1⟩
      have hD1 : G1.D l = some (.loop r) := hle1.d _ _ hD
      have hold : G1.w0.own l := (r1.wr.dd _ _ hD1).2.2
      have hb1 := run_beginRound (P := P) (r1.wr.dd _ _ hD1).1 s0
      refine ⟨_, hb1, ?_⟩
      simp only [St.noY, Bool.and_eq_true] at hY
      obtain ⟨hY1, hY2⟩ := hY
      have hw2 := r1.wr.putD (G2 := G1.setD l (.loop { r with state := .busy })) (o := .loop { r with state := .busy }) hD1 rfl hold rfl (fun v hv cv h => VRel.noYD h (noYm_ob hY2 v hv)) (fun v hv cv h => VRel.noYD h (noYm_nm hY2 v hv))
      have htm1 : V.clL idP s1.tm = some s1.tm := by
        cases hc : V.clL idP s1.tm with
        | none => rw [hc] at hY1; cases hY1
        | some ys => rw [clL_id _ _ hc]
      have rel2 : Rel Γ (G1.setD l (.loop { r with state := .busy })) s1 a1 (w1.putObj l (.loop { r with state := .busy })) :=
        ⟨⟨r1.tm.1, fun j v cv a b => VRel.noYD (r1.tm.2 j v cv a b) (clL_id_mem htm1 v (List.mem_of_getElem? a))⟩, hw2, ⟨r1.df.nd, fun d hd => by
          obtain ⟨D, e, q1, q2⟩ := r1.df.at_ d hd
          refine ⟨D, e, q1, ?_⟩
          show (if D = l then _ else G1.D D) = _
          rw [if_neg (by rintro rfl; rw [hD1] at q2; cases q2)]
          exact q2⟩, r1.kh, r1.kt⟩
      have ro2 : RoOk (G1.setD l (.loop { r with state := .busy })) (some l) := fun l' e => by cases e; exact ⟨_, setD_new _ _ _⟩
      refine wpIn_mono (hB (some l) _ a1 _ rel2 ro2) ?_
      rintro e a2 w3 ⟨rfl, G2, hle2, r2⟩
      have hD2 : G2.D l = some (.loop { r with state := .busy }) := hle2.d _ _ (setD_new _ _ _)
      have he := run_endRound (P := P) none (r2.wr.dd _ _ hD2).1
      simp only [Option.isNone_none, if_true] at he
      rw [rec_back s0 p0] at he
      refine ⟨_, _, he, .bool true, (G2.setD l (.loop r)).reK G.kh G.kt, rfl, ?_, .b true, ?_⟩
      · refine ⟨⟨fun b off cv h => hle2.m b off cv (hle1.m b off cv h), fun o b h => ?_, fun n x h => ?_, fun k q h => ?_⟩, rfl, rfl, hle2.w0.trans hle1.w0, hle2.m0.trans hle1.m0, hle2.kd.trans hle1.kd⟩
        · have hlt := (hw.hlt o b h).1
          have g1 := hle1.h o b hlt h
          exact hle2.h o b (by show o < G1.kh; rw [hle1.kh]; exact hlt) g1
        · have hlt := hw.tlt n x h
          have g1 := hle1.t n x hlt h
          exact hle2.t n x (by show n < G1.kt; rw [hle1.kt]; exact hlt) g1
        · show (if k = l then _ else G2.D k) = _
          by_cases hk : k = l
          · subst hk; rw [hD] at h; cases h; rw [if_pos rfl]
          · rw [if_neg hk]
            refine hle2.d _ _ ?_
            show (if k = l then _ else G1.D k) = _
            rw [if_neg hk]
            exact hle1.d _ _ h
      · have gd : ∀ {v : V} {cv : Value}, VRel G2 v cv → VRel (G2.setD l (.loop r)) v cv := fun h =>
          VRel.mono0 (G := G2) (G' := G2.setD l (.loop r)) (fun _ _ _ h => h) (fun _ _ h => h) (fun _ _ h => h) (fun l' q hq h => by
            show (if l' = l then _ else G2.D l') = _
            by_cases hk : l' = l
            · subst hk; rw [hD2] at h; cases h; cases hq
            · rw [if_neg hk]; exact h) h
        exact (r2.wr.putD (o := .loop r) hD2 rfl (by rw [hle2.w0]; exact hold) rfl (fun v _ cv h => gd h) (fun v _ cv h => gd h)).reK _ _
end
end Go.Proofs.Ytnjjkobijjdnbaa

/- The evaluator of code and functions, and its soundness. -/
set_option linter.unusedVariables false
set_option linter.unusedSimpArgs false
namespace Go.Proofs.Ytnjjkobijjdnbaa
open Go

section
variable {P : Program} {Γ : Nat → Option V} {cf : CallF} {ops : Array Oper} {base : Nat}

/-- A region's steps as a tree. -/
def evReg (P : Program) (Γ : Nat → Option V) (cf : CallF) (ops : Array Oper) (base : Nat) : Nat → Nat → St → Tr (St × List (Option Eff))
  | 0, _, x => .leaf (some (x, []))
  | n + 1, i, x =>
    match ops[i]? with
    | none => (evReg P Γ cf ops base n (i + 1) x).bind fun p => .leaf (some (p.1, none :: p.2))
    | some o =>
      match wantedL ops x.tm o with
      | none => .leaf none
      | some false => (evReg P Γ cf ops base n (i + 1) (x.put o.dst (.tup []))).bind fun p => .leaf (some (p.1, none :: p.2))
      | some true =>
        match evE P cf (slotOf ops base i) o (x.eval Γ) x.ob x.nm with
        | none => .leaf none
        | some out =>
          Tr.chk out.chk out.sy (match isGd ops i, out.v with
            | true, .sb b => .br b ((evReg P Γ cf ops base n (i + 1) (x.after out o.dst (.b true))).bind fun p => .leaf (some (p.1, some out.eff :: p.2)))
                ((evReg P Γ cf ops base n (i + 1) (x.after out o.dst (.b false))).bind fun p => .leaf (some (p.1, some out.eff :: p.2)))
            | _, v => (evReg P Γ cf ops base n (i + 1) (x.after out o.dst v)).bind fun p => .leaf (some (p.1, some out.eff :: p.2)))
theorem evReg_run : ∀ (n i : Nat) (x : St), (evReg P Γ cf ops base n i x).run = chain P Γ cf ops base n i x
  | 0, i, x => rfl
  | n + 1, i, x => by
    have hb : ∀ (y : St) (ef : Option Eff), ((evReg P Γ cf ops base n (i + 1) y).bind fun p => Tr.leaf (some (p.1, ef :: p.2))).run = (match chain P Γ cf ops base n (i + 1) y with | none => none | some (x2, es) => some (x2, ef :: es)) := fun y ef => by
      rw [Tr.run_bind, evReg_run n (i + 1) y]
      cases chain P Γ cf ops base n (i + 1) y with
      | none => rfl
      | some p => rfl
    simp only [evReg, chain, stp]
    cases ho : ops[i]? with
    | none => exact hb x none
    | some o =>
      simp only []
      cases hw : wantedL ops x.tm o with
      | none => rfl
      | some t =>
        cases t with
        | false => exact hb _ none
        | true =>
          simp only []
          cases he : evE P cf (slotOf ops base i) o (x.eval Γ) x.ob x.nm with
          | none => rfl
          | some out =>
            simp only [Tr.run_chk]
            by_cases hc : out.chk = true
            · simp only [hc, if_true]
              cases hg : isGd ops i with
              | false => simp only [litG]; exact hb _ _
              | true =>
                cases hv : out.v with
                | sb b => cases b <;> exact hb _ _
                | _ => simp only [litG]; exact hb _ _
            · simp [hc]

inductive Ex where
  | normal | exit (id : Nat) | ret
def Ex.to : Ex → Exit
  | .normal => .normal
  | .exit id => .exit id
  | .ret => .ret
def padK (ops : Array Oper) : Nat := (ops.toList.filter allocs).length
def St.basis (x : St) : Nat := max x.ob.length x.nm.length
def St.pad (x : St) (k : Nat) : St :=
  match k with
  | 0 => x
  | k + 1 => { x with ob := x.ob ++ List.replicate (x.basis + (k + 1) - x.ob.length) none, nm := x.nm ++ List.replicate (x.basis + (k + 1) - x.nm.length) none }
def evRegion (P : Program) (Γ : Nat → Option V) (cf : CallF) (ops : Array Oper) (draw : Bool) (x : St) : Tr (Ex × St) :=
  match draw with
  | false => (evReg P Γ cf ops x.basis ops.size 0 (x.pad (padK ops))).bind fun p => .leaf (some (.normal, p.1))
  | true =>
    match Region.lexB .any ops with
    | true => (evReg P Γ cf ops x.basis ops.size 0 (x.pad (padK ops))).bind fun p => match commAll ops p.2 with | true => .leaf (some (.normal, p.1)) | false => .leaf none
    | false => .leaf none
/-- A range over a function: the function is called with yield. -/
def evRange (P : Program) (Γ : Nat → Option V) (cf : CallF) (g : Operand) (ps : Array Tmp) (as bd : Code) (x : St) : Tr (Ex × St) :=
  match x.eval Γ g with
  | .fn (.func f) first cap =>
    match Nat.beq f yid with
    | true => .leaf none
    | false =>
      match cf f (first ++ .yl x.tm ps as bd :: cap) x.ob x.nm with
      | some out =>
        match noYm (out.eff.ob x.ob) (out.eff.nm x.nm) with
        | true =>
          match out.sy with
          | true => .br out.chk (.leaf (some (.normal, { x with ob := out.eff.ob x.ob, nm := out.eff.nm x.nm }))) (.leaf none)
          | false => match out.chk with | true => .leaf (some (.normal, { x with ob := out.eff.ob x.ob, nm := out.eff.nm x.nm })) | false => .leaf none
        | false => .leaf none
      | none => .leaf none
  | _ => .leaf none
def evC (P : Program) (Γ : Nat → Option V) (cf : CallF) : Nat → Code → St → Tr (Ex × St)
  | 0, _, _ => .leaf none
  | n + 1, c, x =>
    match c with
    | .skip => .leaf (some (.normal, x))
    | .ret => .leaf (some (.ret, x))
    | .exit id => .leaf (some (.exit id, x))
    | .region _ ops draw => evRegion P Γ cf ops draw x
    | .seq a b => (evC P Γ cf n a x).bind fun p => match p.1 with | .normal => evC P Γ cf n b p.2 | e => .leaf (some (e, p.2))
    | .cond c t f =>
      match (x.eval Γ c).bool? with
      | some (b, true) => .br b (evC P Γ cf n t x) (evC P Γ cf n f x)
      | some (true, false) => evC P Γ cf n t x
      | some (false, false) => evC P Γ cf n f x
      | none => .leaf none
    | .block id b => (evC P Γ cf n b x).bind fun p => match p.1 with | .exit i => if i = id then .leaf (some (.normal, p.2)) else .leaf (some (.exit i, p.2)) | e => .leaf (some (e, p.2))
    | .loop b => (evC P Γ cf n b x).bind fun p => match p.1 with | .normal => evC P Γ cf n (.loop b) p.2 | e => .leaf (some (e, p.2))
    | .rangeFunc g ps as bd => evRange P Γ cf g ps as bd x
    | _ => .leaf none

theorem rep_get {α : Type} {l : List (Option α)} {k o : Nat} {c : Option α} (hc : (l ++ List.replicate k none)[o]? = some c) : l[o]? = some c ∨ (l.length ≤ o ∧ c = none) := by
  rcases Nat.lt_or_ge o l.length with hl | hl
  · rw [List.getElem?_append_left hl] at hc; exact .inl hc
  · rw [List.getElem?_append_right hl, List.getElem?_replicate] at hc
    split at hc
    · simp at hc; exact .inr ⟨hl, hc.symm⟩
    · cases hc
theorem WRel.padded {G : Gh} {ob : Ob} {nm : Nm} {w : World} (h : WRel Γ G ob nm w) (k m : Nat) : WRel Γ G (ob ++ List.replicate k none) (nm ++ List.replicate m none) w :=
  { h with
    hob := fun o cs b h1 h2 => by
      rcases rep_get h1 with h1 | ⟨_, h1⟩
      · exact h.hob o cs b h1 h2
      · cases h1
    hlt := fun o b h1 => ⟨by have := (h.hlt o b h1).1; simp; omega, (h.hlt o b h1).2⟩
    habs := fun o h1 => by
      rcases rep_get h1 with h1 | ⟨h1, _⟩
      · exact h.habs o h1
      · cases hh : G.H o with
        | none => rfl
        | some b => have := (h.hlt o b hh).1; omega
    hnm := fun n c x h1 h2 => by
      rcases rep_get h1 with h1 | ⟨_, h1⟩
      · exact h.hnm n c x h1 h2
      · cases h1
    hno := fun n c h1 h2 => by
      rcases rep_get h1 with h1 | ⟨_, h1⟩
      · exact h.hno n c h1 h2
      · cases h1
    nmd := fun n n' c c' x x' hn h1 h2 h3 h4 => by
      rcases rep_get h1 with h1 | ⟨_, h1⟩
      · rcases rep_get h2 with h2 | ⟨_, h2⟩
        · exact h.nmd n n' c c' x x' hn h1 h2 h3 h4
        · cases h2
      · cases h1
    tabs := fun n h1 => by
      rcases rep_get h1 with h1 | ⟨h1, _⟩
      · exact h.tabs n h1
      · cases hh : G.T n with
        | none => rfl
        | some b => have := h.tlt n b hh; omega
    tlt := fun n x h1 => by have := h.tlt n x h1; simp; omega
    dd := h.dd
    kdle := h.kdle }
theorem Rel.pad {G : Gh} {x : St} {a : Act} {w : World} (h : Rel Γ G x a w) (k : Nat) : Rel Γ G (x.pad k) a w := by
  cases k with
  | zero => exact h
  | succ k => exact ⟨h.tm, h.wr.padded _ _, h.df, h.kh, h.kt⟩
theorem pad_free (x : St) : Free ops x.basis 0 (x.pad (padK ops)) := by
  intro j o _ ho hal
  have hj : j < ops.toList.length := by
    rcases Nat.lt_or_ge j ops.toList.length with h | h
    · exact h
    · have : ops.toList[j]? = some o := by simpa using ho
      rw [List.getElem?_eq_none h] at this
      cases this
  have h1 : ops.toList.take (j + 1) = ops.toList.take j ++ [o] := by
    rw [List.take_succ_eq_append_getElem hj]
    congr 2
    have : ops.toList[j]? = some o := by simpa using ho
    rw [List.getElem?_eq_getElem hj] at this
    exact Option.some.inj this
  have h2 : ((ops.toList.take j).filter allocs).length + 1 = ((ops.toList.take (j + 1)).filter allocs).length := by rw [h1]; simp [hal]
  have h3 : ((ops.toList.take (j + 1)).filter allocs).length ≤ padK ops := ((List.take_sublist _ _).filter _).length_le
  have b1 : x.ob.length ≤ x.basis := Nat.le_max_left _ _
  have b2 : x.nm.length ≤ x.basis := Nat.le_max_right _ _
  cases hp : padK ops with
  | zero => omega
  | succ k =>
    simp only [St.pad, slotOf]
    rw [hp] at h3
    rw [List.getElem?_append_right (by omega), List.getElem?_append_right (by omega), List.getElem?_replicate, List.getElem?_replicate, if_pos (by omega), if_pos (by omega)]
    exact ⟨rfl, rfl⟩
theorem SemC.of_pad {c : Code} {x x' : St} {e : Exit} {k : Nat} (h : SemC P Γ c (x.pad k) e x') : SemC P Γ c x e x' := fun ro G a w hr ho => h ro G a w (hr.pad k) ho

theorem evRegion_sound (hcf : CallsOk P Γ cf) (hfit : CallsFit cf) (hm : P.follows .mixedOrders = true) {id : Nat} {draw : Bool} {x : St} {e : Ex} {x' : St} (h : (evRegion P Γ cf ops draw x).run = some (e, x')) : SemC P Γ (.region id ops draw) x e.to x' := by
  unfold evRegion at h
  cases draw with
  | false =>
    simp only [Tr.run_bind, evReg_run] at h
    cases hc : chain P Γ cf ops x.basis ops.size 0 (x.pad (padK ops)) with
    | none => rw [hc] at h; cases h
    | some p =>
      rw [hc] at h
      cases h
      exact SemC.of_pad (SemC.region_chain hcf hfit (pad_free x) hc)
  | true =>
    simp only [] at h
    cases hB : Region.lexB .any ops with
    | false => rw [hB] at h; cases h
    | true =>
      rw [hB] at h
      simp only [Tr.run_bind, evReg_run] at h
      cases hc : chain P Γ cf ops x.basis ops.size 0 (x.pad (padK ops)) with
      | none => rw [hc] at h; cases h
      | some p =>
        rw [hc] at h
        simp only [Option.bind_some] at h
        cases hco : commAll ops p.2 with
        | false => rw [hco] at h; cases h
        | true =>
          rw [hco] at h
          cases h
          exact SemC.of_pad (SemC.region_draw hcf hfit hm hB (pad_free x) hc hco)

theorem evRange_sound (hcf : CallsOk P Γ cf) {g : Operand} {ps : Array Tmp} {as bd : Code} {x : St} {e : Ex} {x' : St} (h : (evRange P Γ cf g ps as bd x).run = some (e, x')) : SemC P Γ (.rangeFunc g ps as bd) x e.to x' := by
  unfold evRange at h
  split at h
  · rename_i f first cap hx
    split at h
    · cases h
    · rename_i hne
      split at h
      · rename_i out ho
        split at h
        · rename_i hY
          have key : out.chk = true ∧ e = .normal ∧ x' = { x with ob := out.eff.ob x.ob, nm := out.eff.nm x.nm } := by
            split at h
            · simp only [Tr.run] at h
              cases hc : out.chk <;> rw [hc] at h <;> simp [Tr.run] at h
              exact ⟨rfl, h.1.symm, h.2.symm⟩
            · split at h
              · rename_i hc
                simp [Tr.run] at h
                exact ⟨hc, h.1.symm, h.2.symm⟩
              · simp [Tr.run] at h
          obtain ⟨hchk, rfl, rfl⟩ := key
          obtain ⟨h1, hn⟩ := hcf _ _ _ _ _ ho hchk
          rcases hn with ⟨e, _⟩ | ⟨_, fn, h2, h3, h4⟩
          · exact absurd e (beq_ne hne)
          · exact SemC.rangeFunc hx h2 h3 h4 h1 hY
        · cases h
      · cases h
  · cases h
theorem evC_sound' (hcf : CallsOk P Γ cf) (hfit : CallsFit cf) (hm : P.follows .mixedOrders = true) : ∀ (n : Nat) (c : Code) (x : St) (e : Ex) (x' : St), (evC P Γ cf n c x).run = some (e, x') → SemC P Γ c x e.to x' ∧ ∀ b, c = .loop b → SemL P Γ b x e.to x'
  | 0, c, x, e, x', h => by cases h
  | n + 1, c, x, e, x', h => by
    have ihl := evC_sound' hcf hfit hm n
    have ih := fun c x e x' h => (ihl c x e x' h).1
    have hbind : ∀ {c : Code} {y : St} {f : Ex × St → Tr (Ex × St)} {r : Ex × St}, ((evC P Γ cf n c y).bind f).run = some r → ∃ p, (evC P Γ cf n c y).run = some p ∧ (f p).run = some r := fun {c y f r} hh => by
      rw [Tr.run_bind] at hh
      cases hp : (evC P Γ cf n c y).run with
      | none => rw [hp] at hh; cases hh
      | some p => rw [hp] at hh; exact ⟨p, rfl, hh⟩
    cases c with
    | skip => cases h; exact ⟨SemC.skip, fun b hb => by cases hb⟩
    | ret => cases h; exact ⟨SemC.ret, fun b hb => by cases hb⟩
    | exit id => cases h; exact ⟨SemC.exit, fun b hb => by cases hb⟩
    | region id ops draw => exact ⟨evRegion_sound hcf hfit hm h, fun b hb => by cases hb⟩
    | seq a b =>
      refine ⟨?_, fun b hb => by cases hb⟩
      obtain ⟨⟨e1, x1⟩, h1, h2⟩ := hbind h
      cases e1 with
      | normal => exact SemC.seq (ih a x .normal x1 h1) (ih b x1 e x' h2)
      | exit i => cases h2; exact SemC.seq_out (by simp [Ex.to]) (ih a x _ _ h1)
      | ret => cases h2; exact SemC.seq_out (by simp [Ex.to]) (ih a x _ _ h1)
    | cond q t f =>
      refine ⟨?_, fun b hb => by cases hb⟩
      simp only [evC] at h
      cases hq : (x.eval Γ q).bool? with
      | none => rw [hq] at h; cases h
      | some p =>
        obtain ⟨b, s⟩ := p
        rw [hq] at h
        intro ro G a w hr ho
        have hb := bool?_eq hq (hr.eval q)
        cases b
        · have h' : (evC P Γ cf n f x).run = some (e, x') := by cases s <;> exact h
          exact wpIn_cond_false hb (ih f x e x' h' ro G a w hr ho)
        · have h' : (evC P Γ cf n t x).run = some (e, x') := by cases s <;> exact h
          exact wpIn_cond_true hb (ih t x e x' h' ro G a w hr ho)
    | block id b =>
      refine ⟨?_, fun b hb => by cases hb⟩
      obtain ⟨⟨e1, x1⟩, h1, h2⟩ := hbind h
      cases e1 with
      | normal => cases h2; exact SemC.block (by simp [Ex.to]) (ih b x _ _ h1)
      | ret => cases h2; exact SemC.block (by simp [Ex.to]) (ih b x _ _ h1)
      | exit i =>
        simp only [] at h2
        split at h2
        · rename_i hi; subst hi; cases h2; exact SemC.block_exit (ih b x _ _ h1)
        · rename_i hi; cases h2; exact SemC.block (by simpa [Ex.to] using hi) (ih b x _ _ h1)
    | loop b =>
      have key : SemL P Γ b x e.to x' := by
        obtain ⟨⟨e1, x1⟩, h1, h2⟩ := hbind h
        cases e1 with
        | normal => exact SemL.next (ih b x .normal x1 h1) ((ihl (.loop b) x1 e x' h2).2 b rfl)
        | exit i => cases h2; exact SemL.out (by simp [Ex.to]) (ih b x _ _ h1)
        | ret => cases h2; exact SemL.out (by simp [Ex.to]) (ih b x _ _ h1)
      exact ⟨SemC.loop key, fun b' hb => by cases hb; exact key⟩
    | rangeFunc g ps as bd => exact ⟨evRange_sound hcf h, fun b hb => by cases hb⟩
    | _ => cases h
theorem evC_sound (hcf : CallsOk P Γ cf) (hfit : CallsFit cf) (hm : P.follows .mixedOrders = true) {n : Nat} {c : Code} {x : St} {e : Ex} {x' : St} (h : (evC P Γ cf n c x).run = some (e, x')) : SemC P Γ c x e.to x' := (evC_sound' hcf hfit hm n c x e x' h).1

/-! ### Functions -/
/-- What a function comes to. -/
def evF (P : Program) (Γ : Nat → Option V) (cf : CallF) (n : Nat) (f : FuncId) (args : List V) (ob : Ob) (nm : Nm) : Tr (V × St) :=
  match P.funcs[f]? with
  | none => .leaf none
  | some fn =>
    match fn.body with
    | none => .leaf none
    | some c =>
      if fn.name == "runtime.NumGoroutine" then .leaf none else
      (evC P Γ cf n c (St.start fn.ntmps args ob nm)).bind fun p =>
        match p.1 with
        | .exit _ => .leaf none
        | _ => match resV P p.2 fn.results.toList with | some v => .leaf (some (v, p.2)) | none => .leaf none
theorem evF_sound (hcf : CallsOk P Γ cf) (hfit : CallsFit cf) (hm : P.follows .mixedOrders = true) {n : Nat} {f : FuncId} {args : List V} {ob : Ob} {nm : Nm} {v : V} {x : St} (h : (evF P Γ cf n f args ob nm).run = some (v, x)) :
    SemF P Γ f args ob nm v x.ob x.nm ∧ ∃ fn, P.funcs[f]? = some fn ∧ fn.body.isSome = true ∧ (fn.name == "runtime.NumGoroutine") = false := by
  unfold evF at h
  cases hf : P.funcs[f]? with
  | none => rw [hf] at h; cases h
  | some fn =>
    rw [hf] at h
    simp only [] at h
    cases hb : fn.body with
    | none => rw [hb] at h; cases h
    | some c =>
      rw [hb] at h
      simp only [] at h
      split at h
      · cases h
      · rename_i hn
        refine ⟨?_, fn, rfl, by rw [hb]; rfl, by simpa using hn⟩
        rw [Tr.run_bind] at h
        cases hc : (evC P Γ cf n c (St.start fn.ntmps args ob nm)).run with
        | none => rw [hc] at h; cases h
        | some p =>
          obtain ⟨e, y⟩ := p
          rw [hc] at h
          simp only [Option.bind_some] at h
          have hs := evC_sound hcf hfit hm hc
          have key : ∀ v', resV P y fn.results.toList = some v' → (e = .ret ∨ e = .normal) → SemF P Γ f args ob nm v' y.ob y.nm := fun v' hv he =>
            SemF.of_body hf hb (by rcases he with rfl | rfl <;> simp [Ex.to]) hs hv
          cases e with
          | exit i => cases h
          | ret =>
            simp only [] at h
            cases hv : resV P y fn.results.toList with
            | none => rw [hv] at h; cases h
            | some v' => rw [hv] at h; cases h; exact key _ hv (.inl rfl)
          | normal =>
            simp only [] at h
            cases hv : resV P y fn.results.toList with
            | none => rw [hv] at h; cases h
            | some v' => rw [hv] at h; cases h; exact key _ hv (.inr rfl)
open Classical in
/-- What the function made for itself goes; what the value shows of it never changes from here on. -/
theorem SemF.drop {f : FuncId} {args : List V} {v v' : V} {ob1 : Ob} {nm1 : Nm} (h : SemF P Γ f args [] [] v ob1 nm1) (hc : v.cl (lendP ob1 nm1) = some v') : SemF P Γ f args [] [] v' [] [] := by
  intro G w cargs hw hr
  refine (h G w cargs hw hr).mono ?_
  rintro e w' ⟨cv, G1, rfl, hle, hv, hw1⟩
  have hH : ∀ o b, G.H o ≠ some b := fun o b hh => by have := (hw.hlt o b hh).1; simp at this
  have hT : ∀ n t, G.T n ≠ some t := fun n t hh => by have := hw.tlt n t hh; simp at this
  let M1 : Nat → Nat → Option Value := fun b off => if Lent G1 ob1 nm1 b then w'.cell? ⟨b, off, none⟩ else G1.M b off
  have hM : ∀ b off cv, G1.M b off = some cv → M1 b off = some cv := fun b off cv hm => by
    show (if _ then _ else _) = _
    split
    · exact hw1.m b off cv hm
    · exact hm
  let G2 : Gh := { M := M1, H := fun _ => none, T := fun _ => none, D := G1.D, kh := G1.kh, kt := G1.kt, w0 := G1.w0, M0 := G1.M0, kd := G1.kd }
  have hb0 : G1.bare.sub G2 := ⟨hM, (fun _ _ h => by cases h), (fun _ _ h => by cases h), (fun _ _ h => by cases h)⟩
  have hold : ∀ b, Lent G1 ob1 nm1 b → G1.w0.own b := fun b hb => by
    rcases hb with ⟨o, cs, h1, h2⟩ | ⟨n, c, x, h1, h2, rfl⟩
    · exact (hw1.hob o cs b h1 h2).1
    · exact (hw1.hnm n c x h1 h2).old
  refine ⟨cv, G2, rfl, ⟨⟨fun b off cv hm => hM b off cv (hle.m b off cv hm), fun o b hh => absurd hh (hH o b), fun n t hh => absurd hh (hT n t), hle.d⟩, hle.kh, hle.kt, hle.w0, hle.m0, hle.kd⟩,
    VRel.cl (lendP_cell ob1 nm1) hM (lendP_rel hw1 (fun b hb off => if_pos hb) hb0) hv hc, ?_⟩
  exact {
    m := fun b off cv hm => by
      have hm : (if Lent G1 ob1 nm1 b then w'.cell? ⟨b, off, none⟩ else G1.M b off) = some cv := hm
      split at hm
      · exact hm
      · exact hw1.m b off cv hm
    hob := fun o cs b h1 h2 => by simp at h1
    hlt := fun o b h1 => by cases h1
    habs := fun o h1 => rfl
    inj := fun o o' b h1 h2 => by cases h1
    hnm := fun n c x h1 h2 => by simp at h1
    hno := fun n c h1 => by simp at h1
    nmd := fun n n' c c' x x' _ h1 => by simp at h1
    tabs := fun n _ => rfl
    tlt := fun n t h1 => by cases h1
    dd := hw1.dd
    kdle := hw1.kdle
    gl := fun g v hg => (hw1.gl g v hg).mono' hb0.bare
    mold := fun b off hb => by
      show (if Lent G1 ob1 nm1 b then w'.cell? ⟨b, off, none⟩ else G1.M b off) = G1.M0 b off
      rw [if_neg (fun hl => hb (hold b hl))]
      exact hw1.mold b off hb
    os := hw1.os
    tape := hw1.tape
    output := hw1.output
    size := hw1.size
    block := hw1.block }
/-- A weaker value. -/
theorem SemF.weaken {f : FuncId} {args : List V} {v v' : V} {ob ob1 : Ob} {nm nm1 : Nm} (h : SemF P Γ f args ob nm v ob1 nm1) (hw : ∀ (G : Gh) (cv : Value), VRel G v cv → VRel G v' cv) : SemF P Γ f args ob nm v' ob1 nm1 :=
  fun G w cargs h1 h2 => (h G w cargs h1 h2).mono fun e w' ⟨cv, G1, h3, h4, h5, h6⟩ => ⟨cv, G1, h3, h4, hw _ _ h5, h6⟩

/-- The ways' values in one. -/
inductive MRes where
  | bad | dead | ok (c : Option Bool) (v : V)
def MRes.mg (b : Bool) : MRes → MRes → MRes
  | .bad, _ => .bad
  | _, .bad => .bad
  | .dead, .dead => .dead
  | .ok c v, .dead => .ok (some (match c with | none => b | some c => b && c)) v
  | .dead, .ok c v => .ok (some (match c with | none => !b | some c => !b && c)) v
  | .ok c v, .ok d u =>
    match mergeV b v u with
    | some z => .ok (match c, d with | none, none => none | some c, none => some (!b || c) | none, some d => some (b || d) | some c, some d => some (bif b then c else d)) z
    | none => .bad
def mergeT : Tr (V × St) → MRes
  | .leaf none => .dead
  | .leaf (some p) => match p.1.cl (lendP p.2.ob p.2.nm) with | some v => .ok none v | none => .bad
  | .br b x y => (mergeT x).mg b (mergeT y)
theorem mergeT_run : ∀ (t : Tr (V × St)) (c : Option Bool) (v : V), mergeT t = .ok c v → c.getD true = true → ∃ u s u', t.run = some (u, s) ∧ u.cl (lendP s.ob s.nm) = some u' ∧ ∀ (G : Gh) (cv : Value), VRel G u' cv → VRel G v cv
  | .leaf none, c, v, h, _ => by cases h
  | .leaf (some p), c, v, h, _ => by
    simp only [mergeT] at h
    split at h
    · rename_i q hq; cases h; exact ⟨p.1, p.2, _, rfl, hq, fun _ _ h => h⟩
    · cases h
  | .br b x y, c, v, h, hc => by
    simp only [mergeT] at h
    cases hx : mergeT x with
    | bad => rw [hx] at h; cases h
    | dead =>
      cases hy : mergeT y with
      | bad => rw [hx, hy] at h; cases h
      | dead => rw [hx, hy] at h; cases h
      | ok d u =>
        rw [hx, hy] at h
        cases h
        have hc' : b = false ∧ d.getD true = true := by cases d <;> simpa using hc
        obtain ⟨rfl, hd⟩ := hc'
        exact mergeT_run y d _ hy hd
    | ok d u =>
      cases hy : mergeT y with
      | bad => rw [hx, hy] at h; cases h
      | dead =>
        rw [hx, hy] at h
        cases h
        have hc' : b = true ∧ d.getD true = true := by cases d <;> simpa using hc
        obtain ⟨rfl, hd⟩ := hc'
        exact mergeT_run x d _ hx hd
      | ok d2 u2 =>
        rw [hx, hy] at h
        simp only [MRes.mg] at h
        split at h
        · rename_i z hz
          cases h
          have hm := mergeV_ok b u u2 v hz
          have hcc : (bif b then d.getD true else d2.getD true) = true := by
            cases b <;> cases d <;> cases d2 <;> first | rfl | simpa using hc
          cases b with
          | true =>
            obtain ⟨q, s, q', h1, h2, h3⟩ := mergeT_run x d u hx hcc
            exact ⟨q, s, q', h1, h2, fun G cv hr => hm G cv (h3 G cv hr)⟩
          | false =>
            obtain ⟨q, s, q', h1, h2, h3⟩ := mergeT_run y d2 u2 hy hcc
            exact ⟨q, s, q', h1, h2, fun G cv hr => hm G cv (h3 G cv hr)⟩
        · cases h

/-- Functions that are known by a contract. -/
abbrev Orc := FuncId → List V → Option (Option Bool × V)
def OrcOk (P : Program) (Γ : Nat → Option V) (orc : Orc) : Prop :=
  ∀ f args c v, orc f args = some (c, v) → c.getD true = true → SemF P Γ f args [] [] v [] [] ∧ ∃ fn, P.funcs[f]? = some fn ∧ fn.body.isSome = true ∧ (fn.name == "runtime.NumGoroutine") = false
mutual
def V.refs : V → List Nat
  | .ptr o _ => [o]
  | .sl o _ _ => [o]
  | .pel xs _ _ => V.refsL xs
  | .lst _ xs => V.refsL xs
  | .fn _ a c => V.refsL a ++ V.refsL c
  | .ifc _ x => V.refs x
  | .agg cs => V.refsL cs
  | .tup cs => V.refsL cs
  | .yl tm _ _ _ => V.refsL tm
  | _ => []
def V.refsL : List V → List Nat
  | [] => []
  | v :: vs => V.refs v ++ V.refsL vs
end
mutual
/-- The buffers that a value names. -/
def V.nrefs : V → List Nat
  | .bs _ n _ _ => [n]
  | .bp n _ _ => [n]
  | .pel xs _ _ => V.nrefsL xs
  | .lst _ xs => V.nrefsL xs
  | .fn _ a c => V.nrefsL a ++ V.nrefsL c
  | .ifc _ x => V.nrefs x
  | .agg cs => V.nrefsL cs
  | .tup cs => V.nrefsL cs
  | .yl tm _ _ _ => V.nrefsL tm
  | _ => []
def V.nrefsL : List V → List Nat
  | [] => []
  | v :: vs => V.nrefs v ++ V.nrefsL vs
end
theorem refsL_mem {o : Nat} : ∀ {l : List V} {v : V}, v ∈ l → o ∈ v.refs → o ∈ V.refsL l
  | x :: l, v, hv, ho => by
    simp only [V.refsL, List.mem_append]
    rcases List.mem_cons.1 hv with rfl | hv
    · exact .inl ho
    · exact .inr (refsL_mem hv ho)
theorem nrefsL_mem {o : Nat} : ∀ {l : List V} {v : V}, v ∈ l → o ∈ v.nrefs → o ∈ V.nrefsL l
  | x :: l, v, hv, ho => by
    simp only [V.nrefsL, List.mem_append]
    rcases List.mem_cons.1 hv with rfl | hv
    · exact .inl ho
    · exact .inr (nrefsL_mem hv ho)
mutual
theorem cl_same {p p' : V → Option V} (hsl : (∀ o off len, p (.sl o off len) = p' (.sl o off len) ∧ p (.bp o off len) = p' (.bp o off len)) ∧ ∀ tm ps as bd, p (.yl tm ps as bd) = p' (.yl tm ps as bd)) : ∀ (v : V), (∀ o off, o ∈ v.refs → p (.ptr o off) = p' (.ptr o off)) → (∀ sy n off len, n ∈ v.nrefs → p (.bs sy n off len) = p' (.bs sy n off len)) → v.cl p = v.cl p'
  | .ptr o off, h, _ => by simp only [V.cl, h o off (by simp [V.refs])]
  | .pel xs k off, h, g => by simp only [V.cl, clL_same hsl xs (fun o off ho => h o off (by simpa [V.refs] using ho)) (fun sy o off len ho => g sy o off len (by simpa [V.nrefs] using ho))]
  | .lst t xs, h, g => by simp only [V.cl, clL_same hsl xs (fun o off ho => h o off (by simpa [V.refs] using ho)) (fun sy o off len ho => g sy o off len (by simpa [V.nrefs] using ho))]
  | .fn f a c, h, g => by simp only [V.cl, clL_same hsl a (fun o off ho => h o off (by simp [V.refs, ho])) (fun sy o off len ho => g sy o off len (by simp [V.nrefs, ho])), clL_same hsl c (fun o off ho => h o off (by simp [V.refs, ho])) (fun sy o off len ho => g sy o off len (by simp [V.nrefs, ho]))]
  | .ifc t x, h, g => by simp only [V.cl, cl_same hsl x (fun o off ho => h o off (by simpa [V.refs] using ho)) (fun sy o off len ho => g sy o off len (by simpa [V.nrefs] using ho))]
  | .agg cs, h, g => by simp only [V.cl, clL_same hsl cs (fun o off ho => h o off (by simpa [V.refs] using ho)) (fun sy o off len ho => g sy o off len (by simpa [V.nrefs] using ho))]
  | .tup cs, h, g => by simp only [V.cl, clL_same hsl cs (fun o off ho => h o off (by simpa [V.refs] using ho)) (fun sy o off len ho => g sy o off len (by simpa [V.nrefs] using ho))]
  | .bs sy n off len, _, g => by simp only [V.cl, g sy n off len (by simp [V.nrefs])]
  | .bp o off len, _, _ => by simp only [V.cl, (hsl.1 o off len).2]
  | .slst _ _ _, _, _ => by simp only [V.cl]
  | .sl o off len, _, _ => by simp only [V.cl, (hsl.1 o off len).1]
  | .b _, _, _ => rfl
  | .i _ _, _, _ => rfl
  | .s _, _, _ => rfl
  | .sb _, _, _ => rfl
  | .si _ _, _, _ => rfl
  | .ss _, _, _ => rfl
  | .nil, _, _ => rfl
  | .nilfn, _, _ => rfl
  | .nilifc, _, _ => rfl
  | .yl tm ps as bd, _, _ => by simp only [V.cl, hsl.2 tm ps as bd]
  | .any, _, _ => rfl
theorem clL_same {p p' : V → Option V} (hsl : (∀ o off len, p (.sl o off len) = p' (.sl o off len) ∧ p (.bp o off len) = p' (.bp o off len)) ∧ ∀ tm ps as bd, p (.yl tm ps as bd) = p' (.yl tm ps as bd)) : ∀ (l : List V), (∀ o off, o ∈ V.refsL l → p (.ptr o off) = p' (.ptr o off)) → (∀ sy n off len, n ∈ V.nrefsL l → p (.bs sy n off len) = p' (.bs sy n off len)) → V.clL p l = V.clL p' l
  | [], _, _ => rfl
  | v :: vs, h, g => by simp only [V.clL, cl_same hsl v (fun o off ho => h o off (by simp [V.refsL, ho])) (fun sy o off len ho => g sy o off len (by simp [V.nrefsL, ho])), clL_same hsl vs (fun o off ho => h o off (by simp [V.refsL, ho])) (fun sy o off len ho => g sy o off len (by simp [V.nrefsL, ho]))]
end
theorem clL_each {p p' : V → Option V} : ∀ {l : List V}, (∀ v ∈ l, v.cl p = v.cl p') → V.clL p l = V.clL p' l
  | [], _ => rfl
  | v :: l, h => by simp only [V.clL, h v (by simp), clL_each (l := l) (fun u hu => h u (by simp [hu]))]
/-- What objects and buffers hold. -/
def obCells (ob : Ob) (os : List Nat) : List V := os.flatMap fun (o : Nat) => match ob[o]? with | some (some cs) => cs | _ => []
def nmCells (nm : Nm) (ns : List Nat) : List V := ns.flatMap fun (n : Nat) => match nm[n]? with | some (some (.live (.cs _ xs))) => xs | _ => []
/-- The objects and buffers that values lead to, so deep. -/
def dO (ob : Ob) (nm : Nm) : Nat → List V → List Nat
  | 0, _ => []
  | k + 1, l => V.refsL l ++ dO ob nm k (obCells ob (V.refsL l) ++ nmCells nm (V.nrefsL l))
def dN (ob : Ob) (nm : Nm) : Nat → List V → List Nat
  | 0, _ => []
  | k + 1, l => V.nrefsL l ++ dN ob nm k (obCells ob (V.refsL l) ++ nmCells nm (V.nrefsL l))
theorem obCells_same {ob ob' : Ob} : ∀ {os : List Nat}, (∀ o ∈ os, ob[o]? = ob'[o]?) → obCells ob' os = obCells ob os
  | [], _ => rfl
  | o :: os, h => by
    have := obCells_same (os := os) fun x hx => h x (by simp [hx])
    simp only [obCells, List.flatMap_cons] at this ⊢
    rw [this, h o (by simp)]
theorem nmCells_same {nm nm' : Nm} : ∀ {os : List Nat}, (∀ o ∈ os, nm[o]? = nm'[o]?) → nmCells nm' os = nmCells nm os
  | [], _ => rfl
  | o :: os, h => by
    have := nmCells_same (os := os) fun x hx => h x (by simp [hx])
    simp only [nmCells, List.flatMap_cons] at this ⊢
    rw [this, h o (by simp)]
theorem lend_same {ob ob' : Ob} {nm nm' : Nm} : ∀ (k : Nat) (l : List V), (∀ o ∈ dO ob nm k l, ob[o]? = ob'[o]?) → (∀ n ∈ dN ob nm k l, nm[n]? = nm'[n]?) →
    (∀ v ∈ l, v.cl (lendN ob nm k) = v.cl (lendN ob' nm' k)) ∧ dO ob' nm' k l = dO ob nm k l ∧ dN ob' nm' k l = dN ob nm k l
  | 0, l, _, _ => ⟨fun v _ => rfl, rfl, rfl⟩
  | k + 1, l, h, g => by
    have ho : ∀ o ∈ V.refsL l, ob[o]? = ob'[o]? := fun o h1 => h o (by simp [dO, h1])
    have hn : ∀ o ∈ V.nrefsL l, nm[o]? = nm'[o]? := fun o h1 => g o (by simp [dN, h1])
    have e1 := obCells_same ho
    have e2 := nmCells_same hn
    obtain ⟨i1, i2, i3⟩ := lend_same k (obCells ob (V.refsL l) ++ nmCells nm (V.nrefsL l)) (fun o h1 => h o (by simp only [dO, List.mem_append]; exact .inr h1)) (fun o h1 => g o (by simp only [dN, List.mem_append]; exact .inr h1))
    refine ⟨fun v hv => cl_same (p := lendN ob nm (k + 1)) (p' := lendN ob' nm' (k + 1)) ⟨fun _ _ _ => ⟨rfl, rfl⟩, fun _ _ _ _ => rfl⟩ v (fun o off h1 => ?_) (fun sy n off len h1 => ?_), by simp only [dO, e1, e2, i2], by simp only [dN, e1, e2, i3]⟩
    · have hm := refsL_mem hv h1
      simp only [lendN, ← ho o hm]
      cases hob : ob[o]? with
      | none => rfl
      | some c =>
        cases c with
        | none => rfl
        | some cs =>
          have : V.clL (lendN ob nm k) cs = V.clL (lendN ob' nm' k) cs := clL_each fun u hu => i1 u (List.mem_append.2 (.inl (List.mem_flatMap.2 ⟨o, hm, by rw [hob]; exact hu⟩)))
          simp only [this]
    · have hm := nrefsL_mem hv h1
      simp only [lendN, ← hn n hm]
      cases hnm : nm[n]? with
      | none => rfl
      | some c =>
        cases c with
        | none => rfl
        | some c =>
          cases c with
          | dead => rfl
          | live c =>
            cases c with
            | arr ty l => rfl
            | cs sz xs =>
              have : V.clL (lendN ob nm k) xs = V.clL (lendN ob' nm' k) xs := clL_each fun u hu => i1 u (List.mem_append.2 (.inr (List.mem_flatMap.2 ⟨n, hm, by rw [hnm]; exact hu⟩)))
              simp only [lendB, this]
theorem clL_refs {ob ob' : Ob} {nm nm' : Nm} (l : List V) (h : ∀ o ∈ dO ob nm 3 l, ob[o]? = ob'[o]?) (g : ∀ n ∈ dN ob nm 3 l, nm[n]? = nm'[n]?) : V.clL (lendP ob nm) l = V.clL (lendP ob' nm') l ∧ dO ob' nm' 3 l = dO ob nm 3 l ∧ dN ob' nm' 3 l = dN ob nm 3 l := by
  obtain ⟨h1, h2, h3⟩ := lend_same 3 l h g
  exact ⟨clL_each h1, h2, h3⟩

mutual
/-- Nothing taken for known. -/
def V.sy : V → V
  | .b x => .sb x
  | .i k n => .si k n
  | .s x => .ss x
  | .pel xs k off => .pel (V.syL xs) k off
  | .lst t xs => .lst t (V.syL xs)
  | .fn f a c => .fn f (V.syL a) (V.syL c)
  | .ifc t x => .ifc t (V.sy x)
  | .agg cs => .agg (V.syL cs)
  | .tup cs => .tup (V.syL cs)
  | .sb x => .sb x
  | .si k n => .si k n
  | .ss x => .ss x
  | .nil => .nil
  | .ptr o off => .ptr o off
  | .sl o off n => .sl o off n
  | .slst t ty l => .slst t ty l
  | .bs sy n off len => .bs true n off len
  | .bp n j off => .bp n j off
  | .nilfn => .nilfn
  | .nilifc => .nilifc
  | .yl tm ps as bd => .yl tm ps as bd
  | .any => .any
def V.syL : List V → List V
  | [] => []
  | v :: vs => V.sy v :: V.syL vs
end
theorem syL_map : ∀ (l : List V), V.syL l = l.map V.sy
  | [] => rfl
  | v :: vs => by simp only [V.syL, List.map_cons, syL_map vs]
theorem sy_cells (v : V) : v.sy.cells = v.cells.map V.sy := by cases v <;> simp [V.sy, V.cells, syL_map]
theorem sy_flat (xs : List V) : flat (xs.map V.sy) = (flat xs).map V.sy := by
  induction xs with
  | nil => rfl
  | cons x xs ih => rw [List.map_cons, flat_cons, flat_cons, List.map_append, ih, sy_cells]
theorem map_get {α β : Type} {f : α → β} {l : List α} {j : Nat} {b : β} (h : (l.map f)[j]? = some b) : ∃ a, l[j]? = some a ∧ f a = b := by
  rw [List.getElem?_map, Option.map_eq_some_iff] at h
  exact h
theorem VRel.sy {G : Gh} {v : V} {cv : Value} (h : VRel G v cv) : VRel G v.sy cv := by
  induction h with
  | b x => exact .sb x
  | i k n => exact .si k n
  | s x => exact .ss x
  | sb x => exact .sb x
  | si k n => exact .si k n
  | ss x => exact .ss x
  | nil => exact .nil
  | ptr h => exact .ptr h
  | sl h hc => exact .sl h hc
  | nilfn => exact .nilfn
  | nilifc => exact .nilifc
  | any v => exact .any v
  | slst h ih => simp only [V.sy]; exact .slst h
  | bs0 sy n off => exact .bs0 true n off
  | bs1 sy n off b o => exact .bs1 true n off b o
  | bs h hl => exact .bs h hl
  | bp h => exact .bp h
  | yl h hs hl ht ih => exact .yl h hs hl ht
  | ifc h ih => exact .ifc ih
  | lst0 t => simp only [V.sy, V.syL]; exact .lst0 t
  | lst1 p cap => simp only [V.sy, V.syL]; exact .lst1 p cap
  | @lst t xs b off cap sz cvs hsz hl hm hv hc ht ih =>
    simp only [V.sy, syL_map]
    rw [← List.length_map (f := V.sy)]
    refine .lst (sz := sz) (cvs := cvs) (fun x hx => ?_) (by rw [hl, sy_flat, List.length_map]) hm (fun j v cv h1 h2 => ?_) (by simpa using hc) (by simpa using ht)
    · obtain ⟨z, hz, rfl⟩ := List.mem_map.1 hx
      rw [sy_cells, List.length_map]
      exact hsz z hz
    · rw [sy_flat] at h1
      obtain ⟨z, hz, rfl⟩ := map_get h1
      exact ih j z cv hz h2
  | @pel xs k off b o0 sz cvs hsz hl hm hv ih =>
    simp only [V.sy, syL_map]
    refine .pel (sz := sz) (cvs := cvs) (fun x hx => ?_) (by rw [hl, sy_flat, List.length_map]) hm (fun j v cv h1 h2 => ?_)
    · obtain ⟨z, hz, rfl⟩ := List.mem_map.1 hx
      rw [sy_cells, List.length_map]
      exact hsz z hz
    · rw [sy_flat] at h1
      obtain ⟨z, hz, rfl⟩ := map_get h1
      exact ih j z cv hz h2
  | @fn f xs ys a c ha hc h1 h2 i1 i2 =>
    simp only [V.sy, syL_map]
    refine .fn (by rw [ha, List.length_map]) (by rw [hc, List.length_map]) (fun j v cv g1 g2 => ?_) (fun j v cv g1 g2 => ?_)
    · obtain ⟨z, hz, rfl⟩ := map_get g1
      exact i1 j z cv hz g2
    · obtain ⟨z, hz, rfl⟩ := map_get g1
      exact i2 j z cv hz g2
  | @agg cs c hl h1 ih =>
    simp only [V.sy, syL_map]
    refine .agg (by rw [hl, List.length_map]) (fun j v cv g1 g2 => ?_)
    obtain ⟨z, hz, rfl⟩ := map_get g1
    exact ih j z cv hz g2
  | @tup cs c hl h1 ih =>
    simp only [V.sy, syL_map]
    refine .tup (by rw [hl, List.length_map]) (fun j v cv g1 g2 => ?_)
    obtain ⟨z, hz, rfl⟩ := map_get g1
    exact ih j z cv hz g2
theorem Rels.sy {G : Gh} {vs : List V} {cvs : List Value} (h : Rels G vs cvs) : Rels G (V.syL vs) cvs := by
  rw [syL_map]
  refine ⟨by rw [h.1, List.length_map], fun j v cv h1 h2 => ?_⟩
  obtain ⟨z, hz, rfl⟩ := map_get h1
  exact (h.2 j z cv hz h2).sy
theorem SemF.of_sy {f : FuncId} {args : List V} {ob ob' : Ob} {nm nm' : Nm} {v : V} (h : SemF P Γ f (V.syL args) ob nm v ob' nm') : SemF P Γ f args ob nm v ob' nm' := fun G w cargs hw hr => h G w cargs hw hr.sy

def outC (c : Option Bool) (v : V) (e : Eff) : Out :=
  match c with
  | none => ⟨true, false, v, e⟩
  | some b => ⟨b, true, v, e⟩
theorem outC_eff (c : Option Bool) (v : V) (e : Eff) : (outC c v e).eff = e := by cases c <;> rfl
theorem outC_v (c : Option Bool) (v : V) (e : Eff) : (outC c v e).v = v := by cases c <;> rfl
theorem outC_chk (c : Option Bool) (v : V) (e : Eff) : (outC c v e).chk = c.getD true := by cases c <;> rfl
theorem OrcOk.none : OrcOk P Γ (fun _ _ => Option.none) := fun f args c v h => by cases h
/-- A contract more. -/
theorem OrcOk.cons {orc : Orc} (h : OrcOk P Γ orc) (f0 : FuncId) (g : List V → Option (Option Bool × V)) (fn : Func) (hf : P.funcs[f0]? = some fn) (hb : fn.body.isSome = true) (hn : (fn.name == "runtime.NumGoroutine") = false)
    (hg : ∀ args c v, g args = some (c, v) → c.getD true = true → SemF P Γ f0 args [] [] v [] []) : OrcOk P Γ (fun f args => if f = f0 then g args else orc f args) := by
  intro f args c v hv hc
  simp only at hv
  split at hv
  · rename_i he; subst he; exact ⟨hg args c v hv hc, fn, hf, hb, hn⟩
  · exact h f args c v hv hc
end
end Go.Proofs.Ytnjjkobijjdnbaa

/- One way through a decision tree; contracts by ways. -/
set_option linter.unusedVariables false
set_option linter.unusedSimpArgs false
namespace Go.Proofs.Ytnjjkobijjdnbaa
open Go

/-- The end of the way that the decisions take. -/
def Tr.path {α : Type} : Tr α → List Bool → Option α
  | .leaf x, [] => x
  | .leaf _, _ :: _ => none
  | .br _ _ _, [] => none
  | .br _ x y, d :: ds => match d with | true => x.path ds | false => y.path ds
/-- What is decided along the way. -/
def Tr.conds {α : Type} : Tr α → List Bool → List Bool
  | .br b x y, d :: ds => b :: (match d with | true => x.conds ds | false => y.conds ds)
  | _, _ => []
theorem Tr.run_path {α : Type} : ∀ (t : Tr α) (ds : List Bool) (a : α), t.path ds = some a → t.conds ds = ds → t.run = some a
  | .leaf x, [], a, h, _ => h
  | .leaf x, d :: ds, a, h, _ => by cases h
  | .br b x y, [], a, h, _ => by cases h
  | .br b x y, d :: ds, a, h, hc => by
    simp only [Tr.conds, List.cons.injEq] at hc
    obtain ⟨rfl, hc⟩ := hc
    cases b with
    | true => exact Tr.run_path x ds a h hc
    | false => exact Tr.run_path y ds a h hc
def valO (x : Option (V × St)) : Option V := x.bind fun p => p.1.cl (lendP p.2.ob p.2.nm)
section
variable {P : Program} {Γ : Nat → Option V}
/-- Arguments that stand for the same. -/
theorem SemF.args {f : FuncId} {a b : List V} {ob ob' : Ob} {nm nm' : Nm} {v : V} (h : SemF P Γ f a ob nm v ob' nm') (hab : ∀ (G : Gh) (c : List Value), Rels G b c → Rels G a c) : SemF P Γ f b ob nm v ob' nm' := fun G w cargs hw hr => h G w cargs hw (hab G _ hr)
theorem SemF.sy_args {f : FuncId} {a : List V} {ob ob' : Ob} {nm nm' : Nm} {v : V} (h : SemF P Γ f a ob nm v ob' nm') (ha : ∀ (G : Gh) (c : List Value), Rels G (V.syL a) c → Rels G a c) : SemF P Γ f (V.syL a) ob nm v ob' nm' := h.args ha
theorem Rels.head {G : Gh} {v v' : V} {l l' : List V} (h : ∀ c, VRel G v c → VRel G v' c) (k : ∀ c, Rels G l c → Rels G l' c) : ∀ c, Rels G (v :: l) c → Rels G (v' :: l') c := fun c hc => by
  match c, hc.1 with
  | x :: xs, _ => exact Rels.cons (h x (hc.2 0 v x rfl rfl)) (k xs (by simpa using hc.drop 1))
theorem VRel.known_i {G : Gh} {k : IntKind} {n : Int} : ∀ c, VRel G (.si k n) c → VRel G (.i k n) c := fun c h => by cases h; exact .i _ _
theorem VRel.known_b {G : Gh} {x : Bool} : ∀ c, VRel G (.sb x) c → VRel G (.b x) c := fun c h => by cases h; exact .b _
theorem VRel.known_agg {G : Gh} {l l' : List V} (h : ∀ c, Rels G l c → Rels G l' c) : ∀ c, VRel G (.agg l) c → VRel G (.agg l') c := fun c hc => by
  obtain ⟨x, rfl, hx⟩ := hc.agg_form
  exact VRel.mk_agg (h _ hx)
end
end Go.Proofs.Ytnjjkobijjdnbaa

