/- Parts of the library of texts, one after the other: Ev11g, Ev11h, Ev12, Ev13. -/
import Derived.Test.YtofbchcclkejgaaTOd
import Derived.Laws.BytesArg
/- Conversions; a string's bytes. -/
set_option linter.unusedVariables false
set_option linter.unusedSimpArgs false
namespace Go.Proofs.Ytofbchcclkejgaa
open Go
section
variable {P : Program} {Γ : Nat → Option V} {G : Gh} {ob : Ob} {nm : Nm} {w : World} {σ : St}
theorem SemV.conv_int {o : Oper} {S D : TypeId} {x : Operand} {d : TypeDesc} {k k' : IntKind} {n : Int} {s : Bool} (ho : o.op = .convert S D x) (hs : P.underlying S = some d) (hd : P.underlying D = some (.int k')) (hx : (σ.eval Γ x).int? = some (k, n, s)) :
 SemV P Γ o σ (mkI s k' (k'.wrap n)) σ.ob σ.nm :=
 SemV.of_pure fun G a w hr => by
  have hxi := int?_eq hx (hr.eval x)
  refine ⟨.int k' (k'.wrap n), ?_, mkI_rel _ _ _ _⟩
  cases d <;> simp [execOp, ho, hxi, convert, run_underlying hs, run_underlying hd, Conv.intToInt]
theorem SemV.conv_str {o : Oper} {S D : TypeId} {x : Operand} {s : ByteArray} {b : Bool} (ho : o.op = .convert S D x) (hs : P.underlying S = some .string) (hd : P.underlying D = some .string) (hx : (σ.eval Γ x).str? = some (s, b)) : SemV P Γ o σ (mkS b s) σ.ob σ.nm :=
 SemV.of_pure fun G a w hr => by
  have hxi := str?_eq hx (hr.eval x)
  exact ⟨.string s, by simp [execOp, ho, hxi, convert, run_underlying hs, run_underlying hd], mkS_rel _ _ _⟩
theorem rels_u8 {k : IntKind} : ∀ {l : List Int} {cvs : List Value}, Rels G (l.map (V.si k)) cvs → cvs = l.map (Value.int k)
 | [], cvs, h => List.length_eq_zero_iff.1 h.1
 | n :: l, cvs, h => by
  match cvs, h.1 with
  | c :: cs, _ =>
   have h0 := h.2 0 _ c rfl rfl
   cases h0
   rw [List.map_cons, rels_u8 (l := l) (cvs := cs) (by simpa using h.drop 1)]
theorem Ys.bytes {tx e : TypeId} {cy : Value} {l : List Int} (hk : P.underlying tx = some (.slice e)) (h : Ys P G w 1 tx cy (l.map (V.si .u8))) (hsl : ∃ a n c, cy = .slice a n c) : (Conv.bytesToString cy).run P w = .ok (.string (strOfNums l)) w := by
 obtain ⟨news, hs, hr⟩ := h.src
 rw [flat_si] at hr
 have hn := rels_u8 hr
 subst hn
 obtain ⟨a, n, c, rfl⟩ := hsl
 have hlen := hs.len w
 have hcells := hs.cells
 simp only [List.length_map] at hlen hcells
 have hn : n = l.length := by simpa [Builtin.lenOf] using hlen
 subst hn
 cases a with
 | none =>
  have : l = [] := by
   have e1 : (#[] : Array Value) = (l.map (Value.int .u8)).toArray := by simpa [Builtin.firstCells] using hcells
   have := congrArg Array.size e1
   simp at this
   exact List.length_eq_zero_iff.1 this.symm
  subst this
  simp [Conv.bytesToString, strOfNums]
  rfl
 | some a =>
  have hl : (loadCells a l.length).run P w = .ok (l.map (Value.int .u8)).toArray w := by simpa [Builtin.firstCells] using hcells
  rw [run_bytesToString w a l.length c l hl, foldl_push_bytes]
  simp [strOfNums, ByteArray.empty, ByteArray.emptyWithCapacity]
  rfl
def BC.bytes (c : BC) : Option (List Int) :=
 match c with
 | .arr ty l => listAs (.int .u8) l
 | .u8 _ _ _ => none
 | .cs _ xs => optMap (whole (Ty.ofC (.int .u8))) xs
theorem SemV.conv_bytes {o : Oper} {S D e : TypeId} {x : Operand} {b : BC} {rn : List Nat} {l : List Int} (ho : o.op = .convert S D x) (hs : P.underlying S = some (.slice e)) (he : P.underlying e = some (.int .u8)) (hd : P.underlying D = some .string)
 (hx : ysE P 1 S (σ.eval Γ x) σ.nm = some (b, rn)) (hb : b.bytes = some l) (hstr : (σ.eval Γ x).str? = none) (sy : Bool) : SemV P Γ o σ (mkS sy (strOfNums l)) σ.ob σ.nm :=
 SemV.of_pure fun G a w hr => by
  obtain ⟨hz, hY⟩ := ysE_ok hx
  have hy := hY G a w hr
  have hy2 : Ys P G w 1 S (a.eval x) (l.map (V.si .u8)) := by
   cases b with
   | arr ty l0 =>
    have e := listAs_eq hb
    have : (l.map (V.si .u8)) = l0.map ty.val := e
    rw [this]
    exact hy
   | cs sz xs => exact hy.conv (ty := .int .u8) rfl hb
   | u8 sy E l => cases hb
  have hsl : ∃ p n c, a.eval x = .slice p n c := by
   have hrx := hr.eval x
   unfold ysE at hx
   rw [hstr] at hx
   simp only [] at hx
   split at hx
   · generalize σ.eval Γ x = v at hx hrx
     generalize a.eval x = cv at hrx
     cases v <;> simp at hx
     · obtain ⟨p, c, h⟩ := hrx.slice_form; exact ⟨_, _, _, h⟩
     · cases hrx with | slst q => obtain ⟨p, c, h⟩ := q.slice_form; exact ⟨_, _, _, h⟩
     · cases hrx <;> exact ⟨_, _, _, rfl⟩
     · cases hrx; exact ⟨_, _, _, rfl⟩
     · cases hrx; exact ⟨_, _, _, rfl⟩
   · cases hx
  have hrun := hy2.bytes hs hsl
  obtain ⟨p, n, c, hc⟩ := hsl
  rw [hc] at hrun
  refine ⟨.string (strOfNums l), ?_, mkS_rel _ _ _⟩
  have := run_convert_bytes_string (P := P) w S D e p n c hs he hd
  simp [execOp, ho, hc, this, hrun]
def byteAt (s : ByteArray) (i : Nat) : Int := ((s.data.getD i 0).toNat : Nat)
theorem SemV.index_strX {o : Oper} {T : TypeId} {x y : Operand} {k : IntKind} {i : Int} {s : ByteArray} {b b' : Bool} (ho : o.op = .index T x y) (ht : P.underlying T = some .string) (hx : (σ.eval Γ x).str? = some (s, b)) (hy : (σ.eval Γ y).int? = some (k, i, b')) (hi : 0 ≤ i ∧ i < (s.size : Int)) :
 SemV P Γ o σ (mkI (b || b') .u8 (byteAt s i.toNat)) σ.ob σ.nm :=
 SemV.of_pure fun G a w hr => by
  have hxs := str?_eq hx (hr.eval x)
  have hyi := int?_eq hy (hr.eval y)
  refine ⟨.int .u8 (byteAt s i.toNat), ?_, mkI_rel _ _ _ _⟩
  have h2 : i.toNat < s.size := by omega
  have hrun := run_index_string (P := P) w T s k i ht
  rw [dif_pos hi] at hrun
  have e : (s[i.toNat]'h2).toNat = (s.data.getD i.toNat 0).toNat := by
   have h3 : i.toNat < s.data.size := h2
   have h4 : s.data.getD i.toNat 0 = s.data[i.toNat] := by unfold Array.getD; rw [dif_pos h3]; rfl
   rw [h4]
   rfl
  rw [e] at hrun
  simp [execOp, ho, hxs, hyi, hrun, byteAt]
def allKnown : BC → Bool
 | .arr _ _ => false
 | .u8 _ _ _ => false
 | .cs _ xs => xs.all fun v => match v with | .i _ _ => true | _ => false
def cnvX (P : Program) (S D : TypeId) (x : V) (nm : Nm) : Option Out :=
 match P.underlying S, P.underlying D with
 | some sd, some (.int k') => match x.int? with | some (_, n, s) => outP (mkI s k' (k'.wrap n)) | none => none
 | some .string, some .string => match x.str? with | some (s, b) => outP (mkS b s) | none => none
 | some (.slice e), some .string =>
  match P.underlying e with
  | some (.int .u8) =>
   match x.str? with
   | some _ => none
   | none =>
    match ysE P 1 S x nm with
    | some (b, rn) => match b.bytes with | some l => some ⟨true, false, mkS (!allKnown b) (strOfNums l), .rds [] rn⟩ | none => none
    | none => none
  | _ => none
 | _, _ => none
theorem SemV.cnvX {o : Oper} {S D : TypeId} {x : Operand} {out : Out} (ho : o.op = .convert S D x) (h : cnvX P S D (σ.eval Γ x) σ.nm = some out) : SemV P Γ o σ out.v (out.eff.ob σ.ob) (out.eff.nm σ.nm) := by
 unfold Go.Proofs.Ytofbchcclkejgaa.cnvX at h
 split at h
 · rename_i sd k' hs hd
   split at h
   · rename_i k n s hx
     cases h
     exact SemV.conv_int ho hs hd hx
   · cases h
 · rename_i hs hd
   split at h
   · rename_i s b hx
     cases h
     exact SemV.conv_str ho hs hd hx
   · cases h
 · rename_i e hs hd
   split at h
   · rename_i he
     split at h
     · cases h
     · rename_i hstr
       split at h
       · rename_i b rn hy
         split at h
         · rename_i l hb
           cases h
           exact SemV.conv_bytes ho hs he hd hy hb hstr _
         · cases h
       · cases h
   · cases h
 · cases h
def idxS (P : Program) (T : TypeId) (x y : V) : Option Out :=
 match P.underlying T with
 | some .string =>
  match x.str?, y.int? with
  | some (s, b), some (_, i, b') => some ⟨decide (0 ≤ i ∧ i < (s.size : Int)), b || b', mkI (b || b') .u8 (byteAt s i.toNat), .pure⟩
  | _, _ => none
 | _ => none
theorem SemV.idxS {o : Oper} {T : TypeId} {x y : Operand} {out : Out} (ho : o.op = .index T x y) (h : idxS P T (σ.eval Γ x) (σ.eval Γ y) = some out) (hchk : out.chk = true) : SemV P Γ o σ out.v (out.eff.ob σ.ob) (out.eff.nm σ.nm) := by
 unfold Go.Proofs.Ytofbchcclkejgaa.idxS at h
 split at h
 · rename_i ht
   split at h
   · rename_i s b k i b' hx hy
     cases h
     exact SemV.index_strX ho ht hx hy (of_decide_eq_true hchk)
   · cases h
 · cases h
end
end Go.Proofs.Ytofbchcclkejgaa

/- copy and clear over buffers. -/
set_option linter.unusedVariables false
set_option linter.unusedSimpArgs false
namespace Go.Proofs.Ytofbchcclkejgaa
open Go
section
variable {P : Program} {Γ : Nat → Option V} {G : Gh} {ob : Ob} {nm : Nm} {w : World} {σ : St}
theorem run_load_inv {a : Addr} {v : Value} {w w' : World} (h : (load a).run P w = .ok v w') : w' = w := by
 simp only [load, Sem.run] at h
 split at h
 · cases h; rfl
 · split at h
   · cases h; rfl
   · cases h
theorem loadCellsFrom_inv {a : Addr} : ∀ (n i : Nat) (acc r : Array Value) (w w' : World), (loadCellsFrom a i n acc).run P w = .ok r w' → w' = w ∧ r.size = acc.size + n ∧ acc.toList = r.toList.take acc.size
 | 0, i, acc, r, w, w', h => by
  simp only [loadCellsFrom, Sem.run_pure, Result.ok.injEq] at h
  obtain ⟨rfl, rfl⟩ := h
  exact ⟨rfl, rfl, by rw [List.take_of_length_le (by simp)]⟩
 | n + 1, i, acc, r, w, w', h => by
  simp only [loadCellsFrom, Sem.run_bind] at h
  cases hl : (load (a.add i)).run P w with
  | ok v w1 =>
   rw [hl, Result.andThen_ok] at h
   obtain rfl := run_load_inv hl
   obtain ⟨g1, g2, g3⟩ := loadCellsFrom_inv n (i + 1) (acc.push v) r w1 w' h
   simp only [Array.size_push] at g2 g3
   refine ⟨g1, by omega, ?_⟩
   have := congrArg (List.take acc.size) g3
   rw [List.take_take, Nat.min_eq_left (by omega)] at this
   rw [← this]
   simp
  | _ => rw [hl] at h; simp [Result.andThen] at h
theorem loadCellsFrom_pre {a : Addr} : ∀ (m k i : Nat) (acc r : Array Value) (w w' : World), (loadCellsFrom a i (m + k) acc).run P w = .ok r w' → (loadCellsFrom a i m acc).run P w = .ok (r.toList.take (acc.size + m)).toArray w
 | 0, k, i, acc, r, w, w', h => by
  rw [Nat.zero_add] at h
  obtain ⟨_, _, g3⟩ := loadCellsFrom_inv k i acc r w w' h
  rw [Nat.add_zero, ← g3]
  simp [loadCellsFrom]
 | m + 1, k, i, acc, r, w, w', h => by
  rw [show m + 1 + k = (m + k) + 1 by omega] at h
  simp only [loadCellsFrom, Sem.run_bind] at h ⊢
  cases hl : (load (a.add i)).run P w with
  | ok v w1 =>
   rw [hl, Result.andThen_ok] at h
   rw [Result.andThen_ok]
   obtain rfl := run_load_inv hl
   have := loadCellsFrom_pre m k (i + 1) (acc.push v) r w1 w' h
   rw [Array.size_push, show acc.size + 1 + m = acc.size + (m + 1) by omega] at this
   exact this
  | _ => rw [hl] at h; simp [Result.andThen] at h
theorem src_pre {size : Nat} {tx : TypeId} {x : Value} {n : Nat} {news : List Value} (h : Src P size tx x n news w) {k : Nat} (hk : k ≤ n) : (Builtin.firstCells size k x).run P w = .ok (news.take (k * size)).toArray w := by
 have hc := h.cells
 have hl := h.len w
 have hkn : k * size ≤ n * size := Nat.mul_le_mul_right _ hk
 have hnl := h.newsLen
 cases x with
 | slice a m c =>
  cases a with
  | none =>
   simp only [Builtin.firstCells, Sem.run_pure, Result.ok.injEq] at hc
   have : news = [] := by have := congrArg Array.toList hc.1; simpa using this.symm
   simp [Builtin.firstCells, this]
  | some a =>
   simp only [Builtin.firstCells, loadCells] at hc ⊢
   rw [show n * size = k * size + (n * size - k * size) by omega] at hc
   have := loadCellsFrom_pre _ _ _ _ _ _ _ hc
   simpa using this
 | string s =>
  simp only [Builtin.lenOf, Sem.run_pure, Result.ok.injEq] at hl
  obtain ⟨rfl, _⟩ := hl
  simp only [Builtin.firstCells, Sem.run_pure, Result.ok.injEq] at hc
  have hn := congrArg Array.toList hc.1
  have hs : (s.extract 0 s.size).data.size = s.size := by simp
  have hlen := congrArg List.length hn
  simp only [Array.length_toList, Array.size_map] at hlen
  have hsz : s.size = s.size * size := by
   have e1 : (s.extract 0 s.size).data.size = s.size := by simp
   have e2 : news.toArray.size = s.size * size := by simpa using hnl
   omega
  simp only [Builtin.firstCells, Sem.run_pure, Result.ok.injEq, and_true]
  apply Array.ext'
  rw [← (by simpa using hn : ((s.extract 0 s.size).data.map fun b => Value.int .u8 b.toNat).toList = news)]
  simp only [Array.toList_map, List.toList_toArray]
  rw [← List.map_take]
  congr 1
  rcases Nat.eq_zero_or_pos s.size with h0 | h0
  · have hk0 : k = 0 := by omega
    subst hk0
    simp
  · have h1 : size = 1 := by
     rcases Nat.lt_or_ge size 1 with h' | h'
     · have : size = 0 := by omega
       rw [this] at hsz; omega
     · rcases Nat.lt_or_ge 1 size with h2 | h2
       · have : s.size * 2 ≤ s.size * size := Nat.mul_le_mul_left _ h2
         omega
       · omega
    rw [h1, Nat.mul_one]
    simp [ByteArray.data_extract, Array.toList_extract, List.extract]
 | _ => simp [Builtin.lenOf] at hl
theorem put_lists {α : Type} {L V : List α} {lo e t N : Nat} (hV : V.length = t) (h2 : e + t ≤ N) (h3 : lo + N ≤ L.length) :
 ((L.take (lo + e) ++ V ++ L.drop (lo + e + t)).drop lo).take N = ((L.drop lo).take N).take e ++ V ++ ((L.drop lo).take N).drop (e + t) := by
 apply List.ext_getElem?
 intro j
 have m1 : min (lo + e) L.length = lo + e := by omega
 have m2 : min e (min N (L.length - lo)) = e := by omega
 simp only [List.getElem?_take, List.getElem?_drop, List.getElem?_append, List.length_append, List.length_take, List.length_drop, hV, m1, m2]
 repeat' split
 all_goals first
  | omega
  | rfl
  | (congr 1; omega)
theorem flat_take {sz : Nat} {xs : List V} (h : ∀ x ∈ xs, x.cells.length = sz) (k : Nat) : flat (xs.take k) = (flat xs).take (k * sz) := by
 have := flat_take_drop h 0 k
 simpa using this
theorem flat_drop {sz : Nat} {xs : List V} (h : ∀ x ∈ xs, x.cells.length = sz) (k : Nat) : flat (xs.drop k) = (flat xs).drop (k * sz) := by
 have h1 := flat_take_drop h k xs.length
 rw [List.take_of_length_le (by simp)] at h1
 rw [h1, List.take_of_length_le (by rw [List.length_drop, flat_length h]; omega)]
theorem WRel.reNone (h : WRel Γ G ob nm w) {n : Nat} {c c' : BC} (hn : nm[n]? = some (some (.live c))) (hT : G.T n = none) (hl : c'.len = 0) : WRel Γ G ob (nm.set n (some (.live c'))) w := by
 have hlt : n < nm.length := append_room.get_lt'' hn
 have hself : (nm.set n (some (Bf.live c')))[n]? = some (some (.live c')) := by rw [List.getElem?_set_self hlt]
 have hoth : ∀ {m : Nat}, m ≠ n → (nm.set n (some (Bf.live c')))[m]? = nm[m]? := fun hm => List.getElem?_set_ne (Ne.symm hm)
 exact { h with
  hnm := fun m d x h1 h2 => by
   by_cases e : m = n
   · subst e; rw [hT] at h2; cases h2
   · rw [hoth e] at h1; exact h.hnm m d x h1 h2
  hno := fun m d h1 h2 => by
   by_cases e : m = n
   · subst e
     rw [hself] at h1
     obtain rfl : c' = d := by simpa using h1
     exact hl
   · rw [hoth e] at h1; exact h.hno m d h1 h2
  nmd := fun m m' d d' x x' hne h1 h2 h3 h4 => by
   by_cases e : m = n
   · subst e; rw [hT] at h3; cases h3
   · by_cases e' : m' = n
     · subst e'; rw [hT] at h4; cases h4
     · rw [hoth e] at h1; rw [hoth e'] at h2; exact h.nmd m m' d d' x x' hne h1 h2 h3 h4
  tabs := fun m h1 => by
   by_cases e : m = n
   · subst e; rw [hself] at h1; cases h1
   · rw [hoth e] at h1; exact h.tabs m h1
  tlt := fun m x h1 => by simpa using h.tlt m x h1 }
structure Put (z off k : Nat) (c : BC) (ys : List V) (c' : BC) : Prop where
 sz : c'.sz = z
 len : c'.len = c.len
 el : ∀ v ∈ c'.els, v.cells.length = z
 imp : ∀ (G : Gh) (cvs : List Value), Rels G (flat (c.els.take off ++ ys ++ c.els.drop (off + k))) cvs → Rels G (flat c'.els) cvs
 u8 : c'.u8E = none
theorem WRel.put (h : WRel Γ G ob nm w) {n : Nat} {c c' : BC} {x : Tail} (hn : nm[n]? = some (some (.live c))) (hT : G.T n = some x) {off k : Nat} {ys : List V} {vs : List Value} (hp : Put c.sz off k c ys c')
 (hy : ys.length = k) (hyl : ∀ v ∈ ys, v.cells.length = c.sz) (hr : Rels G (flat ys) vs) (h1 : ∀ v ∈ vs, v.oneCell' = true) (hl : off + k ≤ x.len) :
 ∃ w', (storeCells ⟨x.b, x.lo + off * x.sz, none⟩ vs).run P w = .ok () w' ∧ WRel Γ G ob (nm.set n (some (.live c'))) w' := by
 have B := h.hnm n c x hn hT
 obtain ⟨cvs, E, fr, e1, e2, e3, e4⟩ := B.row
 have hsz := B.sz
 have hBl := B.len
 have hcap := B.cap
 have hel : ∀ v ∈ c.els, v.cells.length = x.sz := fun v hv => (B.el v hv).trans hsz.symm
 have hyl' : ∀ v ∈ ys, v.cells.length = x.sz := fun v hv => (hyl v hv).trans hsz.symm
 have hflen := flat_length hel
 have hels : c.els.length = x.len := by rw [BC.els_len]; exact hBl
 have hfy : (flat ys).length = k * x.sz := by rw [flat_length hyl', hy]
 have hvl : vs.length = k * x.sz := hr.1.trans hfy
 have hle : off * x.sz + k * x.sz ≤ x.len * x.sz := by rw [← Nat.add_mul]; exact Nat.mul_le_mul_right _ hl
 have hle2 : x.len * x.sz ≤ x.cap * x.sz := Nat.mul_le_mul_right _ hcap
 obtain ⟨w', g1, g2⟩ := run_storeCells_row (P := P) (b := x.b) (off := x.lo + off * x.sz) vs 0 cvs w e1 e2 (by omega) h1
 refine ⟨w', g1, ?_⟩
 simp only [Nat.add_zero] at g2
 generalize hq : x.lo + off * x.sz = q at g2
 have hrow : (cvs.toList.take q ++ vs ++ cvs.toList.drop (q + vs.length)).toArray.size = cvs.size := by
  simp only [List.size_toArray, List.length_append, List.length_take, List.length_drop, Array.length_toList]
  omega
 have hel' : ∀ v ∈ c'.els, v.cells.length = x.sz := fun v hv => (hp.el v hv).trans hsz.symm
 have hL : (flat c'.els).length = (flat c.els).length := by
  rw [flat_length hel', flat_length hel, BC.els_len, BC.els_len, hp.len]
 refine h.setBuf hn hT e1 hrow g2 (fun o z hz => ?_) ⟨B.old, ⟨_, E, fr, g2.row, by rw [hrow]; exact e2, by rw [hrow]; exact e3, ?_⟩, hsz.trans hp.sz.symm, fun v hv => (hp.el v hv).trans hp.sz.symm, hp.len.trans hBl, hcap, B.free, B.obj, fun F hF => by rw [hp.u8] at hF; cases hF⟩
 · have hz0 := h.m _ _ _ hz
   rw [cell_row e1] at hz0
   have hos : o < cvs.size := by
    rcases Nat.lt_or_ge o cvs.size with h' | h'
    · exact h'
    · rw [Array.getElem?_eq_none h'] at hz0; cases hz0
   have hout : o < q ∨ q + vs.length ≤ o := by
    rcases Nat.lt_or_ge o q with h' | h'
    · exact .inl h'
    · rcases Nat.lt_or_ge o (q + vs.length) with h' | h'
      · rw [B.free o (by omega) (by omega)] at hz; cases hz
      · exact .inr h'
   have hz1 : cvs.toList[o]? = some z := by simpa using hz0
   simp only [List.getElem?_toArray, List.append_assoc]
   rcases hout with ho' | ho'
   · rw [List.getElem?_append_left (by simp; omega), List.getElem?_take, if_pos ho']
     exact hz1
   · rw [List.getElem?_append_right (by simp; omega), List.getElem?_append_right (by simp; omega), List.getElem?_drop]
     have : q + vs.length + (o - (cvs.toList.take q).length - vs.length) = o := by simp; omega
     rw [this]
     exact hz1
 · rw [hL, ← hq]
   have hN : off * x.sz + vs.length ≤ (flat c.els).length := by rw [hflen, hels, hvl]; exact hle
   have hN2 : x.lo + (flat c.els).length ≤ cvs.toList.length := by rw [hflen, hels, Array.length_toList]; omega
   rw [put_lists rfl hN hN2, hvl]
   refine hp.imp G _ ?_
   rw [flat_append, flat_append, flat_take hel, flat_drop hel, Nat.add_mul]
   exact ((e4.take _).append hr).append (e4.drop _)
theorem VRel.bs_inv {sy : Bool} {n off len : Nat} {cv : Value} (h : VRel G (.bs sy n off len) cv) : (len = 0 ∧ (cv = .slice none 0 0 ∨ ∃ a, cv = .slice (some a) 0 0)) ∨ ∃ x, G.T n = some x ∧ off + len ≤ x.len ∧ cv = .slice (some ⟨x.b, x.lo + off * x.sz, none⟩) len (x.cap - off) := by
 cases h with
 | bs0 => exact .inl ⟨rfl, .inl rfl⟩
 | bs1 _ _ _ a => exact .inl ⟨rfl, .inr ⟨a, rfl⟩⟩
 | bs h hl => exact .inr ⟨_, h, hl, rfl⟩
theorem WRel.same (P : Program) (h : WRel Γ G ob nm w) {n : Nat} {c c' : BC} (hn : nm[n]? = some (some (.live c))) {off : Nat} (hp : Put c.sz off 0 c [] c') : WRel Γ G ob (nm.set n (some (.live c'))) w := by
 cases hT : G.T n with
 | none => exact h.reNone hn hT (hp.len.trans (h.hno n c hn hT))
 | some x =>
  have B := h.hnm n c x hn hT
  have hz : Put c.sz 0 0 c [] c' := ⟨hp.sz, hp.len, hp.el, fun G cvs hr => hp.imp G cvs (by simpa [← flat_append, List.take_append_drop] using hr), hp.u8⟩
  obtain ⟨w', g1, g2⟩ := h.put (P := P) hn hT hz (vs := []) rfl (fun v hv => by cases hv) ⟨rfl, fun j v cv h1 h2 => by simp [flat] at h1⟩ (fun v hv => by cases hv) (Nat.zero_le _)
  have : w' = w := by
   simp only [storeCells, Sem.run_pure, Result.ok.injEq] at g1
   exact g1.2.symm
  rw [← this]
  exact this ▸ g2
theorem BC.join_rels {a b c : BC} (h : a.join b = some c) {size : Nat} (ha : a.sz = size) (hb : b.sz = size) (hbl : ∀ v ∈ b.els, v.cells.length = size) : c.sz = size ∧ ∃ ys, c.els = a.els ++ ys ∧ ys.length = b.els.length ∧ (∀ v ∈ ys, v.cells.length = size) ∧ ∀ (G : Gh) (cvs : List Value), Rels G (flat b.els) cvs → Rels G (flat ys) cvs := by
 cases a with
 | arr ty l =>
  cases b with
  | arr ty' l' =>
   simp only [BC.join] at h
   split at h
   · rename_i l2 hl
     cases h
     refine ⟨ha, l'.map ty'.val, ?_, rfl, hbl, fun _ _ h => h⟩
     simp only [BC.els, List.map_append, listAs_eq hl]
   · cases h
  | cs sz ys =>
   simp only [BC.join] at h
   split at h
   · rename_i l2 hl
     cases h
     obtain ⟨g1, g2, g3⟩ := optMap_ok (Ty.ofC_ok ty) hl
     refine ⟨ha, l2.map ty.val, by simp [BC.els], by simp only [BC.els, List.length_map]; exact g1, fun v hv => (map_size ty l2 v hv).trans ha, fun G cvs hr => g3 G cvs hr⟩
   · cases h
  | u8 sy E l => cases h
 | cs sz xs =>
  cases b with
  | cs sz' ys => simp only [BC.join] at h; cases h; exact ⟨ha, ys, rfl, rfl, hbl, fun _ _ h => h⟩
  | arr ty l =>
   cases xs with
   | nil => simp only [BC.join] at h; cases h; exact ⟨hb, l.map ty.val, rfl, rfl, hbl, fun _ _ h => h⟩
   | cons x xs => simp only [BC.join] at h; cases h
  | u8 sy E l => cases h
 | u8 sy E l => cases h
def BC.splice (c : BC) (off k : Nat) (y : BC) : Option BC :=
 match (c.part 0 off).join (y.part 0 k) with
 | some d => d.join (c.part (off + k) (c.len - (off + k)))
 | none => none
theorem BC.splice_ok {c y c' : BC} {off k : Nat} (h : c.splice off k y = some c') (hy : y.sz = c.sz) (hcl : ∀ v ∈ c.els, v.cells.length = c.sz) (hyl : ∀ v ∈ y.els, v.cells.length = c.sz) (hk : k ≤ y.len) (ho : k = 0 ∨ off + k ≤ c.len) : Put c.sz off k c (y.els.take k) c' := by
 unfold BC.splice at h
 split at h
 · rename_i d hd
   obtain ⟨a1, a2⟩ := BC.part_els c 0 off
   obtain ⟨b1, b2⟩ := BC.part_els y 0 k
   obtain ⟨d1, d2⟩ := BC.part_els c (off + k) (c.len - (off + k))
   rw [List.drop_zero] at a1 b1
   have hd1 : (c.els.drop (off + k)).take (c.len - (off + k)) = c.els.drop (off + k) := List.take_of_length_le (by simp [BC.els_len])
   rw [hd1] at d1
   obtain ⟨e1, ys, e2, e3, e4, e5⟩ := BC.join_rels hd a2 (b2.trans hy) (by rw [b1]; exact fun v hv => hyl v (List.mem_of_mem_take hv))
   obtain ⟨f1, zs, f2, f3, f4, f5⟩ := BC.join_rels h e1 d2 (by rw [d1]; exact fun v hv => hcl v (List.mem_of_mem_drop hv))
   rw [a1] at e2
   rw [b1] at e3 e5
   rw [d1] at f3 f5
   refine ⟨f1, ?_, ?_, ?_, BC.join_u8 h⟩
   · rw [← BC.els_len, f2, e2]
     have hyy := BC.els_len y
     have hcc := BC.els_len c
     simp only [List.length_append, e3, f3, List.length_take, List.length_drop, hyy, hcc]
     omega
   · rw [f2, e2]
     intro v hv
     rcases List.mem_append.1 hv with hv | hv
     · rcases List.mem_append.1 hv with hv | hv
       · exact hcl v (List.mem_of_mem_take hv)
       · exact e4 v hv
     · exact f4 v hv
   · intro G cvs hr
     rw [f2, e2]
     rw [flat_append, flat_append] at hr ⊢
     have hs1 := hr.split
     have hs2 := hs1.1.split
     have hl1 : (flat (c.els.take off)).length ≤ cvs.length := by have := hr.1; simp at this; omega
     have := ((hs2.1.append (e5 G _ hs2.2)).append (f5 G _ hs1.2))
     simpa only [List.take_append_drop] using this
 · cases h
def copX (P : Program) (ts : Array TypeId) (x y : V) (nm : Nm) : Option Out :=
 match ts.toList with
 | [t, tx] =>
  match P.underlying t with
  | some (.slice e) =>
   match tySize P e with
   | some sz =>
    match ysE P sz tx y nm with
    | some (b, rn) =>
     match x with
     | .lst _ [] => some ⟨true, false, .i .i64 0, { rn := rn }⟩
     | .bs sy n off len =>
      match nm[n]? with
      | some (some (.live c)) =>
       if c.sz = sz then
        match c.splice off (Nat.min b.len len) b with
        | some c' => some ⟨true, false, mkI (sy || b.isArr) .i64 (Nat.min b.len len : Nat), { rn := n :: rn, wn := [(n, .live c')] }⟩
        | none => none
       else none
      | _ => none
     | _ => none
    | none => none
   | none => none
  | _ => none
 | _ => none
theorem SemV.copX {o : Oper} {cl : Call} {x y : Operand} {out : Out} (ho : o.op = .call cl) (hcal : cl.callee = .builtin .copy) (ha : cl.args.toList = [x, y]) (h : copX P cl.argTypes (σ.eval Γ x) (σ.eval Γ y) σ.nm = some out) :
 SemV P Γ o σ out.v (out.eff.ob σ.ob) (out.eff.nm σ.nm) := by
 unfold Go.Proofs.Ytofbchcclkejgaa.copX at h
 split at h
 · rename_i t tx hts
   have hts : cl.argTypes = #[t, tx] := by apply Array.ext'; simpa using hts
   have hca : ∀ a : Act, cl.args.map a.eval = #[a.eval x, a.eval y] := fun a => by apply Array.ext'; simp [ha]
   split at h
   · rename_i e hu
     split at h
     · rename_i sz hsz
       split at h
       · rename_i b rn hys
         obtain ⟨hbz, hY⟩ := ysE_ok hys
         split at h
         · rename_i tg hx
           cases h
           refine SemV.of_val fun G a w hr => ?_
           have hxx := hr.eval x
           rw [hx] at hxx
           obtain ⟨p, q, he⟩ := hxx.slice_form
           obtain ⟨⟨news, hS, hR⟩, hyl⟩ := hY G a w hr
           have hpre := src_pre hS (Nat.zero_le _)
           have hlen := hS.len w
           refine ⟨.int .i64 (0 : Nat), w, G, ?_, .refl G, .i _ _, hr.wr⟩
           cases p <;> simp [execOp, ho, resolve, hcal, invoke, Go.builtin, hca, Builtin.copy_, hts, he, run_underlying hu, hlen, run_sizeOf hsz, hpre, goInt, storeCells]
         · rename_i sy n off len hx
           split at h
           · rename_i c hn
             split at h
             · rename_i hcz
               split at h
               · rename_i c' hsp
                 cases h
                 refine SemV.of_val fun G a w hr => ?_
                 show ∃ cv w' G', _ ∧ _ ∧ _ ∧ WRel Γ G' σ.ob (σ.nm.set n (some (.live c'))) w'
                 obtain ⟨⟨news, hS, hR⟩, hyl⟩ := hY G a w hr
                 have hxx := hr.eval x
                 rw [hx] at hxx
                 have hkb : Nat.min b.len len ≤ b.els.length := by rw [BC.els_len]; exact Nat.min_le_left _ _
                 have hlen := hS.len w
                 have hpre := src_pre hS hkb
                 have hel : ∀ v ∈ c.els, v.cells.length = c.sz := by
                  cases hT : G.T n with
                  | some x' => exact (hr.wr.hnm n c x' hn hT).el
                  | none =>
                   have h0 := hr.wr.hno n c hn hT
                   have : c.els = [] := List.eq_nil_of_length_eq_zero (by rw [BC.els_len]; exact h0)
                   rw [this]; exact fun v hv => by cases hv
                 have hbl : b.els.length = b.len := BC.els_len b
                 rcases hxx.bs_inv with ⟨rfl, hcv⟩ | ⟨x', hT, hol, hcv⟩
                 · have hm : Nat.min b.len 0 = 0 := Nat.min_zero _
                   rw [hm] at hsp hpre ⊢
                   have hput := BC.splice_ok hsp (hbz.trans hcz.symm) hel (fun v hv => (hyl v hv).trans hcz.symm) (Nat.zero_le _) (.inl rfl)
                   refine ⟨.int .i64 (0 : Nat), w, G, ?_, .refl G, mkI_rel _ _ _ _, hr.wr.same P hn hput⟩
                   rcases hcv with hcv | ⟨b', hcv⟩ <;>
                    simp [execOp, ho, resolve, hcal, invoke, Go.builtin, hca, Builtin.copy_, hts, hcv, run_underlying hu, hlen, run_sizeOf hsz, hpre, hm, goInt, storeCells, hbl]
                 · have hBl := (hr.wr.hnm n c x' hn hT).len
                   have hm2 : Nat.min b.len len ≤ len := Nat.min_le_right _ _
                   have hput := BC.splice_ok hsp (hbz.trans hcz.symm) hel (fun v hv => (hyl v hv).trans hcz.symm) (Nat.min_le_left _ _) (.inr (by omega))
                   have hR' : Rels G (flat (b.els.take (Nat.min b.len len))) (news.take (Nat.min b.len len * sz)) := by
                    rw [flat_take hyl]; exact hR.take _
                   obtain ⟨w', g1, g2⟩ := hr.wr.put (P := P) hn hT hput (by rw [List.length_take]; exact Nat.min_eq_left hkb) (fun v hv => (hyl v (List.mem_of_mem_take hv)).trans hcz.symm) hR' (fun v hv => hS.one v (List.mem_of_mem_take hv)) (by omega)
                   refine ⟨.int .i64 (Nat.min b.len len : Nat), w', G, ?_, .refl G, mkI_rel _ _ _ _, g2⟩
                   rw [← hbl] at g1 hpre ⊢
                   simp [execOp, ho, resolve, hcal, invoke, Go.builtin, hca, Builtin.copy_, hts, hcv, run_underlying hu, hlen, run_sizeOf hsz, hpre, goInt, g1]
               · cases h
             · cases h
           · cases h
         · cases h
       · cases h
     · cases h
   · cases h
 · cases h
def zeroBC (c : BC) (u : V) (sz len : Nat) : Option BC :=
 match c with
 | .cs _ _ => some (.cs sz (List.replicate len u))
 | .arr ty _ => match ty.ofV u with | some d => some (.arr ty (List.replicate len d)) | none => none
 | .u8 _ _ _ => none
theorem zeroBC_ok {c y : BC} {u : V} {sz len : Nat} (h : zeroBC c u sz len = some y) (hc : c.sz = sz) (hu : u.cells.length = sz) (h1 : oneB [u] = true) : y.sz = sz ∧ y.len = len ∧ (∀ v ∈ y.els, v.cells.length = sz) ∧ (∀ v ∈ flat y.els, v.one = true) ∧ ∀ (G : Gh) (z : Value), Rels G u.cells z.cells.toList → VRel G u z →
 Rels G (flat y.els) ((Array.range (len * sz)).map (z.cells[· % z.cells.size]!)).toList := by
 unfold zeroBC at h
 split at h
 · cases h
   refine ⟨rfl, by simp [BC.len], fun v hv => by rw [List.eq_of_mem_replicate hv]; exact hu, fun v hv => ?_, fun G z hr _ => zeros_rel hr hu len⟩
   obtain ⟨x, hx, hv⟩ := List.mem_flatMap.1 hv
   rw [List.eq_of_mem_replicate hx] at hv
   exact oneB_flat h1 v (by simpa [flat] using hv)
 · rename_i ty l
   split at h
   · rename_i d hd
     cases h
     refine ⟨hc, by simp [BC.len], fun v hv => (map_size ty _ v hv).trans hc, map_one ty _, fun G z hr hv => ?_⟩
     have h2 := Ty.ofV_ok hd hv
     have h3 : (ty.val d).cells.length = sz := (map_size ty [d] _ (by simp)).trans hc
     have := zeros_rel (h2.cells (by cases ty <;> simp [Ty.val])) h3 len
     simpa [BC.els] using this
   · cases h
 · cases h
def clrX (P : Program) (ts : Array TypeId) (x : V) (nm : Nm) : Option Out :=
 match ts.toList with
 | [t] =>
  match P.underlying t with
  | some (.slice e) =>
   match P.info? e with
   | some i =>
    match i.zero with
    | some z =>
     if z.cells.size = i.size ∧ (ofVal z).notAny = true ∧ oneB [ofVal z] = true then
      match x with
      | .lst _ [] => some ⟨true, false, .any, .pure⟩
      | .bs sy n off len =>
       match nm[n]? with
       | some (some (.live c)) =>
        if c.sz = i.size then
         match zeroBC c (ofVal z) i.size len with
         | some y => match c.splice off len y with | some c' => some ⟨true, false, .any, { rn := [n], wn := [(n, .live c')] }⟩ | none => none
         | none => none
        else none
       | _ => none
      | _ => none
     else none
    | none => none
   | none => none
  | _ => none
 | _ => none
theorem SemV.clrX {o : Oper} {cl : Call} {x : Operand} {out : Out} (ho : o.op = .call cl) (hcal : cl.callee = .builtin .clear) (ha : cl.args.toList = [x]) (h : clrX P cl.argTypes (σ.eval Γ x) σ.nm = some out) :
 SemV P Γ o σ out.v (out.eff.ob σ.ob) (out.eff.nm σ.nm) := by
 unfold Go.Proofs.Ytofbchcclkejgaa.clrX at h
 split at h
 · rename_i t hts
   have hts : cl.argTypes = #[t] := by apply Array.ext'; simpa using hts
   have hca : ∀ a : Act, cl.args.map a.eval = #[a.eval x] := fun a => by apply Array.ext'; simp [ha]
   split at h
   · rename_i e hu
     split at h
     · rename_i i hi
       split at h
       · rename_i z hz
         split at h
         · rename_i hzz
           obtain ⟨hzs, hna, hone⟩ := hzz
           split at h
           · rename_i tg hx
             cases h
             refine SemV.of_val fun G a w hr => ?_
             have hxx := hr.eval x
             rw [hx] at hxx
             obtain ⟨p, q, he⟩ := hxx.slice_form
             refine ⟨.tuple #[], w, G, ?_, .refl G, .any _, hr.wr⟩
             cases p <;> simp [execOp, ho, resolve, hcal, invoke, Go.builtin, hca, Builtin.clear_, hts, he, run_underlying hu]
           · rename_i sy n off len hx
             split at h
             · rename_i c hn
               split at h
               · rename_i hcz
                 split at h
                 · rename_i y hy
                   split at h
                   · rename_i c' hsp
                     cases h
                     refine SemV.of_val fun G a w hr => ?_
                     show ∃ cv w' G', _ ∧ _ ∧ _ ∧ WRel Γ G' σ.ob (σ.nm.set n (some (.live c'))) w'
                     have hxx := hr.eval x
                     rw [hx] at hxx
                     have hzr := (ofVal_rel G z).cells (V.notAny_ne hna)
                     have hul : (ofVal z).cells.length = i.size := by have := hzr.1; simp at this; omega
                     obtain ⟨y1, y2, y3, y4, y5⟩ := zeroBC_ok hy hcz hul hone
                     have hR := y5 G z hzr (ofVal_rel G z)
                     have hel : ∀ v ∈ c.els, v.cells.length = c.sz := by
                      cases hT : G.T n with
                      | some x' => exact (hr.wr.hnm n c x' hn hT).el
                      | none =>
                       have h0 := hr.wr.hno n c hn hT
                       have : c.els = [] := List.eq_nil_of_length_eq_zero (by rw [BC.els_len]; exact h0)
                       rw [this]; exact fun v hv => by cases hv
                     have hyy : y.els.take len = y.els := List.take_of_length_le (by rw [BC.els_len, y2]; exact Nat.le_refl _)
                     rcases hxx.bs_inv with ⟨rfl, hcv⟩ | ⟨x', hT, hol, hcv⟩
                     · have hput := BC.splice_ok hsp (y1.trans hcz.symm) hel (fun v hv => (y3 v hv).trans hcz.symm) (Nat.zero_le _) (.inl rfl)
                       refine ⟨.tuple #[], w, G, ?_, .refl G, .any _, hr.wr.same P hn hput⟩
                       rcases hcv with hcv | ⟨b', hcv⟩ <;>
                        simp [execOp, ho, resolve, hcal, invoke, Go.builtin, hca, Builtin.clear_, hts, hcv, run_underlying hu]
                     · have hBl := (hr.wr.hnm n c x' hn hT).len
                       have hput := BC.splice_ok hsp (y1.trans hcz.symm) hel (fun v hv => (y3 v hv).trans hcz.symm) (by omega) (.inr (by omega))
                       rw [hyy] at hput
                       obtain ⟨w', g1, g2⟩ := hr.wr.put (P := P) hn hT hput (by rw [BC.els_len, y2]) (fun v hv => (y3 v hv).trans hcz.symm) hR (one_of_rels hR y4) (by omega)
                       refine ⟨.tuple #[], ?_⟩
                       cases len with
                       | zero =>
                        refine ⟨w, G, ?_, .refl G, .any _, hr.wr.same P hn (by simpa [hyy, show y.els = [] from List.eq_nil_of_length_eq_zero (by rw [BC.els_len, y2])] using hput)⟩
                        simp [execOp, ho, resolve, hcal, invoke, Go.builtin, hca, Builtin.clear_, hts, hcv, run_underlying hu]
                       | succ len =>
                        refine ⟨w', G, ?_, .refl G, .any _, g2⟩
                        rw [← hzs] at g1
                        simp [execOp, ho, resolve, hcal, invoke, Go.builtin, hca, Builtin.clear_, hts, hcv, run_underlying hu, zeroValue, typeInfo, hi, hz, Builtin.zeroCells]
                        simp at g1
                        rw [g1]
                        rfl
                   · cases h
                 · cases h
               · cases h
             · cases h
           · cases h
         · cases h
       · cases h
     · cases h
   · cases h
 · cases h
end
end Go.Proofs.Ytofbchcclkejgaa

/- The evaluator of one operation, put together. -/
set_option linter.unusedVariables false
set_option linter.unusedSimpArgs false
namespace Go.Proofs.Ytofbchcclkejgaa
open Go
section
variable {P : Program} {Γ : Nat → Option V} {G : Gh} {ob : Ob} {nm : Nm} {w : World} {σ : St}
def lenV : V → Option V
 | .lst t xs => some (.i .i64 (xs.length : Nat))
 | .sl _ _ n => some (.i .i64 (n : Nat))
 | .s x => some (.i .i64 (x.size : Nat))
 | .ss x => some (.si .i64 (x.size : Nat))
 | _ => none
def minmax (mx : Bool) (x y : V) : Option V :=
 match x.int?, y.int? with
 | some (k, a, s), some (k', b, s') => some (mkI (s || s') k (if mx then (if b > a then b else a) else (if b < a then b else a)))
 | _, _ => none
def minmaxL (mx : Bool) : V → List V → Option V
 | x, [] => some x
 | x, y :: ys => match minmax mx x y with | some z => minmaxL mx z ys | none => none
def builtinE (P : Program) (b : Builtin) (ts : Array TypeId) (args : List V) : Option V :=
 match b, args with
 | .len, [x] =>
  match ts[0]? with
  | some T =>
   match x with
   | .lst t xs => if isSliceTy P T then lenV x else none
   | .sl _ _ _ => if isSliceTy P T then lenV x else none
   | .s _ => if isStrTy P T then lenV x else none
   | .ss _ => if isStrTy P T then lenV x else none
   | _ => none
  | none => none
 | .max, x :: rest => match x.int? with | some _ => minmaxL true x rest | none => none
 | .min, x :: rest => match x.int? with | some _ => minmaxL false x rest | none => none
 | _, _ => none
theorem minmax_run {mx : Bool} {x y z : V} {cx cy : Value} (h : minmax mx x y = some z) (hx : VRel G x cx) (hy : VRel G y cy) (w : World) :
 ∃ cz, ((if mx then Builtin.max2 else Builtin.min2) cx cy).run P w = .ok cz w ∧ VRel G z cz := by
 unfold minmax at h
 split at h
 · rename_i h1 h2
   have := int?_eq h1 hx; have := int?_eq h2 hy; subst_vars
   cases h
   cases mx
   · exact ⟨_, rfl, mkI_rel _ _ _ _⟩
   · exact ⟨_, rfl, mkI_rel _ _ _ _⟩
 · cases h
theorem minmaxL_run {mx : Bool} : ∀ {ys : List V} {cys : List Value} {x z : V} {cx : Value} (w : World), minmaxL mx x ys = some z → VRel G x cx → Rels G ys cys →
 ∃ cz, (cys.foldlM (m := Sem) (if mx then Builtin.max2 else Builtin.min2) cx).run P w = .ok cz w ∧ VRel G z cz
 | [], cys, x, z, cx, w, h, hx, hr => by
  have : cys = [] := List.eq_nil_of_length_eq_zero (by simpa using hr.1)
  subst this
  simp [minmaxL] at h
  subst h
  exact ⟨cx, by simp, hx⟩
 | y :: ys, cys, x, z, cx, w, h, hx, hr => by
  cases cys with
  | nil => have := hr.1; simp at this
  | cons cy cys =>
   simp only [minmaxL] at h
   split at h
   · rename_i q hq
     obtain ⟨cq, e1, e2⟩ := minmax_run (P := P) hq hx (hr.2 0 y cy rfl rfl) w
     have hr' : Rels G ys cys := by simpa using hr.drop 1
     obtain ⟨cz, e3, e4⟩ := minmaxL_run w h e2 hr'
     exact ⟨cz, by rw [List.foldlM_cons, Sem.run_bind, e1, Result.andThen_ok, e3], e4⟩
   · cases h
theorem args_rel {a : Act} (hr : Rel Γ G σ a w) (l : List Operand) : Rels G (l.map (σ.eval Γ)) (l.map a.eval) := by
 refine ⟨by simp, fun j v cv g1 g2 => ?_⟩
 simp only [List.getElem?_map, Option.map_eq_some_iff] at g1 g2
 obtain ⟨p, hp, rfl⟩ := g1
 obtain ⟨q, hq, rfl⟩ := g2
 rw [hp] at hq
 cases hq
 exact hr.eval p
theorem SemV.builtin {o : Oper} {c : Call} {b : Builtin} {v : V} (ho : o.op = .call c) (hc : c.callee = .builtin b) (hv : builtinE P b c.argTypes (c.args.toList.map (σ.eval Γ)) = some v) : SemV P Γ o σ v σ.ob σ.nm :=
 SemV.of_pure fun G a w hr => by
  have hargs := args_rel hr c.args.toList
  generalize hvs : c.args.toList.map (σ.eval Γ) = vs at hv hargs
  generalize hcs : c.args.toList.map a.eval = cs at hargs
  have hca : c.args.map a.eval = cs.toArray := by apply Array.ext'; simp [← hcs]
  unfold builtinE at hv
  split at hv
  · -- len
    rename_i x
    split at hv
    · rename_i T hT
      obtain ⟨cx, rfl⟩ : ∃ cx, cs = [cx] := by
       match cs, hargs.1 with
       | [c], _ => exact ⟨c, rfl⟩
      have hx : VRel G x cx := hargs.2 0 x cx rfl rfl
      have key : ∀ (n : Nat), (Builtin.len_ c.argTypes o.type #[cx]).run P w = .ok (.int .i64 n) w → ∃ cv, (execOp a.eval o).run P w = .ok (.value cv) w ∧ VRel G (.i .i64 n) cv := fun n hn =>
       ⟨_, by simp [execOp, ho, resolve, hc, invoke, Go.builtin, hca, hn], .i _ _⟩
      have keys : ∀ (n : Nat), (Builtin.len_ c.argTypes o.type #[cx]).run P w = .ok (.int .i64 n) w → ∃ cv, (execOp a.eval o).run P w = .ok (.value cv) w ∧ VRel G (.si .i64 n) cv := fun n hn =>
       ⟨_, by simp [execOp, ho, resolve, hc, invoke, Go.builtin, hca, hn], .si _ _⟩
      split at hv
      · rename_i t xs
        split at hv
        · rename_i hs
          simp [lenV] at hv
          subst hv
          unfold isSliceTy at hs
          split at hs
          · rename_i e hu
            obtain ⟨p, q, rfl⟩ := hx.slice_form
            exact key _ (by simp [Builtin.len_, hT, run_underlying hu, goInt])
          · cases hs
        · cases hv
      · rename_i o' off n
        split at hv
        · rename_i hs
          simp [lenV] at hv
          subst hv
          unfold isSliceTy at hs
          split at hs
          · rename_i e hu
            cases hx
            exact key _ (by simp [Builtin.len_, hT, run_underlying hu, goInt])
          · cases hs
        · cases hv
      · rename_i s
        split at hv
        · rename_i hs
          simp [lenV] at hv
          subst hv
          unfold isStrTy at hs
          split at hs
          · rename_i hu
            cases hx
            exact key _ (by simp [Builtin.len_, hT, run_underlying hu, goInt])
          · cases hs
        · cases hv
      · rename_i s
        split at hv
        · rename_i hs
          simp [lenV] at hv
          subst hv
          unfold isStrTy at hs
          split at hs
          · rename_i hu
            cases hx
            exact keys _ (by simp [Builtin.len_, hT, run_underlying hu, goInt])
          · cases hs
        · cases hv
      · cases hv
    · cases hv
  · rename_i x rest
    split at hv
    · obtain ⟨cx, crest, rfl⟩ : ∃ cx crest, cs = cx :: crest := by
       match cs, hargs.1 with
       | c :: r, _ => exact ⟨c, r, rfl⟩
      have hx : VRel G x cx := hargs.2 0 x cx rfl rfl
      obtain ⟨cz, e1, e2⟩ := minmaxL_run (P := P) (mx := true) w hv hx (by simpa using hargs.drop 1)
      exact ⟨cz, by simp only [if_true] at e1; simp [execOp, ho, resolve, hc, invoke, Go.builtin, hca, Builtin.max_, e1], e2⟩
    · cases hv
  · rename_i x rest
    split at hv
    · obtain ⟨cx, crest, rfl⟩ : ∃ cx crest, cs = cx :: crest := by
       match cs, hargs.1 with
       | c :: r, _ => exact ⟨c, r, rfl⟩
      have hx : VRel G x cx := hargs.2 0 x cx rfl rfl
      obtain ⟨cz, e1, e2⟩ := minmaxL_run (P := P) (mx := false) w hv hx (by simpa using hargs.drop 1)
      exact ⟨cz, by simp only [Bool.false_eq_true, if_false] at e1; simp [execOp, ho, resolve, hc, invoke, Go.builtin, hca, Builtin.min_, e1], e2⟩
    · cases hv
  · cases hv
def allocs (o : Oper) : Bool := match o.op with | .alloc _ | .box _ _ => true | .makeSlice _ _ _ => true | .call c => (match c.callee with | .builtin .append => true | _ => false) | _ => false
abbrev CallF := FuncId → List V → Ob → Nm → Option Out
def evE0 (P : Program) (cf : CallF) (slot : Nat) (o : Oper) (e : Operand → V) (ob : Ob) (nm : Nm) : Option Out :=
 match o.op with
 | .move x => outP (e x)
 | .assign x => outP (e x)
 | .pick c x y =>
  match (e c).bool? with
  | some (t, s) => if s then outO (mergeV t (e x) (e y)) else outP (if t then e x else e y)
  | none => none
 | .alloc T =>
  match tyZero P T with
  | some z => if z.notAny then some ⟨true, false, newP P T z.cells.length slot, .mkO slot (newC P T z.cells)⟩ else none
  | none => none
 | .box T x => if (e x).notAny then some ⟨true, false, .ptr slot 0, .mkO slot (e x).cells⟩ else none
 | .build T ps =>
  match tyZero P T with
  | some z =>
   if z.notAny then
    match tyPlaces P T with
    | some pl => match fillV (pl[·]?) z.cells (ps.toList.map fun (i, x) => (i, e x)) with | some cs => outP (.agg cs) | none => none
    | none =>
     match tyElem P T with
     | some (some n, el) =>
      match tySize P el with
      | some sz => match fillV (fun i => some (i * sz, sz)) z.cells (ps.toList.map fun (i, x) => (i, e x)) with | some cs => outP (.agg cs) | none => none
      | none => none
     | _ => none
   else none
  | none => none
 | .buildSlice T len ps =>
  match tyElem P T with
  | some (none, el) =>
   match tySize P el, tyZero P el with
   | some sz, some z =>
    if z.notAny && decide (z.cells.length = sz) && decide (len * sz ≤ 2 ^ 24) then
     match fillE sz (List.replicate len z) (ps.toList.map fun (i, x) => (i, e x)) with | some xs => outP (.lst .full xs) | none => none
    else none
   | _, _ => none
  | _ => none
 | .load T x =>
  match tyAgg P T, tySize P T with
  | some ag, some sz =>
   match e x with
   | .ptr o off => match loadV ag sz ob (.ptr o off) with | some v => some ⟨true, false, v, .rd o⟩ | none => none
   | .pel xs k off => outO (loadV ag sz [] (.pel xs k off))
   | _ => none
  | _, _ => none
 | .store T x y =>
  match tySize P T with
  | some sz =>
   match e x with
   | .ptr o off =>
    match ob[o]? with
    | some (some cs) => if (e y).allOne ∧ (e y).cells.length = sz ∧ off + sz ≤ cs.length then some ⟨true, false, .tup [], .wr o (cs.take off ++ (e y).cells ++ cs.drop (off + sz))⟩ else none
    | _ => none
   | _ => none
  | none => none
 | .nilCheck x =>
  match e x with
  | .ptr o off => outP (.ptr o off)
  | .tp E n o => outP (.tp E n o)
  | .pel xs k off => outP (.pel xs k off)
  | .bp k r off => outP (.bp k r off)
  | .fn (.func f) p q => outP (.fn (.func f) p q)
  | _ => none
 | .binOp op T x y _ =>
  match binX op (e x) (e y) with
  | some (c, s, v) => some ⟨c, s, v, .pure⟩
  | none =>
   if (op == .eql || op == .neq) && (e x).plainEq && (e y).plainEq && eqGuardOk P T (constOp x || constOp y) (e x) (e y) then
    match eqV P 12 T (e x) (e y) with
    | some (r, z) => outP (mkB z (if op == .eql then r else !r))
    | none => none
   else none
 | .unOp op _ x => outO (unV op (e x))
 | .makeInterface T x =>
  match P.underlying T with
  | some (.interface _) => none
  | some _ => outP (.ifc T (e x))
  | none => none
 | .makeFunc fn a c => outP (.fn fn (a.toList.map e) (c.toList.map e))
 | .fieldAddr T x f =>
  match fieldOff P T f with
  | some (d, fl) => match tySize P fl.type with | some sz => if sz ≠ 0 then outO ((e x).shift d) else none | none => none
  | none => none
 | .field T x f =>
  match tyField P T f with
  | some fl =>
   match tyAgg P fl.type, tySize P fl.type, e x with
   | some ag, some sz, .agg cs => outO (getV ag sz cs fl.offset)
   | _, _, _ => none
  | none => none
 | .indexAddr T x y =>
  match tyElem P T with
  | some (n, el) =>
   match tySize P el, (e y).int? with
   | some sz, some (k, i, s) => match idxX sz n (e x) i s with | some (c, s', q) => some ⟨c, s', q, .pure⟩ | none => none
   | _, _ => none
  | none => none
 | .index T x y =>
  match tyElem P T with
  | some (some n, el) =>
   match tyAgg P el, tySize P el, (e y).int?, e x with
   | some ag, some sz, some (k, i, false), .agg cs => if 0 ≤ i ∧ i < (n : Int) then outO (getV ag sz cs (i.toNat * sz)) else none
   | _, _, _, _ => none
  | _ => none
 | .extract x i => match e x with | .tup vs => outO vs[i]? | _ => none
 | .call c =>
  match c.callee with
  | .value f => match e f with | .fn (.func g) first cap => (match Nat.beq g yid with | true => none | false => cf g (first ++ c.args.toList.map e ++ cap) ob nm) | .yl tm ps as bd => cf yid (.yl tm ps as bd :: c.args.toList.map e) ob nm | _ => none
  | .builtin b => outO (builtinE P b c.argTypes (c.args.toList.map e))
  | .invoke _ _ => none
 | _ => none
def Named (P : Program) (f : FuncId) : Prop := (f = yid ∧ P.funcs[f]? = none) ∨ (f ≠ yid ∧ ∃ fn, P.funcs[f]? = some fn ∧ fn.body.isSome = true ∧ (fn.name == "runtime.NumGoroutine") = false)
def CallsOk (P : Program) (Γ : Nat → Option V) (cf : CallF) : Prop :=
 ∀ f args ob nm out, cf f args ob nm = some out → out.chk = true → SemF P Γ f args ob nm out.v (out.eff.ob ob) (out.eff.nm nm) ∧ Named P f
theorem beq_ne {f : FuncId} (h : Nat.beq f yid = false) : f ≠ yid := by
 intro e
 rw [e, Nat.beq_refl] at h
 cases h
theorem SemV.yield {o : Oper} {c : Call} {x : Operand} {tm : List V} {ps : Array Tmp} {as bd : Code} {res : V} {ob' : Ob} {nm' : Nm} (ho : o.op = .call c) (hc : c.callee = .value x) (hx : σ.eval Γ x = .yl tm ps as bd)
 (hf : P.funcs[yid]? = none) (h : SemF P Γ yid (.yl tm ps as bd :: c.args.toList.map (σ.eval Γ)) σ.ob σ.nm res ob' nm') : SemV P Γ o σ res ob' nm' := by
 intro ro G a w K Q hr hk
 have hfx := hr.eval x
 have r3 : Rels G (c.args.toList.map (σ.eval Γ)) (c.args.toList.map a.eval) := by
  refine ⟨by simp, fun j v cv g1 g2 => ?_⟩
  simp only [List.getElem?_map, Option.map_eq_some_iff] at g1 g2
  obtain ⟨p, hp, rfl⟩ := g1
  obtain ⟨q, hq, rfl⟩ := g2
  rw [hp] at hq
  cases hq
  exact hr.eval p
 have hcall := h G w (a.eval x :: c.args.toList.map a.eval) hr.wr (by rw [← hx]; exact Rels.cons hfx r3)
 obtain ⟨l, rest, e, fn, tmps, as', bd', h1, h2⟩ := (callsX_yield hf).1 hcall
 simp only [List.toList_toArray, List.cons.injEq] at e
 obtain ⟨e1, rfl⟩ := e
 refine ⟨fun _ _ => trivial, ?_⟩
 have e3 : (List.map a.eval c.args.toList).toArray = c.args.map a.eval := by apply Array.ext'; simp
 rw [e3] at h1
 have hrun : (execOp a.eval o).run P w = .ok (.round l fn tmps as' bd') w := by
  simp [execOp, ho, resolve, hc, e1, Deferred.ofValue, invoke, h1]
 rw [semAt_of hrun (fun _ h => by cases h)]
 refine ⟨depthR, RoundIn.mono (F := Fence.wide) (n := 0) h2 ?_⟩
 rintro e w' ⟨cv, G1, rfl, hle, hv, hw1⟩
 exact hk G1 _ w' hle hv hw1
theorem outO_some {x : Option V} {out : Out} (h : outO x = some out) : ∃ v, x = some v ∧ out = ⟨true, false, v, .pure⟩ := by
 cases x with
 | none => cases h
 | some v => exact ⟨v, rfl, by cases h; rfl⟩
theorem evE0_sound {cf : CallF} (hcf : CallsOk P Γ cf) {slot : Nat} {o : Oper} {out : Out} (h : evE0 P cf slot o (σ.eval Γ) σ.ob σ.nm = some out) (hchk : out.chk = true) (hs : allocs o = true → σ.ob[slot]? = some none ∧ σ.nm[slot]? = some none) :
 SemV P Γ o σ out.v (out.eff.ob σ.ob) (out.eff.nm σ.nm) := by
 unfold evE0 at h
 split at h
 · rename_i x ho; cases h; exact SemV.move ho
 · rename_i x ho; cases h; exact SemV.assign ho
 · rename_i c x y ho
   split at h
   · rename_i t s hc
     split at h
     · obtain ⟨v, hv, rfl⟩ := outO_some h
       refine SemV.of_pure fun G a w hr => ?_
       have hb := bool?_eq hc (hr.eval c)
       refine ⟨if t then a.eval x else a.eval y, by simp only [execOp, ho, hb, asBool]; cases t <;> rfl, mergeV_ok _ _ _ _ hv G _ ?_⟩
       cases t
       · exact hr.eval y
       · exact hr.eval x
     · cases h
       refine SemV.of_pure fun G a w hr => ?_
       have hb := bool?_eq hc (hr.eval c)
       refine ⟨if t then a.eval x else a.eval y, by simp only [execOp, ho, hb, asBool]; cases t <;> rfl, ?_⟩
       cases t
       · exact hr.eval y
       · exact hr.eval x
   · cases h
 · rename_i T ho
   split at h
   · rename_i z hz
     split at h
     · rename_i hn
       cases h
       exact SemV.allocTp ho hz hn (hs (by simp [allocs, ho])).1
     · cases h
   · cases h
 · rename_i T x ho
   split at h
   · rename_i hn
     cases h
     exact SemV.boxAt ho hn (hs (by simp [allocs, ho])).1
   · cases h
 · rename_i T ps ho
   split at h
   · rename_i z hz
     split at h
     · rename_i hn
       split at h
       · rename_i pl hpl
         split at h
         · rename_i cs hcs; cases h; exact SemV.build_struct ho hz hn hpl hcs
         · cases h
       · split at h
         · rename_i n el hel
           split at h
           · rename_i sz hsz
             split at h
             · rename_i cs hcs; cases h; exact SemV.build_array ho hz hn hel hsz hcs
             · cases h
           · cases h
         · cases h
     · cases h
   · cases h
 · rename_i T len ps ho
   split at h
   · rename_i el hel
     split at h
     · rename_i sz z hsz hz
       split at h
       · rename_i hc
         simp only [Bool.and_eq_true, decide_eq_true_eq] at hc
         split at h
         · rename_i xs hxs; cases h; exact SemV.buildSlice ho hel hsz (by omega) hz hc.1.1 hc.1.2 hxs
         · cases h
       · cases h
     · cases h
   · cases h
 · rename_i T x ho
   split at h
   · rename_i ag sz ha hsz
     split at h
     · rename_i o' off hx
       split at h
       · rename_i v hv; cases h; exact SemV.load ho ha hsz (by rw [hx]; exact hv)
       · cases h
     · rename_i xs k off hx
       obtain ⟨v, hv, rfl⟩ := outO_some h
       exact SemV.load ho ha hsz (by rw [hx]; simpa [loadV] using hv)
     · cases h
   · cases h
 · rename_i T x y ho
   split at h
   · rename_i sz hsz
     split at h
     · rename_i o' off hx
       split at h
       · rename_i cs hcs
         split at h
         · rename_i hc
           cases h
           exact SemV.store ho hsz (by rw [hx]; simp only [storeV, hcs]; rw [if_pos hc]; rfl)
         · cases h
       · cases h
     · cases h
   · cases h
 · rename_i x ho
   split at h
   · rename_i o' off hx
     cases h
     have := SemV.nilCheck (P := P) (Γ := Γ) (σ := σ) ho ⟨_, 0, by rw [hx]; rfl⟩
     rw [hx] at this
     exact this
   · rename_i E n o' hx
     cases h
     have := SemV.nilCheck (P := P) (Γ := Γ) (σ := σ) ho ⟨_, 0, by rw [hx]; rfl⟩
     rw [hx] at this
     exact this
   · rename_i xs k off hx
     cases h
     have := SemV.nilCheck (P := P) (Γ := Γ) (σ := σ) ho ⟨_, 0, by rw [hx]; rfl⟩
     rw [hx] at this
     exact this
   · rename_i k r off hx
     cases h
     have := SemV.nilCheck (P := P) (Γ := Γ) (σ := σ) ho ⟨_, 0, by rw [hx]; rfl⟩
     rw [hx] at this
     exact this
   · rename_i f p q hx
     cases h
     have := SemV.nilCheck_fn (P := P) (Γ := Γ) (σ := σ) ho hx
     rw [hx] at this
     exact this
   · cases h
 · rename_i op T x y T' ho
   split at h
   · rename_i c s v hb
     cases h
     have hchk : c = true := hchk
     subst hchk
     exact SemV.binOp ho hb
   · split at h
     · rename_i hc
       simp only [Bool.and_eq_true, Bool.or_eq_true, beq_iff_eq] at hc
       split at h
       · rename_i r z hz
         cases h
         have := SemV.eq ho hc.1.1.1 12 (by omega) hc.1.1.2 hc.1.2 hc.2 hz
         have e : (op == .eql) = decide (op = .eql) := by cases op <;> rfl
         simp only [e, decide_eq_true_eq]
         exact this
       · cases h
     · cases h
 · rename_i op T x ho
   obtain ⟨v, hv, rfl⟩ := outO_some h
   exact SemV.unOp ho hv
 · rename_i T x ho
   split at h
   · cases h
   · rename_i d hne hd
     cases h
     exact SemV.makeInterface ho hd (fun m hm => hne m hm)
   · cases h
 · rename_i fn fs cs ho; cases h; exact SemV.makeFunc ho
 · rename_i T x f ho
   split at h
   · rename_i d fl hf
     split at h
     · rename_i sz hsz
       split at h
       · rename_i hz
         obtain ⟨v, hv, rfl⟩ := outO_some h
         exact SemV.fieldAddr ho hf hsz hz hv
       · cases h
     · cases h
   · cases h
 · rename_i T x f ho
   split at h
   · rename_i fl hf
     split at h
     · rename_i ag sz cs ha hsz hx
       obtain ⟨v, hv, rfl⟩ := outO_some h
       exact SemV.field ho hf ha hsz hx hv
     · cases h
   · cases h
 · rename_i T x y ho
   split at h
   · rename_i n el hel
     split at h
     · rename_i sz k i s hsz hy
       split at h
       · rename_i c s' q hq
         cases h
         have hchk : c = true := hchk
         subst hchk
         exact SemV.indexX ho hel hsz hy hq
       · cases h
     · cases h
   · cases h
 · rename_i T x y ho
   split at h
   · rename_i n el hel
     split at h
     · rename_i ag sz k i cs ha hsz hy hx
       split at h
       · rename_i hi
         obtain ⟨v, hv, rfl⟩ := outO_some h
         refine SemV.index_arr (k := k) ho hel ha hsz hx ?_ hi.1 hi.2 hv
         generalize σ.eval Γ y = vy at hy
         cases vy <;> simp [V.int?] at hy
         obtain ⟨rfl, rfl⟩ := hy
         rfl
       · cases h
     · cases h
   · cases h
 · rename_i x i ho
   split at h
   · rename_i vs hx
     obtain ⟨v, hv, rfl⟩ := outO_some h
     exact SemV.extract ho hx hv
   · cases h
 · rename_i c ho
   split at h
   · rename_i f hcal
     split at h
     · rename_i g first cap hf
       split at h
       · cases h
       · rename_i hne
         obtain ⟨h1, hn⟩ := hcf _ _ _ _ _ h hchk
         rcases hn with ⟨e, _⟩ | ⟨_, fn, h2, h3, h4⟩
         · exact absurd e (beq_ne hne)
         · exact SemV.call ho hcal hf h2 h3 h4 h1
     · rename_i tm ps as bd hf
       obtain ⟨h1, hn⟩ := hcf _ _ _ _ _ h hchk
       rcases hn with ⟨_, hn⟩ | ⟨e, _⟩
       · exact SemV.yield ho hcal hf hn h1
       · exact absurd rfl e
     · cases h
   · rename_i b hcal
     obtain ⟨v, hv, rfl⟩ := outO_some h
     exact SemV.builtin ho hcal hv
   · cases h
 · cases h
end
end Go.Proofs.Ytofbchcclkejgaa

/- The evaluator of one operation: what it looks at. -/
set_option linter.unusedVariables false
set_option linter.unusedSimpArgs false
namespace Go.Proofs.Ytofbchcclkejgaa
open Go
def EffOk (slot : Nat) (al : Bool) (ob : Ob) (nm : Nm) (e : Eff) : Prop :=
 (∀ p ∈ e.wo, (∃ cs, ob[p.1]? = some (some cs)) ∨ (p.1 = slot ∧ al = true)) ∧ (∀ p ∈ e.wn, (∃ bf, nm[p.1]? = some (some bf)) ∨ (p.1 = slot ∧ al = true)) ∧
 ∀ p, e.blk = some p → (∀ s : Nat, ob[s]? = some none → p.1[s]? = some none) ∧ (∀ s : Nat, nm[s]? = some none → p.2[s]? = some none) ∧ (∀ o : Nat, o < e.bl.1 → o ∉ e.ko → p.1[o]? = ob[o]?) ∧ ∀ n : Nat, n < e.bl.2 → n ∉ e.kn → p.2[n]? = nm[n]?
def Eff.lays (e : Eff) : Bool := e.blk.isSome || !(e.xo.isEmpty && e.xn.isEmpty)
def Eff.same (ob ob' : Ob) (nm nm' : Nm) (e : Eff) : Prop :=
 (∀ o ∈ e.ro, ob[o]? = ob'[o]?) ∧ (∀ n ∈ e.rn, nm[n]? = nm'[n]?) ∧ (e.lays = true → ob = ob' ∧ nm = nm')
structure CallsFit (cf : CallF) : Prop where
 eff : ∀ f args ob nm out, cf f args ob nm = some out → EffOk 0 false ob nm out.eff
 frame : ∀ f args ob nm out, cf f args ob nm = some out → ∀ ob' nm', out.eff.same ob ob' nm nm' → cf f args ob' nm' = some out
section
variable {P : Program} {Γ : Nat → Option V} {ob ob' : Ob} {nm nm' : Nm} {cf : CallF} {slot : Nat} {o : Oper} {e e' : Operand → V} {out : Out}
theorem EffOk.none (slot : Nat) (al : Bool) (ob : Ob) (nm : Nm) : EffOk slot al ob nm .pure := ⟨(fun p hp => by cases hp), (fun p hp => by cases hp), (fun p hp => by cases hp)⟩
theorem EffOk.rd (slot : Nat) (al : Bool) (ob : Ob) (nm : Nm) (o : Nat) : EffOk slot al ob nm (.rd o) := ⟨(fun p hp => by cases hp), (fun p hp => by cases hp), (fun p hp => by cases hp)⟩
theorem EffOk.mkO {slot : Nat} {al : Bool} {ob : Ob} {nm : Nm} {cs : List V} (h : al = true) : EffOk slot al ob nm (.mkO slot cs) := ⟨(fun p hp => by simp [Eff.mkO] at hp; subst hp; exact .inr ⟨rfl, h⟩), (fun p hp => by cases hp), (fun p hp => by cases hp)⟩
theorem EffOk.wr {slot : Nat} {al : Bool} {ob : Ob} {nm : Nm} {o : Nat} {c cs : List V} (h : ob[o]? = some (some c)) : EffOk slot al ob nm (.wr o cs) := ⟨(fun p hp => by simp [Eff.wr] at hp; subst hp; exact .inl ⟨c, h⟩), (fun p hp => by cases hp), (fun p hp => by cases hp)⟩
theorem EffOk.any {slot : Nat} {al : Bool} {ob : Ob} {nm : Nm} {e : Eff} (h : EffOk 0 false ob nm e) : EffOk slot al ob nm e :=
 ⟨(fun p hp => (h.1 p hp).imp_right (fun k => by cases k.2)), (fun p hp => (h.2.1 p hp).imp_right (fun k => by cases k.2)), h.2.2⟩
theorem evE0_eff (hc : CallsFit cf) (h : evE0 P cf slot o e ob nm = some out) : EffOk slot (allocs o) ob nm out.eff := by
 unfold evE0 at h
 split at h
 case h_3 =>
  split at h
  · split at h
    · obtain ⟨v, hv, rfl⟩ := outO_some h; exact EffOk.none _ _ _ _
    · cases h; exact EffOk.none _ _ _ _
  · cases h
 case h_4 T ho =>
  split at h
  · split at h
    · cases h; exact EffOk.mkO (by simp [allocs, ho])
    · cases h
  · cases h
 case h_5 T x ho =>
  split at h
  · cases h; exact EffOk.mkO (by simp [allocs, ho])
  · cases h
 case h_9 =>
  split at h
  · split at h
    · split at h
      · rename_i cs hcs
        split at h
        · cases h; exact EffOk.wr hcs
        · cases h
      · cases h
    · cases h
  · cases h
 all_goals
  repeat' (split at h)
  all_goals first
   | (cases h; done)
   | (cases h; exact EffOk.none _ _ _ _)
   | (cases h; exact EffOk.rd _ _ _ _ _)
   | (obtain ⟨v, hv, rfl⟩ := outO_some h; exact EffOk.none _ _ _ _)
   | exact (hc.eff _ _ _ _ _ h).any
theorem evE0_frame (hc : CallsFit cf) (h : evE0 P cf slot o e ob nm = some out) (hs : out.eff.same ob ob' nm nm') : evE0 P cf slot o e ob' nm' = some out := by
 unfold evE0 at h ⊢
 split at h
 case h_8 =>
  split at h
  · split at h
    · split at h
      · rename_i v hv
        cases h
        have hs : ob[_]? = ob'[_]? := hs.1 _ (List.mem_singleton.2 rfl)
        simp only [loadV, ← hs] at hv ⊢
        rw [hv]
      · cases h
    · exact h
    · cases h
  · cases h
 case h_9 =>
  split at h
  · split at h
    · split at h
      · rename_i cs hcs
        split at h
        · rename_i hc'
          cases h
          have hs : ob[_]? = ob'[_]? := hs.1 _ (List.mem_singleton.2 rfl)
          rw [hs] at hcs
          simp only [hcs]
          rw [if_pos hc']
        · cases h
      · cases h
    · cases h
  · cases h
 case h_20 =>
  split at h
  · split at h
    · split at h
      · cases h
      · exact hc.frame _ _ _ _ _ h _ _ hs
    · exact hc.frame _ _ _ _ _ h _ _ hs
    · cases h
  · exact h
  · cases h
 all_goals exact h
theorem evE0_loc (he : ∀ x, x ∈ o.op.operands → e x = e' x) : evE0 P cf slot o e ob nm = evE0 P cf slot o e' ob nm := by
 have hp : ∀ (ps : Array (Nat × Operand)), (∀ p ∈ ps.toList, e p.2 = e' p.2) → (ps.toList.map fun (i, x) => (i, e x)) = ps.toList.map fun (i, x) => (i, e' x) := fun ps h => List.map_congr_left fun p hp => by simp [h p hp]
 have hl : ∀ (l : List Operand), (∀ x ∈ l, e x = e' x) → l.map e = l.map e' := fun l h => List.map_congr_left h
 unfold evE0
 cases ho : o.op with
 | build T ps =>
  rw [ho] at he
  have := hp ps (fun p hm => he p.2 (by simp [Op.operands]; exact ⟨p.1, by simpa using hm⟩))
  simp only [this]
 | buildSlice T len ps =>
  rw [ho] at he
  have := hp ps (fun p hm => he p.2 (by simp [Op.operands]; exact ⟨p.1, by simpa using hm⟩))
  simp only [this]
 | makeFunc fn a c =>
  rw [ho] at he
  simp only [hl a.toList (fun x hx => he x (by simp [Op.operands]; exact .inl (by simpa using hx))), hl c.toList (fun x hx => he x (by simp [Op.operands]; exact .inr (by simpa using hx)))]
 | call c =>
  rw [ho] at he
  have := hl c.args.toList (fun x hx => he x (by simp [Op.operands, Call.operands]; exact .inr (by simpa using hx)))
  simp only [this]
  split
  · rename_i f hf
    rw [he f (by simp [Op.operands, Call.operands, hf])]
  · rfl
  · rfl
 | _ =>
  (rw [ho] at he) <;> first
   | rfl
   | ((simp only [Op.operands] at he) <;> simp [he])
end
end Go.Proofs.Ytofbchcclkejgaa

