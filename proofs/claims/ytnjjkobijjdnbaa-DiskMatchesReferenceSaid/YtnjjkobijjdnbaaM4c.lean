/- Parts of the library of texts, one after the other: Ev11b, Ev11c. -/
import Derived.Test.YtnjjkobijjdnbaaM4b
/- Lists of plain data and buffers: elements by an index, loads and stores, parts. -/
set_option linter.unusedVariables false
set_option linter.unusedSimpArgs false
namespace Go.Proofs.Ytnjjkobijjdnbaa
open Go

section
variable {P : Program} {Γ : Nat → Option V} {G : Gh} {ob : Ob} {nm : Nm} {w : World} {σ : St}

theorem map_getD {α β : Type} {f : α → β} {l : List α} {d : α} {j : Nat} (h : j < l.length) : (l.map f)[j]? = some (f (l.getD j d)) := by
  simp [List.getElem?_eq_getElem h]
/-- An element's place in a list of plain data. -/
theorem VRel.slst_at {t : Tag} {ty : Ty} {l : List ty.den} {cv : Value} (h : VRel G (.slst t ty l) cv) {j : Nat} (hj : j < l.length) :
    ∃ b off cap, cv = .slice (some ⟨b, off, none⟩) l.length cap ∧ VRel G (.pel [ty.val (l.getD j ty.dflt)] 0 0) (.pointer (some ⟨b, off + j * ty.size, none⟩)) := by
  cases h with
  | slst h =>
    generalize hxs : l.map ty.val = xs at h
    have hlen : xs.length = l.length := by rw [← hxs]; simp
    cases h with
    | lst0 => rw [← hlen] at hj; simp at hj
    | lst1 => rw [← hlen] at hj; simp at hj
    | @lst _ _ b off cap sz cvs hsz hl hm hv hc ht =>
      have hj' : j < xs.length := by omega
      have hel : xs[j]? = some (ty.val (l.getD j ty.dflt)) := by rw [← hxs]; exact map_getD hj
      have hs : sz = ty.size := by rw [← hsz _ (List.mem_of_getElem? hel)]; exact Ty.val_len _ _
      subst hs
      refine ⟨b, off, cap, by rw [hlen], ?_⟩
      have hfl : ∀ i v, (ty.val (l.getD j ty.dflt)).cells[i]? = some v → (flat xs)[j * ty.size + i]? = some v := fun i v hi => flat_get hsz hel i v hi
      have hll := flat_length hsz
      have hjj : j * ty.size + ty.size ≤ xs.length * ty.size := by rw [← Nat.succ_mul]; exact Nat.mul_le_mul_right _ hj'
      have hvl : (ty.val (l.getD j ty.dflt)).cells.length = ty.size := Ty.val_len _ _
      have key : VRel G (.pel [ty.val (l.getD j ty.dflt)] 0 0) (.pointer (some ⟨b, (off + j * ty.size) + (0 * ty.size + 0), none⟩)) := by
        refine VRel.pel (sz := ty.size) (cvs := (cvs.drop (j * ty.size)).take ty.size) (fun x hx => ?_) ?_ (fun i cv hi => ?_) (fun i v cv h1 h2 => ?_)
        · simp at hx; subst hx; exact hvl
        · simp only [flat, List.flatMap_cons, List.flatMap_nil, List.append_nil, List.length_take, List.length_drop]; rw [hvl]; omega
        · rw [List.getElem?_take] at hi
          split at hi
          · rw [List.getElem?_drop] at hi
            rw [Nat.add_assoc]
            exact hm _ _ hi
          · cases hi
        · rw [List.getElem?_take] at h2
          split at h2
          · rw [List.getElem?_drop] at h2
            simp [flat] at h1
            exact hv _ _ _ (hfl i v h1) h2
          · cases h2
      simpa using key
theorem SemV.index_slst {o : Oper} {T e : TypeId} {x y : Operand} {sz : Nat} {k : IntKind} {i : Int} {s : Bool} {t : Tag} {ty : Ty} {l : List ty.den} (ho : o.op = .indexAddr T x y) (ht : tyElem P T = some (none, e)) (hs : tySize P e = some sz) (hz : ty.size = sz)
    (hx : σ.eval Γ x = .slst t ty l) (hy : (σ.eval Γ y).int? = some (k, i, s)) (hi : 0 ≤ i ∧ i < (l.length : Int)) : SemV P Γ o σ (.pel [ty.val (l.getD i.toNat ty.dflt)] 0 0) σ.ob σ.nm :=
  SemV.of_pure fun G a w hr => by
    have hiy := int?_eq hy (hr.eval y)
    have hxx := hr.eval x
    rw [hx] at hxx
    obtain ⟨b, off, cap, he, hp⟩ := hxx.slst_at (j := i.toNat) (by omega)
    subst hz
    exact ⟨_, by simp [execOp, ho, Instr.indexAt, hiy, asIntOf, run_underlying (tyElem_slice ht), he, hi.1, hi.2, run_sizeOf hs, add_none], hp⟩
theorem SemV.index_bs {o : Oper} {T e : TypeId} {x y : Operand} {sz : Nat} {k : IntKind} {i : Int} {s : Bool} {sy : Bool} {n off len : Nat} {c : BC} (ho : o.op = .indexAddr T x y) (ht : tyElem P T = some (none, e)) (hs : tySize P e = some sz) (hz : c.sz = sz)
    (hx : σ.eval Γ x = .bs sy n off len) (hn : σ.nm[n]? = some (some (.live c))) (hy : (σ.eval Γ y).int? = some (k, i, s)) (hi : 0 ≤ i ∧ i < (len : Int)) : SemV P Γ o σ (.bp n (off + i.toNat) 0) σ.ob σ.nm :=
  SemV.of_pure fun G a w hr => by
    have hiy := int?_eq hy (hr.eval y)
    have hxx := hr.eval x
    rw [hx] at hxx
    generalize he : a.eval x = cv at hxx
    cases hxx with
    | bs0 => simp at hi; omega
    | bs1 => simp at hi; omega
    | @bs _ _ _ _ tl hT hl =>
      have B := hr.wr.hnm n c tl hn hT
      have hsz : tl.sz = sz := B.sz.trans hz
      refine ⟨_, ?_, VRel.bp (i := off + i.toNat) (off := 0) hT⟩
      simp [execOp, ho, Instr.indexAt, hiy, asIntOf, run_underlying (tyElem_slice ht), he, hi.1, hi.2, run_sizeOf hs, add_none, hsz, Nat.add_mul, Nat.add_assoc]
/-! ### Loads and stores in a buffer -/
/-- An element's cells: what must hold, whether that is known, the cells. -/
def BC.at (c : BC) (i : Nat) : Option (Bool × Bool × List V) :=
  match c with
  | .cs _ xs => match xs[i]? with | some v => some (true, false, v.cells) | none => none
  | .arr ty l => some (decide (i < l.length), true, ty.cells (l.getD i ty.dflt))
theorem BC.at_ok {c : BC} {i : Nat} {s : Bool} {cs : List V} (h : c.at i = some (true, s, cs)) : ∃ v, c.els[i]? = some v ∧ v.cells = cs := by
  cases c with
  | cs sz xs =>
    simp only [BC.at] at h
    split at h
    · rename_i v hv; cases h; exact ⟨v, hv, rfl⟩
    · cases h
  | arr ty l =>
    simp only [BC.at, Option.some.injEq, Prod.mk.injEq, decide_eq_true_eq] at h
    obtain ⟨h1, _, rfl⟩ := h
    exact ⟨_, map_getD h1, Ty.val_cells _ _⟩
theorem VRel.bp_at {n i off : Nat} {c : BC} {cp : Value} {s : Bool} {cs : List V} (hw : WRel Γ G ob nm w) (hn : nm[n]? = some (some (.live c))) (ha : c.at i = some (true, s, cs)) (hp : VRel G (.bp n i off) cp) :
    ∃ (x : Tail) (cvs : Array Value) (E : TypeId) (fr : Nat × Nat), G.T n = some x ∧ cp = .pointer (some ⟨x.b, x.lo + (i * x.sz + off), none⟩) ∧ BufOk G w x c ∧ w.heap[x.b]? = some (.cells cvs E fr) ∧ (fr = (0, 0) ∨ cvs.size ≤ fr.1) ∧ x.lo + x.cap * x.sz ≤ cvs.size ∧
      cs.length = x.sz ∧ i < x.len ∧ Rels G (flat c.els) ((cvs.toList.drop x.lo).take (flat c.els).length) ∧ Rels G cs ((cvs.toList.drop (x.lo + i * x.sz)).take cs.length) := by
  obtain ⟨v, hv, rfl⟩ := BC.at_ok ha
  cases hp with
  | @bp _ _ _ x hT =>
    have B := hw.hnm n c x hn hT
    obtain ⟨cvs, E, fr, e1, e2, e3, e4⟩ := B.row
    have hvl : v.cells.length = x.sz := (B.el v (List.mem_of_getElem? hv)).trans B.sz.symm
    have hil : i < x.len := by rw [← B.len, ← BC.els_len]; exact get_lt' hv
    refine ⟨x, cvs, E, fr, hT, rfl, B, e1, e2, e3, hvl, hil, e4, ?_⟩
    have hel : ∀ u ∈ c.els, u.cells.length = x.sz := fun u hu => (B.el u hu).trans B.sz.symm
    have hll := flat_length hel
    have hjj : i * x.sz + x.sz ≤ c.els.length * x.sz := by rw [← Nat.succ_mul]; exact Nat.mul_le_mul_right _ (by rw [BC.els_len, B.len]; exact hil)
    refine ⟨?_, fun j u cv h1 h2 => ?_⟩
    · have := e4.1
      simp at this ⊢
      omega
    · have hj : j < v.cells.length := get_lt' h1
      have hf := flat_get hel hv j u h1
      rw [List.getElem?_take, if_pos hj, List.getElem?_drop] at h2
      refine e4.2 (i * x.sz + j) u cv hf ?_
      rw [List.getElem?_take, if_pos (by omega), List.getElem?_drop, ← Nat.add_assoc]
      exact h2
where
  get_lt' {α : Type} {l : List α} {i : Nat} {a : α} (h : l[i]? = some a) : i < l.length := by
    rcases Nat.lt_or_ge i l.length with h' | h'
    · exact h'
    · rw [List.getElem?_eq_none h'] at h; cases h
theorem SemV.load_bp {o : Oper} {T : TypeId} {x : Operand} {agg : Bool} {sz n i off : Nat} {c : BC} {s : Bool} {cs : List V} {v : V} (ho : o.op = .load T x) (ha : tyAgg P T = some agg) (hs : tySize P T = some sz) (hx : σ.eval Γ x = .bp n i off) (hn : σ.nm[n]? = some (some (.live c)))
    (hc : c.at i = some (true, s, cs)) (hg : getV agg sz cs off = some v) : SemV P Γ o σ v σ.ob σ.nm :=
  SemV.of_pure fun G a w hr => by
    have hxx := hr.eval x
    rw [hx] at hxx
    obtain ⟨x', cvs, E, fr, hT, he, B, e1, _, _, hcl, _, _, e5⟩ := hxx.bp_at hr.wr hn hc
    obtain ⟨cv, h1, h2⟩ := run_loadVar_at (P := P) ha hs hg e5 x'.b (x'.lo + i * x'.sz) w (fun j cv hj => by
      rw [cell_row e1]
      rw [List.getElem?_take] at hj
      split at hj
      · rw [List.getElem?_drop] at hj
        simpa using hj
      · cases hj)
    rw [Nat.add_assoc] at h1
    exact ⟨cv, by simp [execOp, ho, Instr.loadAt, Instr.sureAddr, he, h1], h2⟩
end
end Go.Proofs.Ytnjjkobijjdnbaa

/- Parts of lists, buffers and strings. -/
set_option linter.unusedVariables false
set_option linter.unusedSimpArgs false
namespace Go.Proofs.Ytnjjkobijjdnbaa
open Go

section
variable {P : Program} {Γ : Nat → Option V} {G : Gh} {ob : Ob} {nm : Nm} {w : World} {σ : St}

abbrev Bd := Option (IntKind × Int × Bool)
/-- A bound, looked at. -/
def bdE (e : Operand → V) : Option Operand → Option Bd
  | none => some none
  | some x => match (e x).int? with | some r => some (some r) | none => none
def Bd.lo (b : Bd) : Int := match b with | some (_, i, _) => i | none => 0
def Bd.hi (b : Bd) (len : Nat) : Int := match b with | some (_, i, _) => i | none => len
def Bd.sy (b : Bd) : Bool := match b with | some (_, _, s) => s | none => false
def Bd.val (b : Bd) : Option Value := match b with | some (k, i, _) => some (.int k i) | none => none
theorem bd_val {a : Act} (hr : Rel Γ G σ a w) {x : Option Operand} {b : Bd} (h : bdE (σ.eval Γ) x = some b) : x.map a.eval = b.val := by
  cases x with
  | none => cases h; rfl
  | some x =>
    simp only [bdE] at h
    split at h
    · rename_i r hx
      cases h
      obtain ⟨k, i, s⟩ := r
      have := int?_eq hx (hr.eval x)
      simp [Bd.val, this]
    · cases h
theorem run_bounds (isS : Bool) {lo hi : Bd} {len cap : Nat} (h0 : 0 ≤ lo.lo) (h1 : lo.lo ≤ hi.hi len) (h2 : hi.hi len ≤ (cap : Int)) : (Instr.sliceBounds isS len cap lo.val hi.val none).run P w = .ok (lo.lo.toNat, (hi.hi len).toNat, cap) w := by
  cases lo with
  | none =>
    cases hi with
    | none => simp [Instr.sliceBounds, Bd.val, Bd.lo, Bd.hi]
    | some p =>
      obtain ⟨k, i, s⟩ := p
      simp only [Bd.lo, Bd.hi] at h0 h1 h2
      simp [Instr.sliceBounds, Bd.val, Bd.lo, Bd.hi, run_sliceBound, h1, h2]
  | some q =>
    obtain ⟨k', i', s'⟩ := q
    cases hi with
    | none =>
      simp only [Bd.lo, Bd.hi] at h0 h1 h2
      simp [Instr.sliceBounds, Bd.val, Bd.lo, Bd.hi, run_sliceBound, h0, h1]
    | some p =>
      obtain ⟨k, i, s⟩ := p
      simp only [Bd.lo, Bd.hi] at h0 h1 h2
      have e : (i.toNat : Int) = i := Int.toNat_of_nonneg (by omega)
      simp [Instr.sliceBounds, Bd.val, Bd.lo, Bd.hi, run_sliceBound, h0, h1, h2, e, (by omega : 0 ≤ i)]

/-- A part of a list that never changes. -/
theorem VRel.lst_part {t : Tag} {xs : List V} {cv : Value} (h : VRel G (.lst t xs) cv) {sz lo hi : Nat} (hsz : ∀ x ∈ xs, x.cells.length = sz) (h1 : lo ≤ hi) (h2 : hi ≤ xs.length) :
    ∃ p cap, cv = .slice p xs.length cap ∧ xs.length ≤ cap ∧ VRel G (.lst .ro ((xs.take hi).drop lo)) (sliced p lo hi cap sz) := by
  cases h with
  | lst0 =>
    simp at h2
    subst h2
    obtain rfl : lo = 0 := by omega
    exact ⟨none, 0, rfl, Nat.le_refl _, by simp [sliced]; exact .lst0 _⟩
  | lst1 p cap =>
    simp at h2
    subst h2
    obtain rfl : lo = 0 := by omega
    exact ⟨p, cap, rfl, Nat.zero_le _, by simp [sliced]; exact .lst1 _ _⟩
  | @lst _ _ b off cap sz' cvs hs hl hm hv hc ht =>
    refine ⟨_, cap, rfl, hc, ?_⟩
    have hlen : ((xs.take hi).drop lo).length = hi - lo := by simp; omega
    unfold sliced
    split
    · rename_i hcl
      have h0 : hi - lo = 0 := by omega
      have hnil : (xs.take hi).drop lo = [] := List.length_eq_zero_iff.1 (by omega)
      have key : VRel G (.lst .ro []) (.slice (some ⟨b, off, none⟩) ([] : List V).length (cap - lo)) := .lst (sz := sz) (cvs := []) (by simp) (by simp [flat]) (fun j cv hj => by simp at hj) (fun j v cv hj => by simp [flat] at hj) (by simp) trivial
      rw [hnil, h0]
      exact key
    · have hfl := flat_length hsz
      have e1 : flat ((xs.take hi).drop lo) = ((flat xs).take (hi * sz)).drop (lo * sz) := by
        have a := flat_take_drop (xs := xs.take hi) (fun x hx => hsz x (List.mem_of_mem_take hx)) lo (hi - lo)
        have b := flat_take_drop hsz 0 hi
        simp only [List.drop_zero, Nat.zero_mul] at b
        rw [List.take_of_length_le (by simp; omega)] at a
        rw [a, b, List.take_of_length_le]
        simp
        rw [Nat.sub_mul]
        omega
      have hle : hi * sz ≤ xs.length * sz := Nat.mul_le_mul_right _ h2
      have key : VRel G (.lst .ro ((xs.take hi).drop lo)) (.slice (some ⟨b, off + lo * sz, none⟩) ((xs.take hi).drop lo).length (cap - lo)) := by
        refine .lst (sz := sz) (cvs := (cvs.take (hi * sz)).drop (lo * sz)) (fun x hx => hsz x (List.mem_of_mem_take (List.mem_of_mem_drop hx))) (by rw [e1]; simp; omega) (fun j cv hj => ?_) (fun j v cv q1 q2 => ?_) (by omega) trivial
        · rw [List.getElem?_drop, List.getElem?_take] at hj
          split at hj
          · rw [Nat.add_assoc]; exact hm _ _ hj
          · cases hj
        · rw [e1, List.getElem?_drop, List.getElem?_take] at q1
          rw [List.getElem?_drop, List.getElem?_take] at q2
          split at q1
          · rename_i hj; rw [if_pos hj] at q2; exact hv _ _ _ q1 q2
          · cases q1
      rw [hlen] at key
      simpa [add_none] using key
theorem run_slice_val {T e : TypeId} {sz : Nat} (ht : tyElem P T = some (none, e)) (hs : tySize P e = some sz) {lo hi : Bd} {p : Option Addr} {len cap : Nat} (h0 : 0 ≤ lo.lo) (h1 : lo.lo ≤ hi.hi len) (h2 : hi.hi len ≤ (cap : Int)) :
    (Instr.sliceAt T (.slice p len cap) lo.val hi.val none).run P w = .ok (sliced p lo.lo.toNat (hi.hi len).toNat cap sz) w := by
  have hb := run_bounds (P := P) (w := w) true h0 h1 h2
  simp [Instr.sliceAt, Instr.slice, run_underlying (tyElem_slice ht), hb, run_sizeOf hs, sliced]
theorem SemV.slice_slst {o : Oper} {T e : TypeId} {x : Operand} {low high : Option Operand} {lo hi : Bd} {sz : Nat} {t : Tag} {ty : Ty} {l : List ty.den} (ho : o.op = .slice T x low high none) (ht : tyElem P T = some (none, e)) (hs : tySize P e = some sz) (hz : ty.size = sz)
    (hx : σ.eval Γ x = .slst t ty l) (hlo : bdE (σ.eval Γ) low = some lo) (hhi : bdE (σ.eval Γ) high = some hi) (h0 : 0 ≤ lo.lo) (h1 : lo.lo ≤ hi.hi l.length) (h2 : hi.hi l.length ≤ (l.length : Int)) :
    SemV P Γ o σ (.slst .ro ty ((l.take (hi.hi l.length).toNat).drop lo.lo.toNat)) σ.ob σ.nm :=
  SemV.of_pure fun G a w hr => by
    have hxx := hr.eval x
    rw [hx] at hxx
    subst hz
    cases hxx with
    | slst h =>
      obtain ⟨p, cap, he, hc, hp⟩ := h.lst_part (sz := ty.size) (lo := lo.lo.toNat) (hi := (hi.hi l.length).toNat) (fun v hv => by obtain ⟨z, _, rfl⟩ := List.mem_map.1 hv; exact Ty.val_len _ _) (by omega) (by simp; omega)
      simp only [List.length_map] at he hc
      have hrun := run_slice_val (P := P) (w := w) ht hs (p := p) (cap := cap) h0 h1 (by omega)
      exact ⟨sliced p lo.lo.toNat (hi.hi l.length).toNat cap ty.size, by simp only [execOp, ho, he, bd_val hr hlo, bd_val hr hhi, Option.map_none, Sem.run_bind, hrun, Result.andThen_ok, Sem.run_pure], .slst (by rw [List.map_drop, List.map_take]; exact hp)⟩
theorem SemV.slice_lst {o : Oper} {T e : TypeId} {x : Operand} {low high : Option Operand} {lo hi : Bd} {sz : Nat} {t : Tag} {xs : List V} (ho : o.op = .slice T x low high none) (ht : tyElem P T = some (none, e)) (hs : tySize P e = some sz) (hz : xs.all (fun v => v.cells.length == sz) = true)
    (hx : σ.eval Γ x = .lst t xs) (hlo : bdE (σ.eval Γ) low = some lo) (hhi : bdE (σ.eval Γ) high = some hi) (h0 : 0 ≤ lo.lo) (h1 : lo.lo ≤ hi.hi xs.length) (h2 : hi.hi xs.length ≤ (xs.length : Int)) :
    SemV P Γ o σ (.lst .ro ((xs.take (hi.hi xs.length).toNat).drop lo.lo.toNat)) σ.ob σ.nm :=
  SemV.of_pure fun G a w hr => by
    have hxx := hr.eval x
    rw [hx] at hxx
    obtain ⟨p, cap, he, hc, hp⟩ := hxx.lst_part (sz := sz) (lo := lo.lo.toNat) (hi := (hi.hi xs.length).toNat) (fun v hv => by simpa using List.all_eq_true.1 hz v hv) (by omega) (by omega)
    have hrun := run_slice_val (P := P) (w := w) ht hs (p := p) (cap := cap) h0 h1 (by omega)
    exact ⟨sliced p lo.lo.toNat (hi.hi xs.length).toNat cap sz, by simp only [execOp, ho, he, bd_val hr hlo, bd_val hr hhi, Option.map_none, Sem.run_bind, hrun, Result.andThen_ok, Sem.run_pure], hp⟩
theorem SemV.slice_bs {o : Oper} {T e : TypeId} {x : Operand} {low high : Option Operand} {lo hi : Bd} {sz : Nat} {sy sy' : Bool} {n off len : Nat} {c : BC} (ho : o.op = .slice T x low high none) (ht : tyElem P T = some (none, e)) (hs : tySize P e = some sz) (hz : c.sz = sz)
    (hx : σ.eval Γ x = .bs sy n off len) (hn : σ.nm[n]? = some (some (.live c))) (hlo : bdE (σ.eval Γ) low = some lo) (hhi : bdE (σ.eval Γ) high = some hi) (h0 : 0 ≤ lo.lo) (h1 : lo.lo ≤ hi.hi len) (h2 : hi.hi len ≤ (len : Int)) :
    SemV P Γ o σ (.bs sy' n (off + lo.lo.toNat) ((hi.hi len).toNat - lo.lo.toNat)) σ.ob σ.nm :=
  SemV.of_pure fun G a w hr => by
    have hxx := hr.eval x
    rw [hx] at hxx
    generalize he : a.eval x = cv at hxx
    cases hxx with
    | bs0 =>
      have hrun := run_slice_val (P := P) (w := w) ht hs (p := none) (cap := 0) h0 h1 (by omega)
      have e1 : lo.lo.toNat = 0 := by omega
      have e2 : (hi.hi 0).toNat = 0 := by omega
      rw [e1, e2] at hrun ⊢
      refine ⟨sliced none 0 0 0 sz, by simp only [execOp, ho, he, bd_val hr hlo, bd_val hr hhi, Option.map_none, Sem.run_bind, hrun, Result.andThen_ok, Sem.run_pure], ?_⟩
      simp [sliced]
      exact .bs0 _ _ _
    | bs1 _ _ _ b o1 =>
      have hrun := run_slice_val (P := P) (w := w) ht hs (p := some ⟨b, o1, none⟩) (cap := 0) h0 h1 (by omega)
      have e1 : lo.lo.toNat = 0 := by omega
      have e2 : (hi.hi 0).toNat = 0 := by omega
      rw [e1, e2] at hrun ⊢
      refine ⟨sliced (some ⟨b, o1, none⟩) 0 0 0 sz, by simp only [execOp, ho, he, bd_val hr hlo, bd_val hr hhi, Option.map_none, Sem.run_bind, hrun, Result.andThen_ok, Sem.run_pure], ?_⟩
      simp [sliced]
      exact .bs1 _ _ _ _ _
    | @bs _ _ _ _ tl hT hl =>
      have B := hr.wr.hnm n c tl hn hT
      have hsz : tl.sz = sz := B.sz.trans hz
      have hcap := B.cap
      have hrun := run_slice_val (P := P) (w := w) ht hs (p := some ⟨tl.b, tl.lo + off * tl.sz, none⟩) (cap := tl.cap - off) h0 h1 (by omega)
      refine ⟨sliced (some ⟨tl.b, tl.lo + off * tl.sz, none⟩) lo.lo.toNat (hi.hi len).toNat (tl.cap - off) sz, by simp only [execOp, ho, he, bd_val hr hlo, bd_val hr hhi, Option.map_none, Sem.run_bind, hrun, Result.andThen_ok, Sem.run_pure], ?_⟩
      unfold sliced
      split
      · rename_i hcl
        have e1 : (hi.hi len).toNat - lo.lo.toNat = 0 := by omega
        have e2 : tl.cap - off - lo.lo.toNat = 0 := by omega
        rw [e1, e2]
        exact .bs1 _ _ _ _ _
      · have key : VRel G (.bs sy' n (off + lo.lo.toNat) ((hi.hi len).toNat - lo.lo.toNat)) (.slice (some ⟨tl.b, tl.lo + (off + lo.lo.toNat) * tl.sz, none⟩) ((hi.hi len).toNat - lo.lo.toNat) (tl.cap - (off + lo.lo.toNat))) := .bs hT (by omega)
        have e1 : tl.cap - off - lo.lo.toNat = tl.cap - (off + lo.lo.toNat) := by omega
        rw [e1]
        simpa [add_none, hsz, Nat.add_mul, Nat.add_assoc] using key
theorem SemV.slice_str {o : Oper} {T : TypeId} {x : Operand} {low high : Option Operand} {lo hi : Bd} {s : ByteArray} {sy : Bool} (ho : o.op = .slice T x low high none) (ht : P.underlying T = some .string)
    (hx : (σ.eval Γ x).str? = some (s, sy)) (hlo : bdE (σ.eval Γ) low = some lo) (hhi : bdE (σ.eval Γ) high = some hi) (h0 : 0 ≤ lo.lo) (h1 : lo.lo ≤ hi.hi s.size) (h2 : hi.hi s.size ≤ (s.size : Int)) :
    SemV P Γ o σ (mkS (sy || lo.sy || hi.sy) (s.extract lo.lo.toNat (hi.hi s.size).toNat)) σ.ob σ.nm :=
  SemV.of_pure fun G a w hr => by
    have hs := str?_eq hx (hr.eval x)
    have hb := run_bounds (P := P) (w := w) false h0 h1 h2
    refine ⟨.string (s.extract lo.lo.toNat (hi.hi s.size).toNat), ?_, mkS_rel _ _ _⟩
    simp [execOp, ho, hs, bd_val hr hlo, bd_val hr hhi, Instr.sliceAt, Instr.slice, run_underlying ht, hb]
end
end Go.Proofs.Ytnjjkobijjdnbaa

