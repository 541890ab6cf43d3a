/- Lists of plain data and buffers: elements by an index, loads and stores, parts. -/
import Derived.Test.YtnjjkobijjdnbaaEv11a
set_option linter.unusedVariables false
set_option linter.unusedSimpArgs false
namespace Go.Proofs.Ytnjjkobijjdnbaa
open Go

section
variable {P : Program} {Γ : Nat → Option V} {G : Gh} {ob : Ob} {nm : Nm} {w : World} {σ : St}

theorem map_getD {α β : Type} {f : α → β} {l : List α} {d : α} {j : Nat} (h : j < l.length) : (l.map f)[j]? = some (f (l.getD j d)) := by
  simp [List.getElem?_eq_getElem h]
/-- An element's place in a list of plain data. -/
theorem VRel.slst_at {t : Tag} {ty : Ty} {l : List ty.den} {cv : Value} (h : VRel G (.slst t ty l) cv) {j : Nat} (hj : j < l.length) :
    ∃ b off cap, cv = .slice (some ⟨b, off, none⟩) l.length cap ∧ VRel G (.pel [ty.val (l.getD j ty.dflt)] 0 0) (.pointer (some ⟨b, off + j * ty.size, none⟩)) := by
  cases h with
  | slst h =>
    generalize hxs : l.map ty.val = xs at h
    have hlen : xs.length = l.length := by rw [← hxs]; simp
    cases h with
    | lst0 => rw [← hlen] at hj; simp at hj
    | lst1 => rw [← hlen] at hj; simp at hj
    | @lst _ _ b off cap sz cvs hsz hl hm hv hc ht =>
      have hj' : j < xs.length := by omega
      have hel : xs[j]? = some (ty.val (l.getD j ty.dflt)) := by rw [← hxs]; exact map_getD hj
      have hs : sz = ty.size := by rw [← hsz _ (List.mem_of_getElem? hel)]; exact Ty.val_len _ _
      subst hs
      refine ⟨b, off, cap, by rw [hlen], ?_⟩
      have hfl : ∀ i v, (ty.val (l.getD j ty.dflt)).cells[i]? = some v → (flat xs)[j * ty.size + i]? = some v := fun i v hi => flat_get hsz hel i v hi
      have hll := flat_length hsz
      have hjj : j * ty.size + ty.size ≤ xs.length * ty.size := by rw [← Nat.succ_mul]; exact Nat.mul_le_mul_right _ hj'
      have hvl : (ty.val (l.getD j ty.dflt)).cells.length = ty.size := Ty.val_len _ _
      have key : VRel G (.pel [ty.val (l.getD j ty.dflt)] 0 0) (.pointer (some ⟨b, (off + j * ty.size) + (0 * ty.size + 0), none⟩)) := by
        refine VRel.pel (sz := ty.size) (cvs := (cvs.drop (j * ty.size)).take ty.size) (fun x hx => ?_) ?_ (fun i cv hi => ?_) (fun i v cv h1 h2 => ?_)
        · simp at hx; subst hx; exact hvl
        · simp only [flat, List.flatMap_cons, List.flatMap_nil, List.append_nil, List.length_take, List.length_drop]; rw [hvl]; omega
        · rw [List.getElem?_take] at hi
          split at hi
          · rw [List.getElem?_drop] at hi
            rw [Nat.add_assoc]
            exact hm _ _ hi
          · cases hi
        · rw [List.getElem?_take] at h2
          split at h2
          · rw [List.getElem?_drop] at h2
            simp [flat] at h1
            exact hv _ _ _ (hfl i v h1) h2
          · cases h2
      simpa using key
theorem SemV.index_slst {o : Oper} {T e : TypeId} {x y : Operand} {sz : Nat} {k : IntKind} {i : Int} {s : Bool} {t : Tag} {ty : Ty} {l : List ty.den} (ho : o.op = .indexAddr T x y) (ht : tyElem P T = some (none, e)) (hs : tySize P e = some sz) (hz : ty.size = sz)
    (hx : σ.eval Γ x = .slst t ty l) (hy : (σ.eval Γ y).int? = some (k, i, s)) (hi : 0 ≤ i ∧ i < (l.length : Int)) : SemV P Γ o σ (.pel [ty.val (l.getD i.toNat ty.dflt)] 0 0) σ.ob σ.nm :=
  SemV.of_pure fun G a w hr => by
    have hiy := int?_eq hy (hr.eval y)
    have hxx := hr.eval x
    rw [hx] at hxx
    obtain ⟨b, off, cap, he, hp⟩ := hxx.slst_at (j := i.toNat) (by omega)
    subst hz
    exact ⟨_, by simp [execOp, ho, Instr.indexAt, hiy, asIntOf, run_underlying (tyElem_slice ht), he, hi.1, hi.2, run_sizeOf hs, add_none], hp⟩
theorem SemV.index_bs {o : Oper} {T e : TypeId} {x y : Operand} {sz : Nat} {k : IntKind} {i : Int} {s : Bool} {sy : Bool} {n off len : Nat} {c : BC} (ho : o.op = .indexAddr T x y) (ht : tyElem P T = some (none, e)) (hs : tySize P e = some sz) (hz : c.sz = sz)
    (hx : σ.eval Γ x = .bs sy n off len) (hn : σ.nm[n]? = some (some (.live c))) (hy : (σ.eval Γ y).int? = some (k, i, s)) (hi : 0 ≤ i ∧ i < (len : Int)) : SemV P Γ o σ (.bp n (off + i.toNat) 0) σ.ob σ.nm :=
  SemV.of_pure fun G a w hr => by
    have hiy := int?_eq hy (hr.eval y)
    have hxx := hr.eval x
    rw [hx] at hxx
    generalize he : a.eval x = cv at hxx
    cases hxx with
    | bs0 => simp at hi; omega
    | bs1 => simp at hi; omega
    | @bs _ _ _ _ tl hT hl =>
      have B := hr.wr.hnm n c tl hn hT
      have hsz : tl.sz = sz := B.sz.trans hz
      refine ⟨_, ?_, VRel.bp (i := off + i.toNat) (off := 0) hT⟩
      simp [execOp, ho, Instr.indexAt, hiy, asIntOf, run_underlying (tyElem_slice ht), he, hi.1, hi.2, run_sizeOf hs, add_none, hsz, Nat.add_mul, Nat.add_assoc]
/-! ### Loads and stores in a buffer -/
/-- An element's cells: what must hold, whether that is known, the cells. -/
def BC.at (c : BC) (i : Nat) : Option (Bool × Bool × List V) :=
  match c with
  | .cs _ xs => match xs[i]? with | some v => some (true, false, v.cells) | none => none
  | .arr ty l => some (decide (i < l.length), true, ty.cells (l.getD i ty.dflt))
theorem BC.at_ok {c : BC} {i : Nat} {s : Bool} {cs : List V} (h : c.at i = some (true, s, cs)) : ∃ v, c.els[i]? = some v ∧ v.cells = cs := by
  cases c with
  | cs sz xs =>
    simp only [BC.at] at h
    split at h
    · rename_i v hv; cases h; exact ⟨v, hv, rfl⟩
    · cases h
  | arr ty l =>
    simp only [BC.at, Option.some.injEq, Prod.mk.injEq, decide_eq_true_eq] at h
    obtain ⟨h1, _, rfl⟩ := h
    exact ⟨_, map_getD h1, Ty.val_cells _ _⟩
theorem VRel.bp_at {n i off : Nat} {c : BC} {cp : Value} {s : Bool} {cs : List V} (hw : WRel Γ G ob nm w) (hn : nm[n]? = some (some (.live c))) (ha : c.at i = some (true, s, cs)) (hp : VRel G (.bp n i off) cp) :
    ∃ (x : Tail) (cvs : Array Value) (E : TypeId) (fr : Nat × Nat), G.T n = some x ∧ cp = .pointer (some ⟨x.b, x.lo + (i * x.sz + off), none⟩) ∧ BufOk G w x c ∧ w.heap[x.b]? = some (.cells cvs E fr) ∧ (fr = (0, 0) ∨ cvs.size ≤ fr.1) ∧ x.lo + x.cap * x.sz ≤ cvs.size ∧
      cs.length = x.sz ∧ i < x.len ∧ Rels G (flat c.els) ((cvs.toList.drop x.lo).take (flat c.els).length) ∧ Rels G cs ((cvs.toList.drop (x.lo + i * x.sz)).take cs.length) := by
  obtain ⟨v, hv, rfl⟩ := BC.at_ok ha
  cases hp with
  | @bp _ _ _ x hT =>
    have B := hw.hnm n c x hn hT
    obtain ⟨cvs, E, fr, e1, e2, e3, e4⟩ := B.row
    have hvl : v.cells.length = x.sz := (B.el v (List.mem_of_getElem? hv)).trans B.sz.symm
    have hil : i < x.len := by rw [← B.len, ← BC.els_len]; exact get_lt' hv
    refine ⟨x, cvs, E, fr, hT, rfl, B, e1, e2, e3, hvl, hil, e4, ?_⟩
    have hel : ∀ u ∈ c.els, u.cells.length = x.sz := fun u hu => (B.el u hu).trans B.sz.symm
    have hll := flat_length hel
    have hjj : i * x.sz + x.sz ≤ c.els.length * x.sz := by rw [← Nat.succ_mul]; exact Nat.mul_le_mul_right _ (by rw [BC.els_len, B.len]; exact hil)
    refine ⟨?_, fun j u cv h1 h2 => ?_⟩
    · have := e4.1
      simp at this ⊢
      omega
    · have hj : j < v.cells.length := get_lt' h1
      have hf := flat_get hel hv j u h1
      rw [List.getElem?_take, if_pos hj, List.getElem?_drop] at h2
      refine e4.2 (i * x.sz + j) u cv hf ?_
      rw [List.getElem?_take, if_pos (by omega), List.getElem?_drop, ← Nat.add_assoc]
      exact h2
where
  get_lt' {α : Type} {l : List α} {i : Nat} {a : α} (h : l[i]? = some a) : i < l.length := by
    rcases Nat.lt_or_ge i l.length with h' | h'
    · exact h'
    · rw [List.getElem?_eq_none h'] at h; cases h
theorem SemV.load_bp {o : Oper} {T : TypeId} {x : Operand} {agg : Bool} {sz n i off : Nat} {c : BC} {s : Bool} {cs : List V} {v : V} (ho : o.op = .load T x) (ha : tyAgg P T = some agg) (hs : tySize P T = some sz) (hx : σ.eval Γ x = .bp n i off) (hn : σ.nm[n]? = some (some (.live c)))
    (hc : c.at i = some (true, s, cs)) (hg : getV agg sz cs off = some v) : SemV P Γ o σ v σ.ob σ.nm :=
  SemV.of_pure fun G a w hr => by
    have hxx := hr.eval x
    rw [hx] at hxx
    obtain ⟨x', cvs, E, fr, hT, he, B, e1, _, _, hcl, _, _, e5⟩ := hxx.bp_at hr.wr hn hc
    obtain ⟨cv, h1, h2⟩ := run_loadVar_at (P := P) ha hs hg e5 x'.b (x'.lo + i * x'.sz) w (fun j cv hj => by
      rw [cell_row e1]
      rw [List.getElem?_take] at hj
      split at hj
      · rw [List.getElem?_drop] at hj
        simpa using hj
      · cases hj)
    rw [Nat.add_assoc] at h1
    exact ⟨cv, by simp [execOp, ho, Instr.loadAt, Instr.sureAddr, he, h1], h2⟩
end
end Go.Proofs.Ytnjjkobijjdnbaa
