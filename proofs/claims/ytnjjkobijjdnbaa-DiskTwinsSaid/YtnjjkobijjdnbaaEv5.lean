/- Stores, addresses, parts. -/
import Derived.Test.YtnjjkobijjdnbaaEv4
set_option linter.unusedVariables false
set_option linter.unusedSimpArgs false
namespace Go.Proofs.Ytnjjkobijjdnbaa
open Go

section
variable {P : Program} {Γ : Nat → Option V} {G : Gh} {ob : Ob} {nm : Nm} {w : World} {σ : St}

/-- The world with one row exchanged. -/
structure RowSet (w w' : World) (b : Nat) (c : Array Value) (E : TypeId) (fr : Nat × Nat) : Prop where
  row : w'.heap[b]? = some (.cells c E fr)
  other : ∀ k, k ≠ b → w'.heap[k]? = w.heap[k]?
  size : w'.heap.size = w.heap.size
  os : w'.os = w.os
  tape : w'.tape = w.tape
  output : w'.output = w.output

theorem rowSet_setCell {w : World} {b off : Nat} {c : Array Value} {E : TypeId} {fr : Nat × Nat} (h : w.heap[b]? = some (.cells c E fr)) (v : Value) :
    RowSet w (w.setCell ⟨b, off, none⟩ v) b (c.setIfInBounds off v) E fr where
  row := by simp [World.setCell, Array.getElem?_modify, h]
  other k hk := by simp only [World.setCell, Array.getElem?_modify]; rw [if_neg (by simpa using (Ne.symm hk))]
  size := by simp [World.setCell]
  os := rfl
  tape := rfl
  output := rfl

theorem run_store_row {w : World} {b off : Nat} {c : Array Value} {E : TypeId} {fr : Nat × Nat} (h : w.heap[b]? = some (.cells c E fr)) (hf : fr = (0, 0) ∨ c.size ≤ fr.1) (hl : off < c.size) {v : Value} (h1 : v.oneCell' = true) :
    (store ⟨b, off, none⟩ v).run P w = .ok () (w.setCell ⟨b, off, none⟩ v) := by
  rw [run_store P w _ v _ h1, cell_row h, Array.getElem?_eq_getElem hl]
  have hfr : w.frozen? ⟨b, off, none⟩ = false := by
    simp only [World.frozen?, h]
    rcases hf with rfl | hf
    · simp
    · have : ¬ fr.1 ≤ off := by omega
      simp [this]
  simp [hfr]

theorem splice_step (l : List Value) (k : Nat) (v : Value) (rest : List Value) (h : k + (rest.length + 1) ≤ l.length) :
    (l.set k v).take (k + 1) ++ rest ++ (l.set k v).drop (k + 1 + rest.length) = l.take k ++ (v :: rest) ++ l.drop (k + (rest.length + 1)) := by
  have h1 : (l.set k v).take (k + 1) = l.take k ++ [v] := by
    apply List.ext_getElem?
    intro j
    simp only [List.getElem?_take, List.getElem?_set, List.getElem?_append, List.length_take]
    by_cases hj : j < k
    · have : j < min k l.length := by omega
      have h3 : j < k + 1 := by omega
      have h4 : ¬ k = j := by omega
      simp [this, h3, h4, hj]
    · by_cases hj2 : j = k
      · subst hj2
        have : min j l.length = j := by omega
        have hjl : j < l.length := by omega
        simp [this, hjl]
      · have : min k l.length = k := by omega
        have h3 : ¬ j < k + 1 := by omega
        simp [hj, this, h3]
        omega
  have h2 : (l.set k v).drop (k + 1 + rest.length) = l.drop (k + (rest.length + 1)) := by
    apply List.ext_getElem?
    intro j
    simp only [List.getElem?_drop, List.getElem?_set]
    have : ¬ k = k + 1 + rest.length + j := by omega
    simp [this]
    congr 1
    omega
  rw [h1, h2]
  simp

theorem run_storeCells_row {b off : Nat} {E : TypeId} {fr : Nat × Nat} : ∀ (vs : List Value) (i : Nat) (c : Array Value) (w : World), w.heap[b]? = some (.cells c E fr) → (fr = (0, 0) ∨ c.size ≤ fr.1) → off + i + vs.length ≤ c.size → (∀ v ∈ vs, v.oneCell' = true) →
    ∃ w', (storeCells ⟨b, off, none⟩ vs i).run P w = .ok () w' ∧ RowSet w w' b (c.toList.take (off + i) ++ vs ++ c.toList.drop (off + i + vs.length)).toArray E fr
  | [], i, c, w, h, _, _, _ => ⟨w, by simp [storeCells], ⟨by simpa using h, fun _ _ => rfl, rfl, rfl, rfl, rfl⟩⟩
  | v :: rest, i, c, w, h, hf, hl, h1 => by
    simp only [List.length_cons] at hl
    have hs := run_store_row (P := P) (off := off + i) h hf (by omega) (h1 v (by simp))
    have hr := rowSet_setCell (off := off + i) h v
    obtain ⟨w', e1, e2⟩ := run_storeCells_row (b := b) (off := off) rest (i + 1) (c.setIfInBounds (off + i) v) _ hr.row (by simpa using hf) (by simp; omega) (fun x hx => h1 x (by simp [hx]))
    refine ⟨w', by simp only [storeCells, add_none, Sem.run_bind, hs, Result.andThen_ok, e1], ?_⟩
    have e := splice_step c.toList (off + i) v rest (by simp; omega)
    have e3 := e2.row
    simp only [Array.toList_setIfInBounds, ← Nat.add_assoc, List.length_cons] at e3 e
    rw [e] at e3
    exact ⟨by simpa [← Nat.add_assoc] using e3, fun k hk => (e2.other k hk).trans (hr.other k hk), e2.size.trans hr.size, e2.os.trans hr.os, e2.tape.trans hr.tape, e2.output.trans hr.output⟩

/-- An object's content exchanged. -/
theorem WRel.setObj {w' : World} (h : WRel Γ G ob nm w) {o b : Nat} {cs cs' : List V} {c c' : Array Value} {E : TypeId} {fr : Nat × Nat} (ho : ob[o]? = some (some cs)) (hb : G.H o = some b)
    (hw : w.heap[b]? = some (.cells c E fr)) (hs : RowSet w w' b c' E fr) (hsz : c'.size = c.size) (hl : cs'.length ≤ cs.length) (hr : Rels G cs' (c'.toList.take cs'.length)) : WRel Γ G (ob.set o (some cs')) nm w' := by
  obtain ⟨a1, ⟨c2, E2, fr2, e1, e2, e3, e4⟩, a3⟩ := h.hob o cs b ho hb
  have he : c2 = c ∧ E2 = E ∧ fr2 = fr := by rw [hw] at e1; simp at e1; exact ⟨e1.1.symm, e1.2.1.symm, e1.2.2.symm⟩
  obtain ⟨rfl, rfl, rfl⟩ := he
  have hlen : o < ob.length := (h.hlt o b hb).1
  exact {
    m := fun x off cv hm => by
      have hx : x ≠ b := fun hx => by rw [hx, a3] at hm; cases hm
      rw [cell_of_heap (w := w) (by exact hs.other x hx)]
      exact h.m _ _ _ hm
    hob := fun o' ds x h1 h2 => by
      by_cases hoo : o' = o
      · subst hoo
        rw [hb] at h2
        cases h2
        rw [List.getElem?_set_self hlen] at h1
        have h1 : cs' = ds := by simpa using h1
        subst h1
        exact ⟨a1, ⟨c', E2, fr2, hs.row, by rw [hsz]; exact e2, by rw [hsz]; omega, hr⟩, a3⟩
      · rw [List.getElem?_set_ne (Ne.symm hoo)] at h1
        have hx : x ≠ b := fun hx => hoo (h.inj o' o b (by rw [← hx]; exact h2) hb)
        obtain ⟨q1, ⟨q2, q3, q4, q5, q6⟩, q7⟩ := h.hob o' ds x h1 h2
        exact ⟨q1, ⟨q2, q3, q4, by rw [hs.other x hx]; exact q5, q6⟩, q7⟩
    hlt := fun o' x h1 => by simp [hs.size]; exact h.hlt o' x h1
    habs := fun o' h1 => by
      by_cases hoo : o' = o
      · subst hoo; rw [List.getElem?_set_self hlen] at h1; simp at h1
      · rw [List.getElem?_set_ne (Ne.symm hoo)] at h1; exact h.habs o' h1
    inj := h.inj
    hnm := fun n c x h1 h2 => (h.hnm n c x h1 h2).to (hs.other _ fun hx => (h.hnm n c x h1 h2).obj o (by rw [hx]; exact hb)) (fun _ _ h => h) (fun _ h => h) (fun _ h => h) (h.hnm n c x h1 h2).obj
    hno := h.hno
    nmd := h.nmd
    tabs := h.tabs
    tlt := h.tlt
    dd := h.dset hw hs.other
    kdle := by rw [hs.size]; exact h.kdle
    gl := h.gl
    mold := h.mold
    os := hs.os.trans h.os
    tape := hs.tape.trans h.tape
    output := hs.output.trans h.output
    size := by rw [hs.size]; exact h.size
    block := fun k hk => (hs.other k (W0.own_ne (by assumption) hk)).trans (h.block k hk) }

def V.allOne (v : V) : Bool := v.cells.all V.one
theorem V.ne_any {v : V} (h : v.allOne = true) : v ≠ .any := fun e => by subst e; simp [V.allOne, V.cells, V.one] at h
theorem VRel.cells_one {v : V} {cv : Value} (h : VRel G v cv) (h1 : v.allOne = true) : ∀ x ∈ cv.cells.toList, x.oneCell' = true := by
  intro x hx
  obtain ⟨j, hj⟩ := List.getElem?_of_mem hx
  have hr := h.cells (V.ne_any h1)
  have hlt : j < cv.cells.toList.length := by
    rcases Nat.lt_or_ge j cv.cells.toList.length with h' | h'
    · exact h'
    · simp [List.getElem?_eq_none h'] at hj
  have hv : v.cells[j]? = some (v.cells[j]'(by rw [← hr.1]; exact hlt)) := List.getElem?_eq_getElem _
  refine (hr.2 j _ x hv hj).oneCell ?_
  simp only [V.allOne, List.all_eq_true] at h1
  exact h1 _ (List.mem_of_getElem? hv)

/-- The objects behind a store. -/
def storeV (sz : Nat) (ob : Ob) : V → V → Option Ob
  | .ptr o off, v =>
    match ob[o]? with
    | some (some cs) => if v.allOne ∧ v.cells.length = sz ∧ off + sz ≤ cs.length then some (ob.set o (some (cs.take off ++ v.cells ++ cs.drop (off + sz)))) else none
    | _ => none
  | _, _ => none
theorem VRel.store {T : TypeId} {sz : Nat} (hs : tySize P T = some sz) (h : WRel Γ G ob nm w) {p v : V} {cp cv : Value} {ob' : Ob} (hp : VRel G p cp) (hv : VRel G v cv) (he : storeV sz ob p v = some ob') :
    ∃ a w', cp = .pointer (some a) ∧ (storeVar T a cv).run P w = .ok () w' ∧ WRel Γ G ob' nm w' := by
  cases p <;> simp only [storeV] at he <;> try cases he
  rename_i o off
  cases hp
  rename_i b hb
  split at he
  · rename_i cs hcs
    split at he
    · rename_i hc
      obtain ⟨h1, h2, h3⟩ := hc
      cases he
      obtain ⟨a1, ⟨c, E, fr, e1, e2, e3, e4⟩, a3⟩ := h.hob o cs b hcs hb
      have hr := hv.cells (V.ne_any h1)
      have hcl : cv.cells.size = sz := by have := hr.1; simp at this; omega
      obtain ⟨w', g1, g2⟩ := run_storeCells_row (P := P) (off := off) cv.cells.toList 0 c w e1 e2 (by simp [hcl]; omega) (hv.cells_one h1)
      refine ⟨_, w', rfl, ?_, ?_⟩
      · simp only [storeVar, Sem.run_bind, run_sizeOf hs, Result.andThen_ok, hcl, ne_eq, not_true_eq_false, ↓reduceIte]
        exact g1
      · simp only [Nat.add_zero, Array.length_toList, hcl] at g2
        refine h.setObj hcs hb e1 g2 (by simp [hcl]; omega) (by simp [h2]; omega) ?_
        have hlen : (cs.take off ++ v.cells ++ cs.drop (off + sz)).length = cs.length := by simp [h2]; omega
        rw [hlen]
        have e5 : (c.toList.take off ++ cv.cells.toList ++ c.toList.drop (off + sz)).take cs.length = (c.toList.take cs.length).take off ++ cv.cells.toList ++ (c.toList.take cs.length).drop (off + sz) := by
          rw [List.append_assoc, List.take_append, List.take_append, List.append_assoc]
          have l1 : (c.toList.take off).length = off := by simp; omega
          have l2 : cv.cells.toList.length = sz := by simp [hcl]
          rw [l1, l2, List.take_take, List.take_take, List.take_of_length_le (show cv.cells.toList.length ≤ cs.length - off by rw [l2]; omega), List.drop_take,
            show min cs.length off = off by omega, show min off cs.length = off by omega, show cs.length - off - sz = cs.length - (off + sz) by omega]
        simp only [List.toList_toArray]
        rw [e5]
        exact ((e4.take off).append hr).append (e4.drop (off + sz))
    · cases he
  · cases he
theorem SemV.store {o : Oper} {T : TypeId} {x y : Operand} {sz : Nat} {ob' : Ob} (ho : o.op = .store T x y) (hs : tySize P T = some sz) (he : storeV sz σ.ob (σ.eval Γ x) (σ.eval Γ y) = some ob') :
    SemV P Γ o σ (.tup []) (ob') σ.nm := by
  intro ro G a w K Q hr hk
  obtain ⟨ad, w', h1, h2, h3⟩ := VRel.store hs hr.wr (hr.eval x) (hr.eval y) he
  refine ⟨fun _ _ => trivial, ?_⟩
  have hrun : (execOp a.eval o).run P w = .ok .skip w' := by simp [execOp, ho, Instr.storeAt, h1, Instr.sureAddr, h2]
  rw [semAt_skip hrun]
  exact hk G _ w' (.refl G) (VRel.undef G) h3

/-! ### New variables -/
theorem SemV.alloc {o : Oper} {T : TypeId} {z : V} (ho : o.op = .alloc T) (hz : tyZero P T = some z) (hn : z ≠ .any) : SemV P Γ o σ (.ptr σ.ob.length 0) (σ.ob ++ [some z.cells]) σ.nm :=
  SemV.of_val (nm' := σ.nm) fun G a w hr => by
    obtain ⟨zv, h1, rfl⟩ := run_zero hz w
    have hc := (ofVal_rel G zv).cells hn
    obtain ⟨hle, hw⟩ := hr.wr.newObj (E := T) (cvs := zv.cells) hc
    refine ⟨.pointer (some ⟨w.heap.size, 0, none⟩), _, _, ?_, hle, .ptr (addH_new _ _ _), hw⟩
    simp [execOp, ho, Instr.alloc, h1, newVar, newRow, World.alloc_eq]
theorem SemV.box {o : Oper} {T : TypeId} {x : Operand} (ho : o.op = .box T x) (hn : σ.eval Γ x ≠ .any) : SemV P Γ o σ (.ptr σ.ob.length 0) (σ.ob ++ [some (σ.eval Γ x).cells]) σ.nm :=
  SemV.of_val (nm' := σ.nm) fun G a w hr => by
    have hc := (hr.eval x).cells hn
    obtain ⟨hle, hw⟩ := hr.wr.newObj (E := T) (cvs := (a.eval x).cells) hc
    refine ⟨.pointer (some ⟨w.heap.size, 0, none⟩), _, _, ?_, hle, .ptr (addH_new _ _ _), hw⟩
    simp [execOp, ho, Instr.box, newVar, newRow, World.alloc_eq]

/-! ### Addresses -/
def V.shift (d : Nat) : V → Option V
  | .ptr o off => some (.ptr o (off + d))
  | .pel xs k off => some (.pel xs k (off + d))
  | _ => none
theorem VRel.shift {p q : V} {cp : Value} {d : Nat} (hp : VRel G p cp) (h : p.shift d = some q) : ∃ b off, cp = .pointer (some ⟨b, off, none⟩) ∧ VRel G q (.pointer (some ⟨b, off + d, none⟩)) := by
  cases hp <;> simp only [V.shift] at h <;> try cases h
  case ptr o off b hb => exact ⟨_, _, rfl, .ptr hb⟩
  case pel xs k off b o0 sz cvs h1 h2 h3 h4 => exact ⟨_, _, rfl, by rw [Nat.add_assoc, Nat.add_assoc]; exact VRel.pel (k := k) (off := off + d) h1 h2 h3 h4⟩
/-- Where a field lies. -/
def fieldOff (P : Program) (T : TypeId) (f : Nat) : Option (Nat × Field) :=
  match P.underlying T with
  | some (.struct fs) => (fs[f]?).map fun x => (x.offset, x)
  | _ => none
theorem SemV.fieldAddr {o : Oper} {T : TypeId} {x : Operand} {f d sz : Nat} {fl : Field} {q : V} (ho : o.op = .fieldAddr T x f) (hf : fieldOff P T f = some (d, fl)) (hs : tySize P fl.type = some sz) (hz : sz ≠ 0) (hq : (σ.eval Γ x).shift d = some q) :
    SemV P Γ o σ q σ.ob σ.nm :=
  SemV.of_pure fun G a w hr => by
    obtain ⟨b, off, h1, h2⟩ := (hr.eval x).shift hq
    unfold fieldOff at hf
    split at hf
    · rename_i fs hu
      simp only [Option.map_eq_some_iff] at hf
      obtain ⟨y, hy, hy2⟩ := hf
      simp only [Prod.mk.injEq] at hy2
      obtain ⟨rfl, rfl⟩ := hy2
      refine ⟨_, ?_, h2⟩
      simp [execOp, ho, Instr.fieldAt, run_underlying hu, hy, h1, Instr.sureAddr, fieldPlace, run_sizeOf hs, hz, add_none]
    · cases hf
end
end Go.Proofs.Ytnjjkobijjdnbaa
