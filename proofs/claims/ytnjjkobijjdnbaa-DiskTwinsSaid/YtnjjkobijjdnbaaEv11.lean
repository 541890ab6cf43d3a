/- The evaluator of one operation: its value, what must hold, its effect. -/
import Derived.Test.YtnjjkobijjdnbaaEv10
set_option linter.unusedVariables false
set_option linter.unusedSimpArgs false
namespace Go.Proofs.Ytnjjkobijjdnbaa
open Go

/-- What an operation does to the memory beside its value: the objects and buffers it looks at, those it writes, those it lays behind the others. -/
structure Eff where
  ro : List Nat := []
  rn : List Nat := []
  wo : List (Nat × List V) := []
  wn : List (Nat × Bf) := []
  xo : List (Option (List V)) := []
  xn : List (Option Bf) := []
  blk : Option (Ob × Nm) := none   -- it looks at all that there is, and leaves this
  bl : Nat × Nat := (0, 0)   -- of the first ones it leaves all but these as they are
  ko : List Nat := []
  kn : List Nat := []
def Eff.pure : Eff := {}
def Eff.rd (o : Nat) : Eff := { ro := [o] }
def Eff.rds (os ns : List Nat) : Eff := { ro := os, rn := ns }
def Eff.wr (o : Nat) (cs : List V) : Eff := { ro := [o], wo := [(o, cs)] }
def Eff.mkO (o : Nat) (cs : List V) : Eff := { wo := [(o, cs)] }
def setsO : List (Nat × List V) → Ob → Ob
  | [], ob => ob
  | p :: ps, ob => setsO ps (ob.set p.1 (some p.2))
def setsN : List (Nat × Bf) → Nm → Nm
  | [], nm => nm
  | p :: ps, nm => setsN ps (nm.set p.1 (some p.2))
def Eff.ob (e : Eff) (ob : Ob) : Ob := match e.blk with | some p => p.1 | none => match e.xo with | [] => setsO e.wo ob | x :: xs => setsO e.wo ob ++ (x :: xs)
def Eff.nm (e : Eff) (nm : Nm) : Nm := match e.blk with | some p => p.2 | none => match e.xn with | [] => setsN e.wn nm | x :: xs => setsN e.wn nm ++ (x :: xs)
structure Out where
  chk : Bool
  sy : Bool
  v : V
  eff : Eff
def outP (v : V) : Option Out := some ⟨true, false, v, .pure⟩
def outO : Option V → Option Out
  | some v => some ⟨true, false, v, .pure⟩
  | none => none

section
variable {P : Program} {Γ : Nat → Option V} {G : Gh} {ob : Ob} {nm : Nm} {w : World} {σ : St}

/-- A new object at a place that is kept for it. -/
theorem WRel.newObjAt (h : WRel Γ G ob nm w) {s : Nat} (hs : ob[s]? = some none) {cs : List V} {cvs : Array Value} {E : TypeId} (hr : Rels G cs cvs.toList) :
    G.le (G.addH s w.heap.size) ∧ WRel Γ (G.addH s w.heap.size) (ob.set s (some cs)) nm (w.alloc (.cells cvs E)) := by
  have hnone : G.H s = none := h.habs s hs
  have hlt : s < ob.length := by
    rcases Nat.lt_or_ge s ob.length with h' | h'
    · exact h'
    · simp [List.getElem?_eq_none h'] at hs
  have hle := Gh.le_addH (b := w.heap.size) hnone
  have k := h.alloc (.cells cvs E)
  refine ⟨hle, ?_⟩
  exact {
    m := k.m
    hob := fun o cs' b h1 h2 => by
      by_cases ho : o = s
      · subst ho
        simp only [Gh.addH, if_true, Option.some.injEq] at h2
        subst h2
        rw [List.getElem?_set_self hlt] at h1
        have h1 : cs = cs' := by simpa using h1
        subst h1
        refine ⟨.inl h.size, ⟨cvs, E, (0, 0), heap_alloc_self w _, .inl rfl, by have := hr.1; simp at this; omega, ?_⟩, h.mnew⟩
        have hl : cvs.toList.take cs.length = cvs.toList := List.take_of_length_le (by rw [hr.1]; exact Nat.le_refl _)
        rw [hl]
        exact hr.mono hle
      · have h2' : G.H o = some b := by simpa [Gh.addH, ho] using h2
        rw [List.getElem?_set_ne (Ne.symm ho)] at h1
        obtain ⟨a1, ⟨c, E', fr, e1, e2, e3, e4⟩, a3⟩ := k.hob o cs' b h1 h2'
        exact ⟨a1, ⟨c, E', fr, e1, e2, e3, e4.mono hle⟩, a3⟩
    hlt := fun o b h1 => by
      by_cases ho : o = s
      · subst ho
        simp only [Gh.addH, if_true, Option.some.injEq] at h1
        subst h1
        simp; exact hlt
      · have h2' : G.H o = some b := by simpa [Gh.addH, ho] using h1
        have := h.hlt o b h2'
        simp; omega
    habs := fun o h1 => by
      by_cases ho : o = s
      · subst ho; rw [List.getElem?_set_self hlt] at h1; simp at h1
      · rw [List.getElem?_set_ne (Ne.symm ho)] at h1
        simpa [Gh.addH, ho] using h.habs o h1
    inj := fun o o' b h1 h2 => by
      simp only [Gh.addH] at h1 h2
      split at h1 <;> split at h2
      · omega
      · have := (h.hlt _ _ h2).2; have he : w.heap.size = b := Option.some.inj h1; omega
      · have := (h.hlt _ _ h1).2; have he : w.heap.size = b := Option.some.inj h2; omega
      · exact h.inj _ _ _ h1 h2
    hnm := fun n c x h1 h2 => (k.hnm n c x h1 h2).to rfl (fun _ _ h => h.mono hle) (fun _ h => h) (fun _ h => h) (fun o ho => by
      have hx := (h.hnm n c x h1 h2).lt
      simp only [Gh.addH] at ho
      split at ho
      · have he : w.heap.size = x.b := Option.some.inj ho
        omega
      · exact (h.hnm n c x h1 h2).obj o ho)
    hno := k.hno
    nmd := k.nmd
    tabs := k.tabs
    tlt := k.tlt
    dd := k.dd
    kdle := k.kdle
    gl := fun g v hg => (k.gl g v hg).mono' hle.toSub.bare
    mold := k.mold
    os := k.os
    tape := k.tape
    output := k.output
    size := k.size
    block := k.block }
theorem SemV.allocAt {o : Oper} {T : TypeId} {z : V} {s : Nat} (ho : o.op = .alloc T) (hz : tyZero P T = some z) (hn : z.notAny = true) (hs : σ.ob[s]? = some none) : SemV P Γ o σ (.ptr s 0) (σ.ob.set s (some z.cells)) σ.nm :=
  SemV.of_val fun G a w hr => by
    obtain ⟨zv, h1, rfl⟩ := run_zero hz w
    have hc := (ofVal_rel G zv).cells (V.notAny_ne hn)
    obtain ⟨hle, hw⟩ := hr.wr.newObjAt hs (E := T) (cvs := zv.cells) hc
    refine ⟨.pointer (some ⟨w.heap.size, 0, none⟩), _, _, ?_, hle, .ptr (addH_new _ _ _), hw⟩
    simp [execOp, ho, Instr.alloc, h1, newVar, Go.newRow, World.alloc_eq]
theorem SemV.boxAt {o : Oper} {T : TypeId} {x : Operand} {s : Nat} (ho : o.op = .box T x) (hn : (σ.eval Γ x).notAny = true) (hs : σ.ob[s]? = some none) : SemV P Γ o σ (.ptr s 0) (σ.ob.set s (some (σ.eval Γ x).cells)) σ.nm :=
  SemV.of_val fun G a w hr => by
    have hc := (hr.eval x).cells (V.notAny_ne hn)
    obtain ⟨hle, hw⟩ := hr.wr.newObjAt hs (E := T) (cvs := (a.eval x).cells) hc
    refine ⟨.pointer (some ⟨w.heap.size, 0, none⟩), _, _, ?_, hle, .ptr (addH_new _ _ _), hw⟩
    simp [execOp, ho, Instr.box, newVar, Go.newRow, World.alloc_eq]

/-! ### Elements by an index that is not known -/
def selV : List V → Int → Option V
  | [], _ => none
  | [x], _ => some x
  | x :: y :: rest, i => match selV (y :: rest) (i - 1) with | some r => mergeV (decide (i = 0)) x r | none => none
theorem selV_ok : ∀ (xs : List V) (i : Int) (z : V), selV xs i = some z → 0 ≤ i → ∀ x, xs[i.toNat]? = some x → ∀ (G : Gh) (cv : Value), VRel G x cv → VRel G z cv
  | [], i, z, h, _, x, hx, _, _, _ => by simp at hx
  | [y], i, z, h, h0, x, hx, G, cv, hr => by
    simp [selV] at h
    subst h
    have : i.toNat = 0 := by
      rcases Nat.eq_zero_or_pos i.toNat with h' | h'
      · exact h'
      · rw [List.getElem?_eq_none (by simp; omega)] at hx; cases hx
    rw [this] at hx
    simp at hx
    subst hx
    exact hr
  | y :: y' :: rest, i, z, h, h0, x, hx, G, cv, hr => by
    simp only [selV] at h
    split at h
    · rename_i r hsel
      have hm := mergeV_ok _ _ _ _ h G cv
      by_cases hi : i = 0
      · subst hi
        simp at hx
        subst hx
        exact hm (by simpa using hr)
      · have e : i.toNat = (i - 1).toNat + 1 := by omega
        rw [e] at hx
        simp only [List.getElem?_cons_succ] at hx
        have := selV_ok (y' :: rest) (i - 1) r hsel (by omega) x hx G cv hr
        exact hm (by simpa [hi] using this)
    · cases h

def V.isAgg : V → Bool
  | .agg _ => true
  | _ => false
/-- The address of an element: what must hold, whether that is known, and the address. -/
def idxX (sz : Nat) (n : Option Nat) (p : V) (i : Int) (s : Bool) : Option (Bool × Bool × V) :=
  match s with
  | false => match idxV sz n p i with | some q => some (true, false, q) | none => none
  | true =>
    match n, p with
    | none, .lst t xs =>
      match xs with
      | [] => none
      | x :: rest =>
        match selV (x :: rest) i with
        | some z => if (x :: rest).all (fun y => y.cells.length == sz) && (z.cells.length == sz && ((x :: rest).all V.one && z.one || (x :: rest).all V.isAgg && z.isAgg)) then some (decide (0 ≤ i ∧ i < ((x :: rest).length : Int)), true, .pel [z] 0 0) else none
        | none => none
    | some (m + 1), .pel ys k off =>
      match ys[k]? with
      | some y =>
        match selV ((List.range (m + 1)).map fun j => V.agg ((y.cells.drop (off + j * sz)).take sz)) i with
        | some z => if z.isAgg && z.cells.length == sz && decide (off + (m + 1) * sz ≤ y.cells.length) then some (decide (0 ≤ i ∧ i < ((m + 1 : Nat) : Int)), true, .pel [z] 0 0) else none
        | none => none
      | none => none
    | _, _ => none
theorem SemV.indexX {o : Oper} {T e : TypeId} {x y : Operand} {n : Option Nat} {sz : Nat} {k : IntKind} {i : Int} {s c : Bool} {q : V} (ho : o.op = .indexAddr T x y) (ht : tyElem P T = some (n, e)) (hs : tySize P e = some sz) (hy : (σ.eval Γ y).int? = some (k, i, s))
    (hq : idxX sz n (σ.eval Γ x) i s = some (true, c, q)) : SemV P Γ o σ q σ.ob σ.nm := by
  cases s with
  | false =>
    simp only [idxX] at hq
    split at hq
    · rename_i q' hq'
      cases hq
      refine SemV.indexAddr (k := k) ho ht hs ?_ hq'
      generalize σ.eval Γ y = v at hy
      cases v <;> simp [V.int?] at hy
      obtain ⟨rfl, rfl⟩ := hy
      rfl
    · cases hq
  | true =>
    simp only [idxX] at hq
    split at hq <;> try cases hq
    case h_2 m ys k' off hxl =>
      split at hq <;> try cases hq
      rename_i yv hyv
      split at hq <;> try cases hq
      rename_i z hz
      split at hq
      · rename_i hall
        simp only [Bool.and_eq_true, beq_iff_eq, decide_eq_true_eq] at hall
        simp only [Option.some.injEq, Prod.mk.injEq, decide_eq_true_eq] at hq
        obtain ⟨⟨h0, h1⟩, _, rfl⟩ := hq
        refine SemV.of_pure fun G a w hr => ?_
        have hiy := int?_eq hy (hr.eval y)
        have hx := hr.eval x
        rw [hxl] at hx
        have hu := tyElem_array ht
        generalize he : a.eval x = c at hx
        cases hx with
        | @pel _ _ _ b o0 sz0 cvs g1 g2 g3 g4 =>
          have hym : yv ∈ ys := List.mem_of_getElem? hyv
          have hi : i.toNat < m + 1 := by omega
          have hfl : ∀ j v, yv.cells[j]? = some v → (flat ys)[k' * sz0 + j]? = some v := flat_get g1 hyv
          have hlen2 : (flat ys).length = ys.length * sz0 := flat_length g1
          have hk' : k' < ys.length := by
            rcases Nat.lt_or_ge k' ys.length with h' | h'
            · exact h'
            · simp [List.getElem?_eq_none h'] at hyv
          have hkk : k' * sz0 + sz0 ≤ ys.length * sz0 := by rw [← Nat.succ_mul]; exact Nat.mul_le_mul_right _ hk'
          have hys : yv.cells.length = sz0 := g1 _ hym
          have hoff : off + (m + 1) * sz ≤ yv.cells.length := hall.2
          have his : i.toNat * sz + sz ≤ (m + 1) * sz := by rw [← Nat.succ_mul]; exact Nat.mul_le_mul_right _ hi
          generalize hE : i.toNat * sz = E at *
          have hwhole : VRel G (.agg ((yv.cells.drop (off + E)).take sz)) (.agg ((cvs.drop (k' * sz0 + (off + E))).take sz).toArray) := by
            refine VRel.mk_agg ⟨by simp [g2, hlen2]; omega, fun j v cv q1 q2 => ?_⟩
            simp only [List.getElem?_take] at q1 q2
            split at q1
            · rename_i hj
              simp only [hj, if_true] at q2
              rw [List.getElem?_drop] at q1 q2
              have := hfl _ _ q1
              rw [← Nat.add_assoc] at this
              exact g4 _ _ _ this q2
            · cases q1
          have hget : ((List.range (m + 1)).map fun j => V.agg ((yv.cells.drop (off + j * sz)).take sz))[i.toNat]? = some (V.agg ((yv.cells.drop (off + E)).take sz)) := by
            rw [List.getElem?_map, List.getElem?_range hi, ← hE]
            rfl
          have hz' := selV_cells hz h0 hget (.inr ⟨rfl, hall.1.1⟩) hwhole
          refine ⟨.pointer (some ⟨b, o0 + (k' * sz0 + off) + E, none⟩), ?_, ?_⟩
          · have h1' : i < (m : Int) + 1 := by omega
            simp [execOp, ho, Instr.indexAt, hiy, asIntOf, run_underlying hu, he, Instr.sureAddr, h0, h1', run_sizeOf hs, add_none, hE]
          · have := VRel.pel (G := G) (xs := [z]) (k := 0) (off := 0) (b := b) (o0 := o0 + (k' * sz0 + off) + E) (sz := sz) (cvs := (cvs.drop (k' * sz0 + (off + E))).take sz)
              (by simpa using hall.1.2) (by rw [List.length_take, List.length_drop, g2, hlen2, show flat [z] = z.cells by simp [flat], hall.1.2]; omega)
              (fun j cv q1 => by
                rw [List.getElem?_take] at q1
                split at q1
                · rw [List.getElem?_drop] at q1
                  have := g3 _ _ q1
                  rw [← this]
                  congr 1
                  omega
                · cases q1)
              (fun j v cv q1 q2 => by
                have q1 : z.cells[j]? = some v := by simpa [flat] using q1
                exact hz'.2 j v cv q1 q2)
            simpa using this
      · cases hq
    rename_i t xs hxl
    split at hq <;> try cases hq
    rename_i x0 rest
    split at hq <;> try cases hq
    rename_i z hz
    split at hq
    · rename_i hall
      simp only [Option.some.injEq, Prod.mk.injEq, decide_eq_true_eq] at hq
      obtain ⟨⟨h0, h1⟩, _, rfl⟩ := hq
      refine SemV.of_pure fun G a w hr => ?_
      have hiy := int?_eq hy (hr.eval y)
      have hx := hr.eval x
      rw [hxl] at hx
      have hu := tyElem_slice ht
      generalize he : a.eval x = c at hx
      simp only [Bool.and_eq_true, Bool.or_eq_true, beq_iff_eq] at hall
      have hall1 := hall.1
      simp only [List.all_eq_true, beq_iff_eq] at hall1
      generalize hL : (x0 :: rest) = L at *
      have hlt : i.toNat < L.length := by omega
      cases hx with
      | lst0 => simp at hlt
      | lst1 => simp at hlt
      | @lst _ _ b off cap sz0 cvs g1 g2 g3 g4 g5 g6 =>
        have hget : L[i.toNat]? = some L[i.toNat] := List.getElem?_eq_getElem hlt
        have hmem : L[i.toNat] ∈ L := List.getElem_mem hlt
        have hsz : sz0 = sz := (g1 _ hmem).symm.trans (hall1 _ hmem)
        subst hsz
        refine ⟨.pointer (some ⟨b, off + i.toNat * sz0, none⟩), ?_, ?_⟩
        · simp [execOp, ho, Instr.indexAt, hiy, asIntOf, run_underlying hu, he, h0, h1, run_sizeOf hs, add_none]
        · -- the element alone is a row of its own
          have hfl : ∀ j v, (L[i.toNat]).cells[j]? = some v → (flat L)[i.toNat * sz0 + j]? = some v := flat_get g1 hget
          have hlen2 : (flat L).length = L.length * sz0 := flat_length g1
          have hkk : i.toNat * sz0 + sz0 ≤ L.length * sz0 := by rw [← Nat.succ_mul]; exact Nat.mul_le_mul_right _ hlt
          have hwhole : VRel G (.agg (L[i.toNat]).cells) (.agg ((cvs.drop (i.toNat * sz0)).take sz0).toArray) := by
            refine VRel.mk_agg ⟨by simp [g2, hlen2, hall1 _ hmem]; omega, fun j v cv q1 q2 => ?_⟩
            simp only [List.getElem?_take] at q2
            split at q2
            · rw [List.getElem?_drop] at q2
              exact g4 _ _ _ (hfl j v q1) q2
            · cases q2
          have hz' := selV_cells hz h0 hget (hall.2.2.imp (fun q => ⟨List.all_eq_true.1 q.1 _ hmem, q.2⟩) (fun q => ⟨List.all_eq_true.1 q.1 _ hmem, q.2⟩)) hwhole
          have := VRel.pel (G := G) (xs := [z]) (k := 0) (off := 0) (b := b) (o0 := off + i.toNat * sz0) (sz := sz0) (cvs := (cvs.drop (i.toNat * sz0)).take sz0)
            (by simpa using hall.2.1) (by rw [List.length_take, List.length_drop, g2, hlen2, show flat [z] = z.cells by simp [flat], hall.2.1]; omega)
            (fun j cv q1 => by
              rw [List.getElem?_take] at q1
              split at q1
              · rw [List.getElem?_drop] at q1
                have := g3 _ _ q1
                rwa [← Nat.add_assoc] at this
              · cases q1)
            (fun j v cv q1 q2 => by
              have q1 : z.cells[j]? = some v := by simpa [flat] using q1
              exact hz'.2 j v cv q1 q2)
          simpa using this
    · cases hq
where
  selV_cells {xs : List V} {i : Int} {z x : V} {cvs : List Value} {G : Gh} (h : selV xs i = some z) (h0 : 0 ≤ i) (hx : xs[i.toNat]? = some x) (hk : (x.one = true ∧ z.one = true) ∨ (x.isAgg = true ∧ z.isAgg = true)) (hr : VRel G (.agg x.cells) (.agg cvs.toArray)) : Rels G z.cells cvs := by
    obtain ⟨c, e, hc⟩ := hr.agg_form
    have e : cvs.toArray = c := by cases e; rfl
    subst e
    have hc : Rels G x.cells cvs := by simpa using hc
    rcases hk with ⟨k1, k2⟩ | ⟨k1, k2⟩
    · have e1 : x.cells = [x] := by cases x <;> simp [V.one, V.cells] at k1 ⊢
      have e2 : z.cells = [z] := by cases z <;> simp [V.one, V.cells] at k2 ⊢
      rw [e1] at hc
      rw [e2]
      match cvs, hc.1 with
      | [cv], _ => exact Rels.cons (selV_ok xs i z h h0 x hx G cv (hc.2 0 x cv rfl rfl)) (Rels.nil G)
    · obtain ⟨cs, rfl⟩ : ∃ cs, x = .agg cs := by cases x <;> simp [V.isAgg] at k1 ⊢
      obtain ⟨zs, rfl⟩ : ∃ cs, z = .agg cs := by cases z <;> simp [V.isAgg] at k2 ⊢
      have hv : VRel G (.agg cs) (.agg cvs.toArray) := VRel.mk_agg (by simpa [V.cells] using hc)
      have := selV_ok xs i _ h h0 _ hx G _ hv
      obtain ⟨c, e, hc⟩ := this.agg_form
      have e : cvs.toArray = c := by cases e; rfl
      subst e
      simpa [V.cells] using hc
end
end Go.Proofs.Ytnjjkobijjdnbaa
