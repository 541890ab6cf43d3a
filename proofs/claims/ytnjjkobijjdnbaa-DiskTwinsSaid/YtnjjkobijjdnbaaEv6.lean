/- Elements, parts, comparisons, conversions. -/
import Derived.Test.YtnjjkobijjdnbaaEv5
set_option linter.unusedVariables false
set_option linter.unusedSimpArgs false
namespace Go.Proofs.Ytnjjkobijjdnbaa
open Go

section
variable {P : Program} {Γ : Nat → Option V} {G : Gh} {ob : Ob} {nm : Nm} {w : World} {σ : St}

theorem VRel.agg_form {cs : List V} {cv : Value} (h : VRel G (.agg cs) cv) : ∃ c, cv = .agg c ∧ Rels G cs c.toList := by
  cases h
  rename_i c hl h
  exact ⟨c, rfl, by simpa using hl, fun j v cv h1 h2 => h j v cv h1 (by simpa using h2)⟩
theorem VRel.mk_agg {cs : List V} {c : Array Value} (h : Rels G cs c.toList) : VRel G (.agg cs) (.agg c) := .agg (by simpa using h.1) (fun j v cv h1 h2 => h.2 j v cv h1 (by simpa using h2))

theorem run_part {T : TypeId} {agg : Bool} {sz off : Nat} {cs : List V} {c : Array Value} {v : V} (ha : tyAgg P T = some agg) (hs : tySize P T = some sz) (hr : Rels G cs c.toList) (h : getV agg sz cs off = some v) (w : World) :
    ∃ cv, (part T c off).run P w = .ok cv w ∧ VRel G v cv := by
  unfold getV at h
  cases agg with
  | false =>
    simp at h
    obtain ⟨cv, h1, h2⟩ := hr.of_get h
    have h1 : c[off]? = some cv := by simpa using h1
    exact ⟨cv, by simp [part, run_isAgg ha, h1], h2⟩
  | true =>
    simp at h
    obtain ⟨hle, rfl⟩ := h
    refine ⟨.agg (c.extract off (off + sz)), by simp [part, run_isAgg ha, run_sizeOf hs], VRel.mk_agg ?_⟩
    have : (c.extract off (off + sz)).toList = (c.toList.drop off).take sz := by
      rw [Array.toList_extract, List.extract_eq_take_drop]
      congr 1
      omega
    rw [this]
    exact (hr.drop off).take sz
def tyField (P : Program) (T : TypeId) (f : Nat) : Option Field :=
  match P.underlying T with
  | some (.struct fs) => fs[f]?
  | _ => none
theorem run_tyField {T : TypeId} {f : Nat} {fl : Field} (h : tyField P T f = some fl) : ∃ fs, P.underlying T = some (.struct fs) ∧ fs[f]? = some fl := by
  unfold tyField at h
  split at h
  · rename_i fs hu; exact ⟨fs, hu, h⟩
  · cases h
theorem SemV.field {o : Oper} {T : TypeId} {x : Operand} {f sz : Nat} {fl : Field} {agg : Bool} {cs : List V} {v : V} (ho : o.op = .field T x f) (hf : tyField P T f = some fl) (ha : tyAgg P fl.type = some agg) (hs : tySize P fl.type = some sz)
    (hx : σ.eval Γ x = .agg cs) (hv : getV agg sz cs fl.offset = some v) : SemV P Γ o σ v σ.ob σ.nm :=
  SemV.of_pure fun G a w hr => by
    obtain ⟨fs, hu, hfs⟩ := run_tyField hf
    have h := hr.eval x
    rw [hx] at h
    obtain ⟨c, he, hc⟩ := h.agg_form
    obtain ⟨cv, h1, h2⟩ := run_part ha hs hc hv w
    exact ⟨cv, by simp [execOp, ho, Instr.field, run_underlying hu, hfs, he, asAgg, h1], h2⟩

/-- The element type of a slice or an array, and the array's length. -/
def tyElem (P : Program) (T : TypeId) : Option (Option Nat × TypeId) :=
  match P.underlying T with
  | some (.slice e) => some (none, e)
  | some (.array n e) => some (some n, e)
  | _ => none
theorem tyElem_slice {T e : TypeId} (h : tyElem P T = some (none, e)) : P.underlying T = some (.slice e) := by
  unfold tyElem at h
  split at h <;> simp at h
  subst h
  assumption
theorem tyElem_array {T e : TypeId} {n : Nat} (h : tyElem P T = some (some n, e)) : P.underlying T = some (.array n e) := by
  unfold tyElem at h
  split at h <;> simp at h
  obtain ⟨rfl, rfl⟩ := h
  assumption

/-- The address of an element. -/
def idxV (sz : Nat) : Option Nat → V → Int → Option V
  | some n, p, i => if 0 ≤ i ∧ i < (n : Int) then p.shift (i.toNat * sz) else none
  | none, .lst _ xs, i =>
    if 0 ≤ i then
      match xs[i.toNat]? with
      | some x => if x.cells.length = sz then some (.pel xs i.toNat 0) else none
      | none => none
    else none
  | none, .sl o off len, i => if 0 ≤ i ∧ i < (len : Int) then some (.ptr o (off + i.toNat * sz)) else none
  | _, _, _ => none
theorem SemV.indexAddr {o : Oper} {T e : TypeId} {x y : Operand} {n : Option Nat} {sz : Nat} {k : IntKind} {i : Int} {q : V} (ho : o.op = .indexAddr T x y) (ht : tyElem P T = some (n, e)) (hs : tySize P e = some sz) (hy : σ.eval Γ y = .i k i)
    (hq : idxV sz n (σ.eval Γ x) i = some q) : SemV P Γ o σ q σ.ob σ.nm :=
  SemV.of_pure fun G a w hr => by
    have hiy := hr.eval y
    rw [hy] at hiy
    have hiy := hiy.int_eq
    have hx := hr.eval x
    cases n with
    | some n =>
      simp only [idxV] at hq
      split at hq
      · rename_i hi
        obtain ⟨b, off, h1, h2⟩ := hx.shift hq
        refine ⟨_, ?_, h2⟩
        simp [execOp, ho, Instr.indexAt, hiy, asIntOf, run_underlying (tyElem_array ht), h1, Instr.sureAddr, hi, run_sizeOf hs, add_none]
      · cases hq
    | none =>
      have hu := tyElem_slice ht
      generalize hv : σ.eval Γ x = v at hq hx
      generalize he : a.eval x = c at hx
      cases v <;> simp only [idxV] at hq <;> try cases hq
      case lst t xs =>
        split at hq
        · rename_i hi
          split at hq
          · rename_i z hz
            split at hq
            · rename_i hzz
              cases hq
              have hlt : i.toNat < xs.length := by
                rcases Nat.lt_or_ge i.toNat xs.length with h' | h'
                · exact h'
                · simp [List.getElem?_eq_none h'] at hz
              cases hx with
              | lst0 => simp at hlt
              | lst1 => simp at hlt
              | lst h1 h2 h3 h4 h5 h6 =>
                rename_i b off cap sz0 cvs
                have hsz : sz0 = sz := (h1 z (List.mem_of_getElem? hz)).symm.trans hzz
                subst hsz
                refine ⟨_, ?_, VRel.pel (k := i.toNat) (off := 0) h1 h2 h3 h4⟩
                have h7 : i < (xs.length : Int) := by omega
                simp [execOp, ho, Instr.indexAt, hiy, asIntOf, run_underlying hu, he, hi, h7, run_sizeOf hs, add_none]
            · cases hq
          · cases hq
        · cases hq
      case sl o' off len =>
        split at hq
        · rename_i hi
          cases hq
          cases hx
          rename_i b cap hb hc
          refine ⟨_, ?_, VRel.ptr (off := off + i.toNat * sz) hb⟩
          simp [execOp, ho, Instr.indexAt, hiy, asIntOf, run_underlying hu, he, hi, run_sizeOf hs, add_none]
        · cases hq

/-- An element of an array's value, or of a string. -/
theorem SemV.index_arr {o : Oper} {T e : TypeId} {x y : Operand} {n sz : Nat} {agg : Bool} {k : IntKind} {i : Int} {cs : List V} {v : V} (ho : o.op = .index T x y) (ht : tyElem P T = some (some n, e)) (ha : tyAgg P e = some agg) (hs : tySize P e = some sz)
    (hx : σ.eval Γ x = .agg cs) (hy : σ.eval Γ y = .i k i) (h0 : 0 ≤ i) (h1 : i < (n : Int)) (hv : getV agg sz cs (i.toNat * sz) = some v) : SemV P Γ o σ v σ.ob σ.nm :=
  SemV.of_pure fun G a w hr => by
    have hiy := hr.eval y
    rw [hy] at hiy
    have hiy := hiy.int_eq
    have h := hr.eval x
    rw [hx] at h
    obtain ⟨c, he, hc⟩ := h.agg_form
    obtain ⟨cv, h2, h3⟩ := run_part ha hs hc hv w
    exact ⟨cv, by simp [execOp, ho, Instr.index, hiy, asIntOf, run_underlying (tyElem_array ht), he, h0, h1, run_sizeOf hs, h2], h3⟩
theorem SemV.index_str {o : Oper} {T : TypeId} {x y : Operand} {k : IntKind} {i : Int} {s : ByteArray} (ho : o.op = .index T x y) (ht : P.underlying T = some .string) (hx : σ.eval Γ x = .s s) (hy : σ.eval Γ y = .i k i) (h0 : 0 ≤ i) (h1 : i.toNat < s.size) :
    SemV P Γ o σ (.i .u8 (s[i.toNat]'h1).toNat) σ.ob σ.nm :=
  SemV.of_pure fun G a w hr => by
    have hiy := hr.eval y
    rw [hy] at hiy
    have hiy := hiy.int_eq
    have h := hr.eval x
    rw [hx] at h
    have h := h.str_eq
    refine ⟨_, ?_, .i _ _⟩
    have hg : s[i.toNat]? = some (s[i.toNat]'h1) := by simp [h1]
    simp [execOp, ho, Instr.index, hiy, asIntOf, run_underlying ht, h, h0, hg]

/-! ### nil checks, unary operators -/
theorem SemV.nilCheck {o : Oper} {x : Operand} (ho : o.op = .nilCheck x) (hx : ∃ v d, (σ.eval Γ x).shift d = some v) : SemV P Γ o σ (σ.eval Γ x) σ.ob σ.nm :=
  SemV.of_pure fun G a w hr => by
    obtain ⟨v, d, hx⟩ := hx
    obtain ⟨b, off, h1, h2⟩ := (hr.eval x).shift hx
    exact ⟨.pointer (some ⟨b, off, none⟩), by simp [execOp, ho, h1], by rw [← h1]; exact hr.eval x⟩
theorem SemV.nilCheck_fn {o : Oper} {x : Operand} {f : FuncId} {p q : List V} (ho : o.op = .nilCheck x) (hx : σ.eval Γ x = .fn (.func f) p q) : SemV P Γ o σ (σ.eval Γ x) σ.ob σ.nm :=
  SemV.of_pure fun G a w hr => by
    have h := hr.eval x
    rw [hx] at h ⊢
    generalize he : a.eval x = c at h
    cases h with
    | fn h1 h2 h3 h4 => exact ⟨_, by simp only [execOp, ho, he]; rfl, .fn h1 h2 h3 h4⟩
def unV (op : UnOp) (v : V) : Option V :=
  match v.bool?, op with
  | some (x, s), .not => some (mkB s (!x))
  | some _, _ => none
  | none, _ =>
    match v.int?, op with
    | some (k, n, s), .neg => some (mkI s k (k.wrap (0 - n)))
    | some (k, n, s), .xor => some (mkI s k (k.wrap (BitVec.ofInt k.bits (if k.signed then -1 else k.max) ^^^ BitVec.ofInt k.bits n).toNat))
    | _, _ => none
theorem SemV.unOp {o : Oper} {op : UnOp} {T : TypeId} {x : Operand} {v : V} (ho : o.op = .unOp op T x) (hv : unV op (σ.eval Γ x) = some v) : SemV P Γ o σ v σ.ob σ.nm :=
  SemV.of_pure fun G a w hr => by
    have h := hr.eval x
    generalize he : a.eval x = c at h
    generalize σ.eval Γ x = y at h hv
    unfold unV at hv
    split at hv
    · rename_i p s _ hp
      have := bool?_eq hp h
      subst this
      cases hv
      exact ⟨_, by simp only [execOp, ho, he]; rfl, mkB_rel _ _ _⟩
    · cases hv
    · split at hv
      · rename_i k n s _ hp
        have := int?_eq hp h
        subst this
        cases hv
        exact ⟨_, by simp only [execOp, ho, he]; rfl, mkI_rel _ _ _ _⟩
      · rename_i k n s _ hp
        have := int?_eq hp h
        subst this
        cases hv
        exact ⟨_, by simp only [execOp, ho, he]; rfl, mkI_rel _ _ _ _⟩
      · cases hv

/-! ### Binary operators -/
theorem run_eqGuard_none {op : BinOp} {T : TypeId} {x y : Operand} {p q : Value} (h : (∀ a b, ¬ (p = .agg a ∧ q = .agg b)) ∧ ¬ (p = .nilIface ∧ q = .nilIface)) (w : World) : (eqGuard op T x y p q).run P w = .ok () w := by
  obtain ⟨h1, h2⟩ := h
  cases p <;> cases q <;> first
    | exact absurd ⟨rfl, rfl⟩ h2
    | exact absurd ⟨rfl, rfl⟩ (h1 _ _)
    | (cases op <;> rfl)
theorem SemV.binOp {o : Oper} {op : BinOp} {T T' : TypeId} {x y : Operand} {v : V} {c : Bool} (ho : o.op = .binOp op T x y T') (hv : binX op (σ.eval Γ x) (σ.eval Γ y) = some (true, c, v)) : SemV P Γ o σ v σ.ob σ.nm :=
  SemV.of_pure fun G a w hr => by
    have hx := hr.eval x
    have hy := hr.eval y
    obtain ⟨⟨cv, h1, h2⟩, hg⟩ := binX_run (P := P) T hx hy hv w
    exact ⟨cv, by simp [execOp, ho, run_eqGuard_none hg w, h1], h2⟩
end
end Go.Proofs.Ytnjjkobijjdnbaa
