/- Conversions; a string's bytes. -/
import Derived.Test.YtnjjkobijjdnbaaEv11f
import Derived.Laws.BytesArg
set_option linter.unusedVariables false
set_option linter.unusedSimpArgs false
namespace Go.Proofs.Ytnjjkobijjdnbaa
open Go

section
variable {P : Program} {Γ : Nat → Option V} {G : Gh} {ob : Ob} {nm : Nm} {w : World} {σ : St}
theorem SemV.conv_int {o : Oper} {S D : TypeId} {x : Operand} {d : TypeDesc} {k k' : IntKind} {n : Int} {s : Bool} (ho : o.op = .convert S D x) (hs : P.underlying S = some d) (hd : P.underlying D = some (.int k')) (hx : (σ.eval Γ x).int? = some (k, n, s)) :
    SemV P Γ o σ (mkI s k' (k'.wrap n)) σ.ob σ.nm :=
  SemV.of_pure fun G a w hr => by
    have hxi := int?_eq hx (hr.eval x)
    refine ⟨.int k' (k'.wrap n), ?_, mkI_rel _ _ _ _⟩
    cases d <;> simp [execOp, ho, hxi, convert, run_underlying hs, run_underlying hd, Conv.intToInt]
theorem SemV.conv_str {o : Oper} {S D : TypeId} {x : Operand} {s : ByteArray} {b : Bool} (ho : o.op = .convert S D x) (hs : P.underlying S = some .string) (hd : P.underlying D = some .string) (hx : (σ.eval Γ x).str? = some (s, b)) : SemV P Γ o σ (mkS b s) σ.ob σ.nm :=
  SemV.of_pure fun G a w hr => by
    have hxi := str?_eq hx (hr.eval x)
    exact ⟨.string s, by simp [execOp, ho, hxi, convert, run_underlying hs, run_underlying hd], mkS_rel _ _ _⟩
theorem rels_u8 {k : IntKind} : ∀ {l : List Int} {cvs : List Value}, Rels G (l.map (V.si k)) cvs → cvs = l.map (Value.int k)
  | [], cvs, h => List.length_eq_zero_iff.1 h.1
  | n :: l, cvs, h => by
    match cvs, h.1 with
    | c :: cs, _ =>
      have h0 := h.2 0 _ c rfl rfl
      cases h0
      rw [List.map_cons, rels_u8 (l := l) (cvs := cs) (by simpa using h.drop 1)]
theorem Ys.bytes {tx e : TypeId} {cy : Value} {l : List Int} (hk : P.underlying tx = some (.slice e)) (h : Ys P G w 1 tx cy (l.map (V.si .u8))) (hsl : ∃ a n c, cy = .slice a n c) : (Conv.bytesToString cy).run P w = .ok (.string (strOfNums l)) w := by
  obtain ⟨news, hs, hr⟩ := h.src
  rw [flat_si] at hr
  have hn := rels_u8 hr
  subst hn
  obtain ⟨a, n, c, rfl⟩ := hsl
  have hlen := hs.len w
  have hcells := hs.cells
  simp only [List.length_map] at hlen hcells
  have hn : n = l.length := by simpa [Builtin.lenOf] using hlen
  subst hn
  cases a with
  | none =>
    have : l = [] := by
      have e1 : (#[] : Array Value) = (l.map (Value.int .u8)).toArray := by simpa [Builtin.firstCells] using hcells
      have := congrArg Array.size e1
      simp at this
      exact List.length_eq_zero_iff.1 this.symm
    subst this
    simp [Conv.bytesToString, strOfNums]
    rfl
  | some a =>
    have hl : (loadCells a l.length).run P w = .ok (l.map (Value.int .u8)).toArray w := by simpa [Builtin.firstCells] using hcells
    rw [run_bytesToString w a l.length c l hl, foldl_push_bytes]
    simp [strOfNums, ByteArray.empty, ByteArray.emptyWithCapacity]
    rfl
/-- Bytes that are known, or not. -/
def BC.bytes (c : BC) : Option (List Int) :=
  match c with
  | .arr ty l => listAs (.int .u8) l
  | .cs _ xs => optMap (whole (Ty.ofC (.int .u8))) xs
theorem SemV.conv_bytes {o : Oper} {S D e : TypeId} {x : Operand} {b : BC} {rn : List Nat} {l : List Int} (ho : o.op = .convert S D x) (hs : P.underlying S = some (.slice e)) (he : P.underlying e = some (.int .u8)) (hd : P.underlying D = some .string)
    (hx : ysE P 1 S (σ.eval Γ x) σ.nm = some (b, rn)) (hb : b.bytes = some l) (hstr : (σ.eval Γ x).str? = none) (sy : Bool) : SemV P Γ o σ (mkS sy (strOfNums l)) σ.ob σ.nm :=
  SemV.of_pure fun G a w hr => by
    obtain ⟨hz, hY⟩ := ysE_ok hx
    have hy := hY G a w hr
    have hy2 : Ys P G w 1 S (a.eval x) (l.map (V.si .u8)) := by
      cases b with
      | arr ty l0 =>
        have e := listAs_eq hb
        have : (l.map (V.si .u8)) = l0.map ty.val := e
        rw [this]
        exact hy
      | cs sz xs => exact hy.conv (ty := .int .u8) rfl hb
    have hsl : ∃ p n c, a.eval x = .slice p n c := by
      have hrx := hr.eval x
      unfold ysE at hx
      rw [hstr] at hx
      simp only [] at hx
      split at hx
      · generalize σ.eval Γ x = v at hx hrx
        generalize a.eval x = cv at hrx
        cases v <;> simp at hx
        · obtain ⟨p, c, h⟩ := hrx.slice_form; exact ⟨_, _, _, h⟩
        · cases hrx with | slst q => obtain ⟨p, c, h⟩ := q.slice_form; exact ⟨_, _, _, h⟩
        · cases hrx <;> exact ⟨_, _, _, rfl⟩
      · cases hx
    have hrun := hy2.bytes hs hsl
    obtain ⟨p, n, c, hc⟩ := hsl
    rw [hc] at hrun
    refine ⟨.string (strOfNums l), ?_, mkS_rel _ _ _⟩
    have := run_convert_bytes_string (P := P) w S D e p n c hs he hd
    simp [execOp, ho, hc, this, hrun]
/-- A byte of a string. -/
def byteAt (s : ByteArray) (i : Nat) : Int := ((s.data.getD i 0).toNat : Nat)
theorem SemV.index_strX {o : Oper} {T : TypeId} {x y : Operand} {k : IntKind} {i : Int} {s : ByteArray} {b b' : Bool} (ho : o.op = .index T x y) (ht : P.underlying T = some .string) (hx : (σ.eval Γ x).str? = some (s, b)) (hy : (σ.eval Γ y).int? = some (k, i, b')) (hi : 0 ≤ i ∧ i < (s.size : Int)) :
    SemV P Γ o σ (mkI (b || b') .u8 (byteAt s i.toNat)) σ.ob σ.nm :=
  SemV.of_pure fun G a w hr => by
    have hxs := str?_eq hx (hr.eval x)
    have hyi := int?_eq hy (hr.eval y)
    refine ⟨.int .u8 (byteAt s i.toNat), ?_, mkI_rel _ _ _ _⟩
    have h2 : i.toNat < s.size := by omega
    have hrun := run_index_string (P := P) w T s k i ht
    rw [dif_pos hi] at hrun
    have e : (s[i.toNat]'h2).toNat = (s.data.getD i.toNat 0).toNat := by
      have h3 : i.toNat < s.data.size := h2
      have h4 : s.data.getD i.toNat 0 = s.data[i.toNat] := by unfold Array.getD; rw [dif_pos h3]; rfl
      rw [h4]
      rfl
    rw [e] at hrun
    simp [execOp, ho, hxs, hyi, hrun, byteAt]
/-- A conversion, reckoned. -/
def allKnown : BC → Bool
  | .arr _ _ => false
  | .cs _ xs => xs.all fun v => match v with | .i _ _ => true | _ => false
def cnvX (P : Program) (S D : TypeId) (x : V) (nm : Nm) : Option Out :=
  match P.underlying S, P.underlying D with
  | some sd, some (.int k') => match x.int? with | some (_, n, s) => outP (mkI s k' (k'.wrap n)) | none => none
  | some .string, some .string => match x.str? with | some (s, b) => outP (mkS b s) | none => none
  | some (.slice e), some .string =>
    match P.underlying e with
    | some (.int .u8) =>
      match x.str? with
      | some _ => none
      | none =>
        match ysE P 1 S x nm with
        | some (b, rn) => match b.bytes with | some l => some ⟨true, false, mkS (!allKnown b) (strOfNums l), .rds [] rn⟩ | none => none
        | none => none
    | _ => none
  | _, _ => none
theorem SemV.cnvX {o : Oper} {S D : TypeId} {x : Operand} {out : Out} (ho : o.op = .convert S D x) (h : cnvX P S D (σ.eval Γ x) σ.nm = some out) : SemV P Γ o σ out.v (out.eff.ob σ.ob) (out.eff.nm σ.nm) := by
  unfold Go.Proofs.Ytnjjkobijjdnbaa.cnvX at h
  split at h
  · rename_i sd k' hs hd
    split at h
    · rename_i k n s hx
      cases h
      exact SemV.conv_int ho hs hd hx
    · cases h
  · rename_i hs hd
    split at h
    · rename_i s b hx
      cases h
      exact SemV.conv_str ho hs hd hx
    · cases h
  · rename_i e hs hd
    split at h
    · rename_i he
      split at h
      · cases h
      · rename_i hstr
        split at h
        · rename_i b rn hy
          split at h
          · rename_i l hb
            cases h
            exact SemV.conv_bytes ho hs he hd hy hb hstr _
          · cases h
        · cases h
    · cases h
  · cases h
def idxS (P : Program) (T : TypeId) (x y : V) : Option Out :=
  match P.underlying T with
  | some .string =>
    match x.str?, y.int? with
    | some (s, b), some (_, i, b') => some ⟨decide (0 ≤ i ∧ i < (s.size : Int)), b || b', mkI (b || b') .u8 (byteAt s i.toNat), .pure⟩
    | _, _ => none
  | _ => none
theorem SemV.idxS {o : Oper} {T : TypeId} {x y : Operand} {out : Out} (ho : o.op = .index T x y) (h : idxS P T (σ.eval Γ x) (σ.eval Γ y) = some out) (hchk : out.chk = true) : SemV P Γ o σ out.v (out.eff.ob σ.ob) (out.eff.nm σ.nm) := by
  unfold Go.Proofs.Ytnjjkobijjdnbaa.idxS at h
  split at h
  · rename_i ht
    split at h
    · rename_i s b k i b' hx hy
      cases h
      exact SemV.index_strX ho ht hx hy (of_decide_eq_true hchk)
    · cases h
  · cases h
end
end Go.Proofs.Ytnjjkobijjdnbaa
