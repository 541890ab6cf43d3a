/- Parts of the library of texts, one after the other: Ev11i, Ev13a, Ev14, Ev15, Ev15a, Ev15b, Ev16, Ev17, Ev21, Ev22, Ev23. -/
import Derived.Test.YtofbchcclkejgaaTOe
import Derived.Lib.Builder
import Derived.Laws.Externs
import Derived.Lib.UnsafeStr
/- A typed pointer through unsafe.Pointer; bytes as a string that shares them. -/
set_option linter.unusedVariables false
set_option linter.unusedSimpArgs false
namespace Go.Proofs.Ytofbchcclkejgaa
open Go
section
variable {P : Program} {Γ : Nat → Option V} {G : Gh} {ob : Ob} {nm : Nm} {w : World} {σ : St}
theorem tyFact_inj {E E' : TypeId} {n n' : Nat} (h : tyFact E n = tyFact E' n') : E = E' ∧ n = n' := by
 unfold tyFact at h
 injection h with h1 h2 h3
 refine ⟨h2, ?_⟩
 have := congrArg Array.size h1
 simpa using this
theorem WRel.shape (h : WRel Γ G ob nm w) {b : Nat} {E n : Nat} (hd : G.D b = some (tyFact E n)) : w.shape? b = some (E, n) := by
 obtain ⟨n', c', fr', h1, h2, h3⟩ := (h.dd b _ hd).1
 obtain ⟨_, rfl⟩ := tyFact_inj h1
 simp [World.shape?, h2, h3]
def tpC (P : Program) (S D : TypeId) (E n o : Nat) : Option Out :=
 match P.underlying S, P.underlying D with
 | some (.pointer t), some .unsafePointer => match P.info? t with | some j => if j.size ≠ 0 ∧ 0 < n then outP (.tp E n o) else none | none => none
 | some .unsafePointer, some (.pointer u) => match P.info? u with | some j => if liesAt P P.depth E (n / P.cellsOf E) 0 u 1 = true then outP (.tp E n o) else none | none => none
 | _, _ => none
theorem SemV.tpC {o : Oper} {S D : TypeId} {x : Operand} {E n o' : Nat} {out : Out} (ho : o.op = .convert S D x) (hx : σ.eval Γ x = .tp E n o') (h : tpC P S D E n o' = some out) : SemV P Γ o σ out.v (out.eff.ob σ.ob) (out.eff.nm σ.nm) := by
 unfold Go.Proofs.Ytofbchcclkejgaa.tpC at h
 split at h
 · rename_i t hs hd
   split at h
   · rename_i j hj
     split at h
     · rename_i hc
       cases h
       refine SemV.of_pure fun G a w hr => ?_
       have hxx := hr.eval x
       rw [hx] at hxx
       generalize he : a.eval x = cv at hxx
       have hxx2 := hxx
       cases hxx with
       | @tp _ _ _ b hb hD =>
        refine ⟨_, ?_, hxx2⟩
        have := Lib.run_to_unsafe (P := P) w (⟨b, 0, none⟩ : Addr) hs hd hj hc.1 (hr.wr.shape hD) hc.2
        simp [execOp, ho, he, this]
     · cases h
   · cases h
 · rename_i u hs hd
   split at h
   · rename_i j hj
     split at h
     · rename_i hc
       cases h
       refine SemV.of_pure fun G a w hr => ?_
       have hxx := hr.eval x
       rw [hx] at hxx
       generalize he : a.eval x = cv at hxx
       have hxx2 := hxx
       cases hxx with
       | @tp _ _ _ b hb hD =>
        refine ⟨_, ?_, hxx2⟩
        have := Lib.run_from_unsafe (P := P) w (⟨b, 0, none⟩ : Addr) hs hd hj (hr.wr.shape hD) hc
        simp [execOp, ho, he, this]
     · cases h
   · cases h
 · cases h
theorem find_noEsc (fn : Func) (h : fn.name = "internal/abi.NoEscape") : Extern.find fn = some Extern.AbiNoEscape.same := by
 unfold Extern.find
 rw [h]
 have h1 : Extern.allGenericRows.lookup "internal/abi.NoEscape" = none := by kernel_rfl
 have h2 : Extern.allTypedRows.lookup "internal/abi.NoEscape" = none := by kernel_rfl
 have h3 : Extern.allRows.lookup "internal/abi.NoEscape" = some Extern.AbiNoEscape.same := by kernel_rfl
 simp only [h1, h2, h3, Option.map_none]
 rfl
theorem findNext_noEsc (fn : Func) (h : fn.name = "internal/abi.NoEscape") (ho : fn.origin = "internal/abi.NoEscape" ∨ fn.origin = "") : Extern.findNext fn = none := by
 unfold Extern.findNext
 rw [h]
 have h1 : Extern.allNextRows.lookup "internal/abi.NoEscape" = none := by kernel_rfl
 have h2 : Extern.allNextRows.lookup "" = none := by kernel_rfl
 rcases ho with ho | ho <;> rw [ho] <;> simp only [h1, h2, Option.map_none] <;> rfl
def isNoEsc (P : Program) (g : FuncId) : Bool :=
 match P.funcs[g]? with
 | some fn => fn.body.isNone && fn.name == "internal/abi.NoEscape" && (fn.origin == "internal/abi.NoEscape" || fn.origin == "")
 | none => false
theorem SemV.noEsc {o : Oper} {c : Call} {f x : Operand} {g : FuncId} (ho : o.op = .call c) (hc : c.callee = .value f) (ha : c.args.toList = [x]) (hf : σ.eval Γ f = .fn (.func g) [] []) (hg : isNoEsc P g = true) : SemV P Γ o σ (σ.eval Γ x) σ.ob σ.nm := by
 unfold isNoEsc at hg
 split at hg
 · rename_i fn hfn
   simp only [Bool.and_eq_true, Bool.or_eq_true, beq_iff_eq] at hg
   obtain ⟨⟨hb, hn⟩, hor⟩ := hg
   refine SemV.of_pure fun G a w hr => ?_
   have hff := hr.eval f
   rw [hf] at hff
   generalize he : a.eval f = cv at hff
   cases hff with
   | @fn _ _ _ p q h1 h2 h3 h4 =>
    have hp : p = #[] := Array.eq_empty_of_size_eq_zero h1
    have hq : q = #[] := Array.eq_empty_of_size_eq_zero h2
    subst hp hq
    have hca : c.args.map a.eval = #[a.eval x] := by apply Array.ext'; simp [ha]
    refine ⟨a.eval x, ?_, hr.eval x⟩
    have := run_callFunc_extern (P := P) hfn (by rw [hn]; decide) hb (findNext_noEsc fn hn hor) (find_noEsc fn hn) #[a.eval x] w
    rw [Lib.run_noEscape] at this
    simp [execOp, ho, resolve, hc, he, Deferred.ofValue, invoke, hca, this, Result.andThen]
 · cases hg
theorem u8_flat (sy : Bool) (E : TypeId) : ∀ l : List Int, flat (BC.u8 sy E l).els = (BC.u8 sy E l).els
 | [] => rfl
 | x :: l => by
  have ih := u8_flat sy E l
  simp only [BC.els] at ih ⊢
  rw [List.map_cons, flat_cons, ih]
  cases sy <;> rfl
theorem u8_get (sy : Bool) (E : TypeId) {l : List Int} {i : Nat} {x : Int} (h : l[i]? = some x) : ∃ v, (BC.u8 sy E l).els[i]? = some v ∧ ∀ (G : Gh) (cv : Value), VRel G v cv → cv = .int .u8 x := by
 cases sy
 · exact ⟨.i .u8 x, by simp only [BC.els, List.getElem?_map, h, Option.map_some], fun G cv hr => by cases hr; rfl⟩
 · exact ⟨.si .u8 x, by simp only [BC.els, List.getElem?_map, h, Option.map_some], fun G cv hr => by cases hr; rfl⟩
theorem liesAt_byte {e : TypeId} (hc : P.cellsOf e = 1) (count off n : Nat) (hn : off + n ≤ count) : liesAt P P.depth e count off e n = true := by
 have hd : P.depth = (2 * (P.types.size + Made.depth) + 1) + 1 := rfl
 rw [hd]
 simp only [liesAt, Bool.or_eq_true]
 left
 rw [hd]
 simp [rowAt, hc, hn, sameLayout, Nat.mod_one]
theorem run_loadInts : ∀ (l : List Int) (a : Addr) (acc : ByteArray), (∀ j x, l[j]? = some x → w.cell? (a.add j) = some (.int .u8 x)) →
 (loadBytes a acc l.length).run P w = .ok ⟨acc.data ++ (l.map fun b => b.toNat.toUInt8).toArray⟩ w
 | [], a, acc, _ => by simp [loadBytes]
 | x :: l, a, acc, h => by
  have h0 : w.cell? a = some (.int .u8 x) := by
   have := h 0 x rfl
   simpa [Addr.add] using this
  have ih := run_loadInts l (a.add 1) (acc.push x.toNat.toUInt8) (fun j y hy => by
   have := h (j + 1) y (by simpa using hy)
   have e : (a.add 1).add j = a.add (j + 1) := by
    unfold Addr.add
    by_cases hj : j = 0
    · subst hj; simp
    · simp [hj]; omega
   rw [e]; exact this)
  simp only [List.length_cons, loadBytes, Sem.run_bind, run_load, h0, Result.andThen]
  rw [ih]
  congr 1
  apply ByteArray.ext
  simp [ByteArray.push]
theorem rowSet_freeze {b off n : Nat} {c : Array Value} {E : TypeId} {fr : Nat × Nat} (h : w.heap[b]? = some (.cells c E fr)) : ∃ fr', RowSet w (w.freeze ⟨b, off, none⟩ n) b c E fr' := by
 unfold World.freeze
 split
 · exact ⟨fr, ⟨h, fun _ _ => rfl, rfl, rfl, rfl, rfl⟩⟩
 · refine ⟨if fr.1 = fr.2 then (off, off + n) else (min fr.1 off, max fr.2 (off + n)), ⟨by simp [Array.getElem?_modify, h], fun k hk => by simp [Array.getElem?_modify, Ne.symm hk], by simp, rfl, rfl, rfl⟩⟩
def V.isSl : V → Bool
 | .lst _ _ => true
 | .slst _ _ _ => true
 | .bs _ _ _ _ => true
 | .nls => true
 | .els => true
 | _ => false
theorem VRel.isSl_form {G : Gh} {v : V} {cv : Value} (h : VRel G v cv) (hs : v.isSl = true) : ∃ p len cap, cv = .slice p len cap := by
 have lform : ∀ {t : Tag} {xs : List V} {cv : Value}, VRel G (.lst t xs) cv → ∃ p len cap, cv = .slice p len cap := fun h => by
  cases h with
  | lst0 => exact ⟨_, _, _, rfl⟩
  | lst1 p cap => exact ⟨_, _, _, rfl⟩
  | lst => exact ⟨_, _, _, rfl⟩
 cases v <;> simp [V.isSl] at hs
 · exact lform h
 · cases h with | slst h => exact lform h
 · cases h with
   | bs0 => exact ⟨_, _, _, rfl⟩
   | bs1 => exact ⟨_, _, _, rfl⟩
   | bs => exact ⟨_, _, _, rfl⟩
 · cases h; exact ⟨_, _, _, rfl⟩
 · cases h; exact ⟨_, _, _, rfl⟩
def nilX (P : Program) (op : BinOp) (T : TypeId) (x : V) : Option Out :=
 match P.underlying T, (op == .eql || op == .neq) with
 | some (.slice _), true =>
  match x with
  | .nls => outP (.b (op == .eql))
  | .els => outP (.b (op == .neq))
  | .lst _ (_ :: _) => outP (.b (op == .neq))
  | .slst _ _ l => some ⟨decide (0 < l.length), true, .b (op == .neq), .pure⟩
  | .bs sy _ _ len => some ⟨decide (0 < len), sy, .b (op == .neq), .pure⟩
  | _ => none
 | _, _ => none
theorem run_nilEq {T e : TypeId} (hu : P.underlying T = some (.slice e)) {op : BinOp} (hop : (op == .eql || op == .neq) = true) (p : Option Addr) (l c : Nat) (w : World) :
 (Go.binOp op T (.slice p l c) (.slice none 0 0)).run P w = .ok (.bool (match p with | none => op == .eql | some _ => op == .neq)) w := by
 have h1 : (Op.equal T (.slice p l c) (.slice none 0 0)).run P w = .ok p.isNone w := by
  have h0 : ∀ d, (Op.equalIn (d + 1) T (.slice p l c) (.slice none 0 0)).run P w = .ok p.isNone w := fun d => by
   cases p <;> simp [Op.equalIn, run_underlying hu]
  exact h0 9999
 have hop' : op = .eql ∨ op = .neq := by simpa using hop
 rcases hop' with rfl | rfl <;> cases p <;> simp [Go.binOp, h1] <;> rfl
theorem SemV.nilX {o : Oper} {op : BinOp} {T T' : TypeId} {x : Operand} {out : Out} (ho : o.op = .binOp op T x (.const (.slice none 0 0)) T') (h : nilX P op T (σ.eval Γ x) = some out) (hchk : out.chk = true) : SemV P Γ o σ out.v (out.eff.ob σ.ob) (out.eff.nm σ.nm) := by
 unfold Go.Proofs.Ytofbchcclkejgaa.nilX at h
 split at h
 · rename_i e hu hop
   have key : ∀ (b : Bool), (∀ (G : Gh) (a : Act) (w : World), Rel Γ G σ a w → ∃ p l c, a.eval x = .slice p l c ∧ (match p with | none => op == .eql | some _ => op == .neq) = b) → SemV P Γ o σ (.b b) σ.ob σ.nm := fun b hb =>
    SemV.of_pure fun G a w hr => by
     obtain ⟨p, l, c, he, hbb⟩ := hb G a w hr
     have hrun := run_nilEq (P := P) hu hop p l c w
     have hg : (eqGuard op T x (.const (.slice none 0 0)) (.slice p l c) (.slice none 0 0)).run P w = .ok () w :=
      run_eqGuard_none ⟨(fun p q hh => by cases hh.1), (fun hh => by cases hh.1)⟩ w
     refine ⟨.bool b, ?_, .b b⟩
     have hc : a.eval (.const (.slice none 0 0)) = .slice none 0 0 := rfl
     simp [execOp, ho, he, hc, hg, hrun, hbb]
   have lform : ∀ {G : Gh} {t : Tag} {v : V} {vs : List V} {cv : Value}, VRel G (.lst t (v :: vs)) cv → ∃ a l c, cv = .slice (some a) l c := fun h => by
    cases h with
    | lst => exact ⟨_, _, _, rfl⟩
   split at h
   · rename_i hx
     cases h
     refine key _ fun G a w hr => ?_
     have hxx := hr.eval x
     rw [hx] at hxx
     generalize a.eval x = cv at hxx
     cases hxx
     exact ⟨_, _, _, rfl, rfl⟩
   · rename_i hx
     cases h
     refine key _ fun G a w hr => ?_
     have hxx := hr.eval x
     rw [hx] at hxx
     generalize a.eval x = cv at hxx
     cases hxx
     exact ⟨_, _, _, rfl, rfl⟩
   · rename_i t v vs hx
     cases h
     refine key _ fun G a w hr => ?_
     have hxx := hr.eval x
     rw [hx] at hxx
     obtain ⟨b, l, c, e1⟩ := lform hxx
     exact ⟨_, _, _, e1, rfl⟩
   · rename_i t ty l hx
     cases h
     have h0 : 0 < l.length := of_decide_eq_true hchk
     refine key _ fun G a w hr => ?_
     have hxx := hr.eval x
     rw [hx] at hxx
     generalize a.eval x = cv at hxx
     cases hxx with
     | slst q =>
      match l, h0, q with
      | z :: l', _, q =>
       obtain ⟨b, m, c, e1⟩ := lform (v := ty.val z) (vs := l'.map ty.val) q
       exact ⟨_, _, _, e1, rfl⟩
   · rename_i sy n off len hx
     cases h
     have h0 : 0 < len := of_decide_eq_true hchk
     refine key _ fun G a w hr => ?_
     have hxx := hr.eval x
     rw [hx] at hxx
     generalize a.eval x = cv at hxx
     cases hxx with
     | bs0 => exact absurd h0 (Nat.lt_irrefl _)
     | bs1 => exact absurd h0 (Nat.lt_irrefl _)
     | bs => exact ⟨_, _, _, rfl, rfl⟩
   · cases h
 · cases h
def sl0X (P : Program) (T : TypeId) (x h m : V) : Option Out :=
 match tyElem P T with
 | some (none, el) =>
  match tySize P el, x.isSl, h.int?, m.int? with
  | some _, true, some (_, 0, _), some (_, 0, _) => outP (.lst .full [])
  | _, _, _, _ => none
 | _ => none
theorem SemV.sl0X {o : Oper} {T : TypeId} {x h m : Operand} {out : Out} (ho : o.op = .slice T x none (some h) (some m)) (hh : sl0X P T (σ.eval Γ x) (σ.eval Γ h) (σ.eval Γ m) = some out) : SemV P Γ o σ out.v (out.eff.ob σ.ob) (out.eff.nm σ.nm) := by
 unfold Go.Proofs.Ytofbchcclkejgaa.sl0X at hh
 split at hh
 · rename_i el hel
   split at hh
   · rename_i sz k s k' s' hsz hsl hi hm
     cases hh
     refine SemV.of_pure fun G a w hr => ?_
     obtain ⟨p, len, cap, he⟩ := (hr.eval x).isSl_form hsl
     have h1 := int?_eq hi (hr.eval h)
     have h2 := int?_eq hm (hr.eval m)
     have hu := tyElem_slice hel
     refine ⟨.slice p 0 0, ?_, .lst0 _ _⟩
     simp [execOp, ho, he, h1, h2, Instr.sliceAt, Instr.slice, run_underlying hu, Instr.sliceBounds, Instr.sliceBound, asIntOf, run_sizeOf hsz]
   · cases hh
 · cases hh
def tasX (P : Program) (T : TypeId) (ok : Bool) (x : V) : Option Out :=
 match P.underlying T with
 | some (.interface _) => none
 | some _ =>
  match x with
  | .ifc t v => match Nat.beq t T, ok with | true, true => outP (.tup [v, .b true]) | true, false => outP v | false, _ => none
  | _ => none
 | none => none
theorem SemV.tasX {o : Oper} {X T : TypeId} {ok : Bool} {x : Operand} {out : Out} (ho : o.op = .typeAssert x X T ok) (h : tasX P T ok (σ.eval Γ x) = some out) : SemV P Γ o σ out.v (out.eff.ob σ.ob) (out.eff.nm σ.nm) := by
 unfold Go.Proofs.Ytofbchcclkejgaa.tasX at h
 split at h
 · cases h
 · rename_i d hni hu
   split at h
   · rename_i t v hx
     split at h
     · rename_i ht
       obtain rfl := Nat.eq_of_beq_eq_true ht
       cases h
       refine SemV.of_pure fun G a w hr => ?_
       have hxx := hr.eval x
       rw [hx] at hxx
       generalize he : a.eval x = cv at hxx
       cases hxx with
       | @ifc _ _ v' hv =>
        refine ⟨.tuple #[v', .bool true], ?_, .tup rfl fun j u cu h1 h2 => ?_⟩
        · cases hd : d <;> first | (subst hd; exact (hni _ rfl).elim) | (subst hd; simp [execOp, ho, he, Instr.typeAssert, run_underlying hu])
        · rcases j with _ | _ | j
          · simp at h1 h2; subst h1 h2; exact hv
          · simp at h1 h2; subst h1 h2; exact .b true
          · simp at h1
     · rename_i ht
       obtain rfl := Nat.eq_of_beq_eq_true ht
       cases h
       refine SemV.of_pure fun G a w hr => ?_
       have hxx := hr.eval x
       rw [hx] at hxx
       generalize he : a.eval x = cv at hxx
       cases hxx with
       | @ifc _ _ v' hv =>
        refine ⟨v', ?_, hv⟩
        cases hd : d <;> first | (subst hd; exact (hni _ rfl).elim) | (subst hd; simp [execOp, ho, he, Instr.typeAssert, run_underlying hu])
     · cases h
   · cases h
 · cases h
def sldX (P : Program) (x : V) (nm : Nm) : Option Out :=
 match x with
 | .nls => outP .nil
 | .bs sy n off len =>
  match nm[n]? with
  | some (some (.live (.u8 _ _ _))) => some ⟨decide (0 < len), sy, .bp n off 0, .rds [] [n]⟩
  | _ => none
 | _ => none
theorem SemV.sldX {o : Oper} {c : Call} {x : Operand} {out : Out} (ho : o.op = .call c) (hc : c.callee = .builtin .unsafeSliceData) (ha : c.args.toList = [x]) (h : sldX P (σ.eval Γ x) σ.nm = some out) (hchk : out.chk = true) : SemV P Γ o σ out.v (out.eff.ob σ.ob) (out.eff.nm σ.nm) := by
 unfold Go.Proofs.Ytofbchcclkejgaa.sldX at h
 have hca : ∀ a : Act, c.args.map a.eval = #[a.eval x] := fun a => by apply Array.ext'; simp [ha]
 split at h
 · rename_i hx
   cases h
   refine SemV.of_pure fun G a w hr => ?_
   have hxx := hr.eval x
   rw [hx] at hxx
   generalize he : a.eval x = cv at hxx
   cases hxx with
   | nls => exact ⟨.pointer none, by simp [execOp, ho, resolve, hc, invoke, Go.builtin, hca, he, Lib.run_unsafeSliceData_nil], .nil⟩
 · rename_i sy n off len hx
   split at h
   · rename_i sy1 E l hn
     cases h
     have h0 : 0 < len := of_decide_eq_true hchk
     refine SemV.of_pure fun G a w hr => ?_
     have hxx := hr.eval x
     rw [hx] at hxx
     generalize he : a.eval x = cv at hxx
     cases hxx with
     | bs0 => exact absurd h0 (Nat.lt_irrefl _)
     | bs1 => exact absurd h0 (Nat.lt_irrefl _)
     | @bs _ _ _ _ t hT hl =>
      have B := hr.wr.hnm n _ t hn hT
      have hcap := B.cap
      refine ⟨_, ?_, VRel.bp (i := off) (off := 0) hT⟩
      have := Lib.run_unsafeSliceData_row (P := P) (w := w) c.argTypes o.type ⟨t.b, t.lo + off * t.sz, none⟩ len (t.cap - off) (by omega)
      simp [execOp, ho, resolve, hc, invoke, Go.builtin, hca, he, this]
   · cases h
 · cases h
def usStrX (P : Program) (ts : Array TypeId) (x y : V) (nm : Nm) : Option Out :=
 match ts.toList with
 | [pt, _] =>
  match P.underlying pt with
  | some (.pointer e) =>
   match Nat.beq (P.cellsOf e) 1, x, y.int? with
   | _, .nil, some (.i64, len, _) => some ⟨decide (len = 0), false, .s .empty, .pure⟩
   | true, .bp n off 0, some (.i64, len, s) =>
    match nm[n]? with
    | some (some (.live (.u8 sy E l))) =>
     match Nat.beq E e with
     | true => some ⟨decide (0 < len ∧ len ≤ 9223372036854775807 ∧ off + len.toNat ≤ l.length), sy || s, mkS (sy || s) (strOfNums ((l.drop off).take len.toNat)), { rn := [n], wn := [(n, .dead)] }⟩
     | false => none
    | _ => none
   | _, _, _ => none
  | _ => none
 | _ => none
theorem SemV.usStr {o : Oper} {c : Call} {x y : Operand} {out : Out} (ho : o.op = .call c) (hc : c.callee = .builtin .unsafeString) (ha : c.args.toList = [x, y]) (h : usStrX P c.argTypes (σ.eval Γ x) (σ.eval Γ y) σ.nm = some out) (hchk : out.chk = true) : SemV P Γ o σ out.v (out.eff.ob σ.ob) (out.eff.nm σ.nm) := by
 unfold usStrX at h
 split at h
 · rename_i pt it hts
   have hts : c.argTypes = #[pt, it] := by apply Array.ext'; simpa using hts
   split at h
   · rename_i e hp
     split at h
     · rename_i len s hx hy
       cases h
       obtain rfl : len = 0 := of_decide_eq_true hchk
       refine SemV.of_pure fun G a w hr => ?_
       have hxx := hr.eval x
       rw [hx] at hxx
       generalize he : a.eval x = cv at hxx
       have hyi := int?_eq hy (hr.eval y)
       cases hxx with
       | nil =>
        have hca : c.args.map a.eval = #[a.eval x, a.eval y] := by apply Array.ext'; simp [ha]
        refine ⟨.string .empty, ?_, .s _⟩
        have := Lib.run_unsafeString_none (P := P) (w := w) pt it o.type none
        simp [execOp, ho, resolve, hc, invoke, Go.builtin, hca, hts, he, hyi, this]
     · rename_i n off len s hce hx hy
       have hce := Nat.eq_of_beq_eq_true hce
       split at h
       · rename_i sy E l hn
         split at h
         · rename_i hE
           obtain rfl := Nat.eq_of_beq_eq_true hE
           cases h
           obtain ⟨h0, h63, hl⟩ := of_decide_eq_true hchk
           refine SemV.of_val fun G a w hr => ?_
           have hxx := hr.eval x
           rw [hx] at hxx
           generalize he : a.eval x = cv at hxx
           have hyi := int?_eq hy (hr.eval y)
           cases hxx with
           | @bp _ _ _ t hT =>
            have B := hr.wr.hnm n _ t hn hT
            obtain ⟨cvs, E', fr, e1, e2, e3, e4⟩ := B.row
            obtain ⟨c2, f2, e5⟩ := B.u8 E rfl
            rw [e1] at e5
            cases e5
            have hsz : t.sz = 1 := B.sz
            have hBl : l.length = t.len := B.len
            have hcap := B.cap
            rw [hsz] at e3
            have hca : c.args.map a.eval = #[a.eval x, a.eval y] := by apply Array.ext'; simp [ha]
            obtain ⟨L, rfl⟩ : ∃ L : Nat, len = L := ⟨len.toNat, by omega⟩
            rw [Int.toNat_natCast] at hl ⊢
            have hk := hr.wr.kill hn
            have hlive : ∀ (m : Nat) (c1 : BC) (x1 : Tail), (σ.nm.set n (some Bf.dead))[m]? = some (some (Bf.live c1)) → G.T m = some x1 → x1.b ≠ t.b := fun m c1 x1 h1 h2 => by
             by_cases hm : m = n
             · subst hm
               rw [List.getElem?_set_self (append_room.get_lt'' hn)] at h1
               cases h1
             · rw [List.getElem?_set_ne (Ne.symm hm)] at h1
               exact hr.wr.nmd m n c1 _ x1 t hm h1 hn h2 hT
            obtain ⟨fr', rs⟩ := rowSet_freeze (off := t.lo + (off * t.sz + 0)) (n := L) e1
            have hw' := hk.row rs B.old (fun o cv hm => by have := hr.wr.m _ _ _ hm; rwa [cell_row e1] at this) B.obj hlive (hk.dset e1 rs.row rfl rs.other)
            have hcell : ∀ j x, ((l.drop off).take L)[j]? = some x → w.cell? ((⟨t.b, t.lo + (off * t.sz + 0), none⟩ : Addr).add j) = some (.int .u8 x) := fun j x hj => by
             rw [List.getElem?_take] at hj
             split at hj
             · rename_i hjL
               rw [List.getElem?_drop] at hj
               rw [add_none, cell_row e1]
               have hfl := u8_flat sy E l
               rw [hfl] at e4
               obtain ⟨v0, hv, hv2⟩ := u8_get sy E hj
               obtain ⟨cv, hcv, hrel⟩ := e4.of_get hv
               have hcv2 : cvs[t.lo + (off + j)]? = some cv := by
                rw [List.getElem?_take] at hcv
                split at hcv
                · rw [List.getElem?_drop] at hcv; simpa using hcv
                · cases hcv
               have : cv = .int .u8 x := hv2 G cv hrel
               rw [← this, ← hcv2, hsz]
               congr 1
               omega
             · cases hj
            have hll : ((l.drop off).take L).length = L := by simp; omega
            have hlb := run_loadInts (P := P) (w := w) ((l.drop off).take L) ⟨t.b, t.lo + (off * t.sz + 0), none⟩ .empty hcell
            rw [hll] at hlb
            have hsh : w.shape? t.b = some (E, cvs.size) := by simp [World.shape?, e1]
            have hlies := liesAt_byte (P := P) hce (cvs.size / P.cellsOf E) (t.lo + (off * t.sz + 0)) L (by rw [hce, hsz, Nat.div_one]; omega)
            generalize hq : t.lo + (off * t.sz + 0) = q at he hw' hlb hlies
            have hrun : (Builtin.unsafeString_ #[pt, it] o.type #[.pointer (some ⟨t.b, q, none⟩), .int .i64 L]).run P w = .ok (.string (strOfNums ((l.drop off).take L))) (w.freeze ⟨t.b, q, none⟩ L) := by
             have hdef : ∀ a : Addr, Builtin.unsafeString_ #[pt, it] o.type #[.pointer (some a), .int .i64 L] =
              (do
               let n ← asInt (.int .i64 L)
               if n < 0 then runtimePanic (.error "unsafe.String: len out of range")
               if n > IntKind.i64.max then unsupported (.unsafePointer "String: a length above the largest int")
               if n = 0 then pure (.string .empty)
               else if ← variablesAt a (← elemOf pt) n.toNat then do
                let s ← loadBytes a .empty n.toNat
                freeze a n.toNat
                pure (.string s)
               else unsupported (.unsafePointer "String: not so many bytes at ptr")) := fun a => rfl
             rw [hdef]
             have hmax : IntKind.i64.max = 9223372036854775807 := rfl
             have h1 : ¬ (9223372036854775807 : Int) < (L : Int) := by omega
             have h2 : ¬ (L : Int) < 0 := by omega
             have h3 : ¬ L = 0 := by omega
             simp [asInt, asIntOf, hmax, h1, h2, h3, variablesAt, hsh, elemOf, run_underlying hp, hlies, hlb, strOfNums]
            refine ⟨.string (strOfNums ((l.drop off).take L)), _, G, ?_, .refl G, mkS_rel _ _ _, hw'⟩
            simp [execOp, ho, resolve, hc, invoke, Go.builtin, hca, hts, he, hyi, hrun]
         · cases h
       · cases h
     · cases h
   · cases h
 · cases h
end
end Go.Proofs.Ytofbchcclkejgaa

/- The evaluator of one operation with lists of plain data and buffers. -/
set_option linter.unusedVariables false
set_option linter.unusedSimpArgs false
namespace Go.Proofs.Ytofbchcclkejgaa
open Go
def V.isLs : V → Bool
 | .slst _ _ _ => true
 | .bs _ _ _ _ => true
 | .nls => true
 | .els => true
 | _ => false
def V.isTp : V → Bool
 | .tp _ _ _ => true
 | _ => false
def V.isNoEsc (P : Program) : V → Bool
 | .fn (.func g) [] [] => Go.Proofs.Ytofbchcclkejgaa.isNoEsc P g
 | _ => false
def V.isBp : V → Bool
 | .bp _ _ _ => true
 | _ => false
def isNilC : Operand → Bool
 | .const (.slice none 0 0) => true
 | _ => false
def xop (P : Program) (o : Oper) (e : Operand → V) : Bool :=
 match o.op with
 | .load _ x => (e x).isBp
 | .store _ x _ => (e x).isBp
 | .makeSlice _ _ _ => true
 | .convert _ _ _ => true
 | .index _ x _ => (e x).str?.isSome
 | .indexAddr _ x _ => (e x).isLs
 | .slice _ _ _ _ _ => true
 | .typeAssert _ _ _ _ => true
 | .binOp _ _ _ y _ => isNilC y
 | .call c => match c.callee, c.args.toList with | .builtin .len, [x] => (e x).isLs | .builtin .append, [_, _] => true | .builtin .copy, [_, _] => true | .builtin .clear, [_] => true | .builtin .unsafeSliceData, [_] => true | .builtin .unsafeString, [_, _] => true | .value f, [_] => (e f).isNoEsc P | _, _ => false
 | _ => false
def lenX (P : Program) (ts : Array TypeId) (x : V) : Option Out :=
 match ts[0]? with
 | some T =>
  if isSliceTy P T then
   match x with
   | .slst _ _ l => outP (.si .i64 (l.length : Nat))
   | .bs sy _ _ len => outP (mkI sy .i64 (len : Nat))
   | .nls => outP (.i .i64 0)
   | .els => outP (.i .i64 0)
   | _ => none
  else none
 | none => none
def idxL (P : Program) (T : TypeId) (x y : V) (nm : Nm) : Option Out :=
 match tyElem P T with
 | some (none, el) =>
  match tySize P el, y.int? with
  | some sz, some (k, i, s) =>
   match x with
   | .slst _ ty l => if ty.size = sz then some ⟨decide (0 ≤ i ∧ i < (l.length : Int)), true, .pel [ty.val (l.getD i.toNat ty.dflt)] 0 0, .pure⟩ else none
   | .bs sy n off len =>
    match nm[n]? with
    | some (some (.live c)) => if c.sz = sz then some ⟨decide (0 ≤ i ∧ i < (len : Int)), sy || s, .bp n (off + i.toNat) 0, .rds [] [n]⟩ else none
    | _ => none
   | _ => none
  | _, _ => none
 | _ => none
def loadX (P : Program) (T : TypeId) (x : V) (nm : Nm) : Option Out :=
 match tyAgg P T, tySize P T with
 | some ag, some sz =>
  match x with
  | .bp n i off =>
   match nm[n]? with
   | some (some (.live c)) =>
    match c.at i with
    | some (b, s, cs) => match getV ag sz cs off with | some v => some ⟨b, s, v, .rds [] [n]⟩ | none => none
    | none => none
   | _ => none
  | _ => none
 | _, _ => none
def sliceX (P : Program) (T : TypeId) (x : V) (lo hi : Bd) (nm : Nm) : Option Out :=
 match x.str? with
 | some (s, sy) => if isStrTy P T then some ⟨decide (0 ≤ lo.lo ∧ lo.lo ≤ hi.hi s.size ∧ hi.hi s.size ≤ (s.size : Int)), sy || lo.sy || hi.sy, mkS (sy || lo.sy || hi.sy) (s.extract lo.lo.toNat (hi.hi s.size).toNat), .pure⟩ else none
 | none =>
  match tyElem P T with
  | some (none, el) =>
   match tySize P el with
   | some sz =>
    match x with
    | .slst _ ty l => if ty.size = sz then some ⟨decide (0 ≤ lo.lo ∧ lo.lo ≤ hi.hi l.length ∧ hi.hi l.length ≤ (l.length : Int)), true, .slst .ro ty ((l.take (hi.hi l.length).toNat).drop lo.lo.toNat), .pure⟩ else none
    | .lst _ xs => if xs.all (fun v => v.cells.length == sz) && !(lo.sy || hi.sy) then some ⟨decide (0 ≤ lo.lo ∧ lo.lo ≤ hi.hi xs.length ∧ hi.hi xs.length ≤ (xs.length : Int)), false, .lst .ro ((xs.take (hi.hi xs.length).toNat).drop lo.lo.toNat), .pure⟩ else none
    | .bs sy n off len =>
     match nm[n]? with
     | some (some (.live c)) => if c.sz = sz then some ⟨decide (0 ≤ lo.lo ∧ lo.lo ≤ hi.hi len ∧ hi.hi len ≤ (len : Int)), sy || lo.sy || hi.sy, .bs (sy || lo.sy || hi.sy) n (off + lo.lo.toNat) ((hi.hi len).toNat - lo.lo.toNat), .rds [] [n]⟩ else none
     | _ => none
    | _ => none
   | none => none
  | _ => none
def useU (x y : V) (nm : Nm) : Bool :=
 match y.str? with
 | some _ =>
  match x with
  | .lst .full [] => true
  | .nls => true
  | .bs _ n _ _ => match nm[n]? with | some (some (.live (.u8 _ _ _))) => true | _ => false
  | _ => false
 | none => false
def appY (P : Program) (ts : Array TypeId) (x y : V) (nm : Nm) (s : Nat) : Option Out :=
 match useZ x y with
 | true => appZ P ts x y nm s
 | false =>
 match useU x y nm with
 | true => appU P ts x y nm s
 | false => appX P ts x y nm s
def cnvY (P : Program) (S D : TypeId) (x : V) (nm : Nm) : Option Out :=
 match x with
 | .tp E n o => tpC P S D E n o
 | _ => cnvX P S D x nm
def evX (P : Program) (slot : Nat) (o : Oper) (e : Operand → V) (nm : Nm) : Option Out :=
 match o.op with
 | .load T x => loadX P T (e x) nm
 | .store T x y => stoX P T (e x) (e y) nm
 | .makeSlice T x y => makX P T (e x) (e y) slot
 | .convert S D x => cnvY P S D (e x) nm
 | .index T x y => idxS P T (e x) (e y)
 | .indexAddr T x y => idxL P T (e x) (e y) nm
 | .slice T x low high none => match bdE e low, bdE e high with | some lo, some hi => sliceX P T (e x) lo hi nm | _, _ => none
 | .slice T x none (some h) (some m) => sl0X P T (e x) (e h) (e m)
 | .typeAssert x _ T ok => tasX P T ok (e x)
 | .binOp op T x y _ => (match isNilC y with | true => nilX P op T (e x) | false => none)
 | .call c => match c.callee, c.args.toList with | .builtin .len, [x] => lenX P c.argTypes (e x) | .builtin .append, [x, y] => appY P c.argTypes (e x) (e y) nm slot | .builtin .copy, [x, y] => copX P c.argTypes (e x) (e y) nm | .builtin .clear, [x] => clrX P c.argTypes (e x) nm | .builtin .unsafeSliceData, [x] => sldX P (e x) nm | .builtin .unsafeString, [x, y] => usStrX P c.argTypes (e x) (e y) nm | .value f, [x] => (match (e f).isNoEsc P with | true => outP (e x) | false => none) | _, _ => none
 | _ => none
def evE (P : Program) (cf : CallF) (slot : Nat) (o : Oper) (e : Operand → V) (ob : Ob) (nm : Nm) : Option Out :=
 match xop P o e with
 | true => evX P slot o e nm
 | false => evE0 P cf slot o e ob nm
section
variable {P : Program} {Γ : Nat → Option V} {σ : St} {ob ob' : Ob} {nm nm' : Nm} {cf : CallF} {slot : Nat} {o : Oper} {e e' : Operand → V} {out : Out}
theorem SemV.lenX {c : Call} {x : Operand} (ho : o.op = .call c) (hc : c.callee = .builtin .len) (ha : c.args.toList = [x]) (h : lenX P c.argTypes (σ.eval Γ x) = some out) : SemV P Γ o σ out.v (out.eff.ob σ.ob) (out.eff.nm σ.nm) := by
 unfold Go.Proofs.Ytofbchcclkejgaa.lenX at h
 split at h
 · rename_i T hT
   split at h
   · rename_i hs
     unfold isSliceTy at hs
     split at hs
     · rename_i el hu
       have hca : ∀ a : Act, c.args.map a.eval = #[a.eval x] := fun a => by apply Array.ext'; simp [ha]
       split at h
       · rename_i t ty l hx
         cases h
         refine SemV.of_pure fun G a w hr => ?_
         have hxx := hr.eval x
         rw [hx] at hxx
         cases hxx with
         | slst q =>
          obtain ⟨p, cap, he⟩ := q.slice_form
          simp only [List.length_map] at he
          exact ⟨_, by simp [execOp, ho, resolve, hc, invoke, Go.builtin, hca, Builtin.len_, hT, run_underlying hu, he, goInt], .si _ _⟩
       · rename_i sy n off len hx
         cases h
         refine SemV.of_pure fun G a w hr => ?_
         have hxx := hr.eval x
         rw [hx] at hxx
         obtain ⟨p, cap, he⟩ : ∃ p cap, a.eval x = .slice p len cap := by
          generalize a.eval x = cv at hxx
          cases hxx <;> exact ⟨_, _, rfl⟩
         exact ⟨.int .i64 (len : Nat), by simp [execOp, ho, resolve, hc, invoke, Go.builtin, hca, Builtin.len_, hT, run_underlying hu, he, goInt], mkI_rel _ _ _ _⟩
       · rename_i hx
         cases h
         refine SemV.of_pure fun G a w hr => ?_
         have hxx := hr.eval x
         rw [hx] at hxx
         generalize he : a.eval x = cv at hxx
         cases hxx with
         | nls => exact ⟨.int .i64 0, by simp [execOp, ho, resolve, hc, invoke, Go.builtin, hca, Builtin.len_, hT, run_underlying hu, he, goInt], .i _ _⟩
       · rename_i hx
         cases h
         refine SemV.of_pure fun G a w hr => ?_
         have hxx := hr.eval x
         rw [hx] at hxx
         generalize he : a.eval x = cv at hxx
         cases hxx with
         | els => exact ⟨.int .i64 0, by simp [execOp, ho, resolve, hc, invoke, Go.builtin, hca, Builtin.len_, hT, run_underlying hu, he, goInt], .i _ _⟩
       · cases h
     · cases hs
   · cases h
 · cases h
theorem evX_sound (h : evX P slot o (σ.eval Γ) σ.nm = some out) (hchk : out.chk = true) (hs : allocs o = true → σ.ob[slot]? = some none ∧ σ.nm[slot]? = some none) : SemV P Γ o σ out.v (out.eff.ob σ.ob) (out.eff.nm σ.nm) := by
 unfold evX at h
 split at h
 · rename_i T x ho
   unfold loadX at h
   split at h
   · rename_i ag sz ha hsz
     split at h
     · rename_i n i off hx
       split at h
       · rename_i c hn
         split at h
         · rename_i b s cs hat
           split at h
           · rename_i v hv
             cases h
             have hchk : b = true := hchk
             subst hchk
             exact SemV.load_bp ho ha hsz hx hn hat hv
           · cases h
         · cases h
       · cases h
     · cases h
   · cases h
 · rename_i T x y ho
   exact SemV.stoX ho h hchk
 · rename_i T x y ho
   exact SemV.makX ho h hchk (hs (by simp [allocs, ho])).2
 · rename_i S D x ho
   unfold cnvY at h
   split at h
   · rename_i E n o' hx
     exact SemV.tpC ho hx h
   · exact SemV.cnvX ho h
 · rename_i T x y ho
   exact SemV.idxS ho h hchk
 · rename_i T x y ho
   unfold idxL at h
   split at h
   · rename_i el hel
     split at h
     · rename_i sz k i s hsz hy
       split at h
       · rename_i t ty l hx
         split at h
         · rename_i hz
           cases h
           exact SemV.index_slst ho hel hsz hz hx hy (of_decide_eq_true hchk)
         · cases h
       · rename_i sy n off len hx
         split at h
         · rename_i c hn
           split at h
           · rename_i hz
             cases h
             exact SemV.index_bs ho hel hsz hz hx hn hy (of_decide_eq_true hchk)
           · cases h
         · cases h
       · cases h
     · cases h
   · cases h
 · rename_i T x low high ho
   split at h
   · rename_i lo hi hlo hhi
     unfold sliceX at h
     split at h
     · rename_i s sy hx
       split at h
       · rename_i hst
         cases h
         have hd := of_decide_eq_true hchk
         unfold isStrTy at hst
         split at hst
         · rename_i hu
           exact SemV.slice_str ho hu hx hlo hhi hd.1 hd.2.1 hd.2.2
         · cases hst
       · cases h
     · split at h
       · rename_i el hel
         split at h
         · rename_i sz hsz
           split at h
           · rename_i t ty l hx
             split at h
             · rename_i hz
               cases h
               have hd := of_decide_eq_true hchk
               exact SemV.slice_slst ho hel hsz hz hx hlo hhi hd.1 hd.2.1 hd.2.2
             · cases h
           · rename_i t xs hx
             split at h
             · rename_i hz
               simp only [Bool.and_eq_true] at hz
               cases h
               have hd := of_decide_eq_true hchk
               exact SemV.slice_lst ho hel hsz hz.1 hx hlo hhi hd.1 hd.2.1 hd.2.2
             · cases h
           · rename_i sy n off len hx
             split at h
             · rename_i c hn
               split at h
               · rename_i hz
                 cases h
                 have hd := of_decide_eq_true hchk
                 exact SemV.slice_bs ho hel hsz hz hx hn hlo hhi hd.1 hd.2.1 hd.2.2
               · cases h
             · cases h
           · cases h
         · cases h
       · cases h
   · cases h
 · rename_i T x hi m ho
   exact SemV.sl0X ho h
 · rename_i x X T ok ho
   exact SemV.tasX ho h
 · rename_i op T x y T' ho
   split at h
   · rename_i hy
     unfold isNilC at hy
     split at hy
     · exact SemV.nilX ho h hchk
     · cases hy
   · cases h
 · rename_i c ho
   split at h
   · rename_i x hcal hargs
     exact SemV.lenX ho hcal hargs h
   · rename_i x y hcal hargs
     unfold appY at h
     split at h
     · exact SemV.appZ ho hcal hargs h hchk (hs (by simp [allocs, ho, hcal])).2
     split at h
     · exact SemV.appU ho hcal hargs h hchk (hs (by simp [allocs, ho, hcal])).2
     · exact SemV.appX ho hcal hargs h hchk (hs (by simp [allocs, ho, hcal])).2
   · rename_i x y hcal hargs
     exact SemV.copX ho hcal hargs h
   · rename_i x hcal hargs
     exact SemV.clrX ho hcal hargs h
   · rename_i x hcal hargs
     exact SemV.sldX ho hcal hargs h hchk
   · rename_i x y hcal hargs
     exact SemV.usStr ho hcal hargs h hchk
   · rename_i f x hcal hargs
     split at h
     · rename_i hne
       cases h
       unfold V.isNoEsc at hne
       split at hne
       · rename_i g hf
         exact SemV.noEsc ho hcal hargs hf hne
       · cases hne
     · cases h
   · cases h
 · cases h
theorem evE_sound (hcf : CallsOk P Γ cf) (h : evE P cf slot o (σ.eval Γ) σ.ob σ.nm = some out) (hchk : out.chk = true) (hs : allocs o = true → σ.ob[slot]? = some none ∧ σ.nm[slot]? = some none) : SemV P Γ o σ out.v (out.eff.ob σ.ob) (out.eff.nm σ.nm) := by
 unfold evE at h
 split at h
 · exact evX_sound h hchk hs
 · exact evE0_sound hcf h hchk hs
theorem EffOk.rds (slot : Nat) (al : Bool) (ob : Ob) (nm : Nm) (a b : List Nat) : EffOk slot al ob nm (.rds a b) := ⟨(fun p hp => by cases hp), (fun p hp => by cases hp), (fun p hp => by cases hp)⟩
theorem appX_eff {ts : Array TypeId} {x y : V} {al : Bool} (hal : al = true) (h : appX P ts x y nm slot = some out) : EffOk slot al ob nm out.eff := by
  unfold appX at h
  repeat' (split at h)
  all_goals first
    | (cases h; done)
    | (cases h; exact ⟨(fun p hp => by cases hp), (fun p hp => by
        simp only [List.mem_cons, List.not_mem_nil, or_false] at hp
        first
          | (subst hp; exact .inr ⟨rfl, hal⟩)
          | (rcases hp with rfl | rfl
             · exact .inl ⟨_, by assumption⟩
             · exact .inr ⟨rfl, hal⟩)), (fun p hp => by cases hp)⟩)
theorem appU_eff {ts : Array TypeId} {x y : V} {al : Bool} (hal : al = true) (h : appU P ts x y nm slot = some out) : EffOk slot al ob nm out.eff := by
  unfold appU at h
  repeat' (split at h)
  all_goals first
    | (cases h; done)
    | (cases h; exact ⟨(fun p hp => by cases hp), (fun p hp => by
        simp only [List.mem_cons, List.not_mem_nil, or_false] at hp
        first
          | (subst hp; exact .inr ⟨rfl, hal⟩)
          | (rcases hp with rfl | rfl
             · exact .inl ⟨_, by assumption⟩
             · exact .inr ⟨rfl, hal⟩)), (fun p hp => by cases hp)⟩)
theorem appZ_eff {ts : Array TypeId} {x y : V} {al : Bool} (hal : al = true) (h : appZ P ts x y nm slot = some out) : EffOk slot al ob nm out.eff := by
 unfold appZ at h
 repeat' (split at h)
 all_goals first
  | (cases h; done)
  | (cases h; exact ⟨(fun p hp => by cases hp), (fun p hp => by
   simp only [List.mem_cons, List.not_mem_nil, or_false] at hp
   subst hp; exact .inr ⟨rfl, hal⟩), (fun p hp => by cases hp)⟩)
theorem appY_eff {ts : Array TypeId} {x y : V} {al : Bool} (hal : al = true) (h : appY P ts x y nm slot = some out) : EffOk slot al ob nm out.eff := by
 unfold appY at h
 split at h
 · exact appZ_eff hal h
 split at h
 · exact appU_eff hal h
 · exact appX_eff hal h
theorem stoX_eff {T : TypeId} {x y : V} {al : Bool} (h : stoX P T x y nm = some out) : EffOk slot al ob nm out.eff := by
 unfold stoX at h
 repeat' (split at h)
 all_goals first
  | (cases h; done)
  | (cases h; exact ⟨(fun p hp => by cases hp), (fun p hp => by
   simp only [List.mem_cons, List.not_mem_nil, or_false] at hp
   subst hp
   exact .inl ⟨_, by assumption⟩), (fun p hp => by cases hp)⟩)
theorem makX_eff {T : TypeId} {x y : V} {al : Bool} (hal : al = true) (h : makX P T x y slot = some out) : EffOk slot al ob nm out.eff := by
 unfold makX at h
 repeat' (split at h)
 all_goals first
  | (cases h; done)
  | (cases h; exact ⟨(fun p hp => by cases hp), (fun p hp => by
   simp only [List.mem_cons, List.not_mem_nil, or_false] at hp
   subst hp
   exact .inr ⟨rfl, hal⟩), (fun p hp => by cases hp)⟩)
theorem copX_eff {ts : Array TypeId} {x y : V} {al : Bool} (h : copX P ts x y nm = some out) : EffOk slot al ob nm out.eff := by
 unfold copX at h
 repeat' (split at h)
 all_goals first
  | (cases h; done)
  | (cases h; exact ⟨(fun p hp => by cases hp), (fun p hp => by
   simp only [List.mem_cons, List.not_mem_nil, or_false] at hp
   subst hp
   exact .inl ⟨_, by assumption⟩), (fun p hp => by cases hp)⟩)
  | (cases h; exact ⟨(fun p hp => by cases hp), (fun p hp => by cases hp), (fun p hp => by cases hp)⟩)
theorem clrX_eff {ts : Array TypeId} {x : V} {al : Bool} (h : clrX P ts x nm = some out) : EffOk slot al ob nm out.eff := by
 unfold clrX at h
 repeat' (split at h)
 all_goals first
  | (cases h; done)
  | (cases h; exact EffOk.none _ _ _ _)
  | (cases h; exact ⟨(fun p hp => by cases hp), (fun p hp => by
   simp only [List.mem_cons, List.not_mem_nil, or_false] at hp
   subst hp
   exact .inl ⟨_, by assumption⟩), (fun p hp => by cases hp)⟩)
theorem usStrX_eff {ts : Array TypeId} {x y : V} {al : Bool} (h : usStrX P ts x y nm = some out) : EffOk slot al ob nm out.eff := by
 unfold usStrX at h
 repeat' (split at h)
 all_goals first
  | (cases h; done)
  | (cases h; exact EffOk.none _ _ _ _)
  | (cases h; exact ⟨(fun p hp => by cases hp), (fun p hp => by
   simp only [List.mem_cons, List.not_mem_nil, or_false] at hp
   subst hp
   exact .inl ⟨_, by assumption⟩), (fun p hp => by cases hp)⟩)
theorem sldX_eff {x : V} {al : Bool} (h : sldX P x nm = some out) : EffOk slot al ob nm out.eff := by
 unfold sldX at h
 repeat' (split at h)
 all_goals first
  | (cases h; done)
  | (cases h; exact EffOk.none _ _ _ _)
  | (cases h; exact EffOk.rds _ _ _ _ _ _)
theorem tpC_eff {S D : TypeId} {E n o : Nat} {al : Bool} (h : tpC P S D E n o = some out) : EffOk slot al ob nm out.eff := by
 unfold tpC at h
 repeat' (split at h)
 all_goals first
  | (cases h; done)
  | (cases h; exact EffOk.none _ _ _ _)
theorem evX_eff (h : evX P slot o e nm = some out) : EffOk slot (allocs o) ob nm out.eff := by
 unfold evX at h
 split at h
 case h_2 T x y ho => exact stoX_eff h
 case h_3 T x y ho => exact makX_eff (by simp [allocs, ho]) h
 case h_4 S D x ho =>
  unfold cnvY at h
  split at h
  · exact tpC_eff h
  · unfold cnvX at h
    repeat' (split at h)
    all_goals first
     | (cases h; done)
     | (cases h; exact EffOk.none _ _ _ _)
     | (cases h; exact EffOk.rds _ _ _ _ _ _)
 case h_5 T x y ho =>
  unfold idxS at h
  repeat' (split at h)
  all_goals first
   | (cases h; done)
   | (cases h; exact EffOk.none _ _ _ _)
 case h_8 T x hi m ho =>
  unfold sl0X at h
  repeat' (split at h)
  all_goals first
   | (cases h; done)
   | (cases h; exact EffOk.none _ _ _ _)
 case h_9 x X T ok ho =>
  unfold tasX at h
  repeat' (split at h)
  all_goals first
   | (cases h; done)
   | (cases h; exact EffOk.none _ _ _ _)
 case h_10 op T x y T' ho =>
  split at h
  rotate_left
  · cases h
  unfold nilX at h
  repeat' (split at h)
  all_goals first
   | (cases h; done)
   | (cases h; exact EffOk.none _ _ _ _)
 case h_11 c ho =>
  split at h
  · unfold lenX at h
    repeat' (split at h)
    all_goals first
     | (cases h; done)
     | (cases h; exact EffOk.none _ _ _ _)
  · rename_i x y hcal hargs
    exact appY_eff (by simp [allocs, ho, hcal]) h
  · exact copX_eff h
  · exact clrX_eff h
  · exact sldX_eff h
  · exact usStrX_eff h
  · split at h
    · cases h; exact EffOk.none _ _ _ _
    · cases h
  · cases h
 all_goals
  (try unfold loadX at h)
  (try unfold idxL at h)
  (try unfold sliceX at h)
  repeat' (split at h)
  all_goals first
   | (cases h; done)
   | (cases h; exact EffOk.none _ _ _ _)
   | (cases h; exact EffOk.rds _ _ _ _ _ _)
theorem evE_eff (hc : CallsFit cf) (h : evE P cf slot o e ob nm = some out) : EffOk slot (allocs o) ob nm out.eff := by
 unfold evE at h
 split at h
 · exact evX_eff h
 · exact evE0_eff hc h
theorem rds1 {n : Nat} (h : (Eff.rds [] [n]).same ob ob' nm nm') : nm[n]? = nm'[n]? := h.2.1 n (List.mem_singleton.2 rfl)
theorem ysE_frame {size : Nat} {tx : TypeId} {y : V} {c : BC} {rn : List Nat} (h : ysE P size tx y nm = some (c, rn)) (hs : ∀ n ∈ rn, nm[n]? = nm'[n]?) : ysE P size tx y nm' = some (c, rn) := by
 unfold ysE at h ⊢
 split at h
 · exact h
 · split at h
   · rename_i hsl
     rw [if_pos hsl]
     split at h
     · exact h
     · exact h
     · exact h
     · exact h
     · split at h
       · rename_i c0 hn
         split at h
         · rename_i hz
           cases h
           rw [hs _ (List.mem_singleton.2 rfl)] at hn
           simp only [*, if_true, and_self]
         · cases h
       · cases h
     · cases h
   · cases h
theorem appX_frame {ts : Array TypeId} {x y : V} (h : appX P ts x y nm slot = some out) (hs : ∀ n ∈ out.eff.rn, nm[n]? = nm'[n]?) : appX P ts x y nm' slot = some out := by
 unfold appX at h ⊢
 split at h
 · split at h
   · split at h
     · split at h
       · rename_i b rn hys
         split at h
         · split at h
           · cases h
             have hy := ysE_frame hys hs
             simp only [*]
           · cases h
         · split at h
           · split at h
             · cases h
               have hy := ysE_frame hys hs
               simp only [*]
             · split at h
               · cases h
                 have hy := ysE_frame hys hs
                 simp only [*]
               · cases h
             · cases h
           · cases h
         · split at h
           · rename_i c hn
             split at h
             · split at h
               · cases h
                 have hy := ysE_frame hys (fun n hn => hs n (List.mem_cons_of_mem _ hn))
                 rw [hs _ (List.mem_cons_self ..)] at hn
                 simp only [*, if_true]
               · cases h
             · cases h
           · cases h
         · cases h
       · cases h
     · cases h
   · cases h
 · cases h
theorem ysE_str_nm {size : Nat} {tx : TypeId} {y : V} {z : ByteArray × Bool} (hy : y.str? = some z) : ysE P size tx y nm' = ysE P size tx y nm := by
 unfold ysE
 rw [hy]
theorem appU_frame {ts : Array TypeId} {x y : V} (h : appU P ts x y nm slot = some out) (hs : ∀ n ∈ out.eff.rn, nm[n]? = nm'[n]?) : appU P ts x y nm' slot = some out ∧ useU x y nm' = true := by
 unfold appU at h ⊢
 split at h
 · rename_i hstr
   have hyn : ∀ (sz : Nat) (tx : TypeId), ysE P sz tx y nm' = ysE P sz tx y nm := fun sz tx => ysE_str_nm (nm := nm) hstr
   simp only [hyn]
   unfold useU
   rw [hstr]
   split at h
   · split at h
     · split at h
       · split at h
         · split at h
           · cases h
             simp only [*, and_self]
           · cases h
             simp only [*, and_self]
           · split at h
             · rename_i hn
               split at h
               · cases h
                 rw [hs _ (List.mem_singleton.2 rfl)] at hn
                 simp only [*, and_self]
               · cases h
             · cases h
           · cases h
         · cases h
       · cases h
     · cases h
   · cases h
 · cases h
theorem appX_bs {ts : Array TypeId} {y : V} {sy : Bool} {n off len : Nat} (h : appX P ts (.bs sy n off len) y nm slot = some out) : n ∈ out.eff.rn := by
 unfold appX at h
 repeat' (split at h)
 all_goals first
  | (cases h; done)
  | (rename_i e _; cases e; done)
  | (cases h; simp_all; done)
  | skip
theorem appZ_frame {ts : Array TypeId} {x y : V} (h : appZ P ts x y nm slot = some out) (hs : ∀ n ∈ out.eff.rn, nm[n]? = nm'[n]?) : appZ P ts x y nm' slot = some out := by
 unfold appZ at h ⊢
 split at h
 · split at h
   · split at h
     · split at h
       · rename_i l ls rn hys
         split at h
         · split at h
           · cases h
             have hy := ysE_frame hys hs
             simp only [*]
           · cases h
         · cases h
       · cases h
     · cases h
   · cases h
 · cases h
theorem appY_frame {ts : Array TypeId} {x y : V} (h : appY P ts x y nm slot = some out) (hs : ∀ n ∈ out.eff.rn, nm[n]? = nm'[n]?) : appY P ts x y nm' slot = some out := by
 unfold appY at h ⊢
 split at h
 · exact appZ_frame h hs
 rename_i hz
 clear hz
 split at h
 · obtain ⟨h1, h2⟩ := appU_frame h hs
   rw [h2]
   exact h1
 · rename_i hu
   have : useU x y nm' = false := by
    rw [← hu]
    unfold useU
    split
    · split
      · rfl
      · rfl
      · rename_i n _ _
        rw [hs n (appX_bs h)]
      · rfl
    · rfl
   rw [this]
   exact appX_frame h hs
theorem stoX_frame {T : TypeId} {x y : V} (h : stoX P T x y nm = some out) (hs : ∀ n ∈ out.eff.rn, nm[n]? = nm'[n]?) : stoX P T x y nm' = some out := by
 unfold stoX at h ⊢
 split at h
 · split at h
   · split at h
     · rename_i c hn
       split at h
       · split at h
         · split at h
           · cases h
             rw [hs _ (List.mem_singleton.2 rfl)] at hn
             rename_i hc c' hset
             simp only [*, if_true, and_self]
           · cases h
         · cases h
       · cases h
     · cases h
   · cases h
 · cases h
theorem copX_frame {ts : Array TypeId} {x y : V} (h : copX P ts x y nm = some out) (hs : ∀ n ∈ out.eff.rn, nm[n]? = nm'[n]?) : copX P ts x y nm' = some out := by
 unfold copX at h ⊢
 split at h
 · split at h
   · split at h
     · split at h
       · rename_i b rn hys
         split at h
         · cases h
           have hy := ysE_frame hys hs
           simp only [*]
         · split at h
           · rename_i c hn
             split at h
             · split at h
               · cases h
                 have hy := ysE_frame hys (fun n hn => hs n (List.mem_cons_of_mem _ hn))
                 rw [hs _ (List.mem_cons_self ..)] at hn
                 simp only [*, if_true]
               · cases h
             · cases h
           · cases h
         · cases h
       · cases h
     · cases h
   · cases h
 · cases h
theorem clrX_frame {ts : Array TypeId} {x : V} (h : clrX P ts x nm = some out) (hs : ∀ n ∈ out.eff.rn, nm[n]? = nm'[n]?) : clrX P ts x nm' = some out := by
 unfold clrX at h ⊢
 split at h
 · split at h
   · split at h
     · split at h
       · split at h
         · rename_i hzz
           split at h
           · cases h
             simp only [*, if_true, and_self]
           · split at h
             · rename_i c hn
               split at h
               · split at h
                 · split at h
                   · cases h
                     rw [hs _ (List.mem_singleton.2 rfl)] at hn
                     simp only [*, if_true, and_self]
                   · cases h
                 · cases h
               · cases h
             · cases h
           · cases h
         · cases h
       · cases h
     · cases h
   · cases h
 · cases h
theorem sldX_frame {x : V} (h : sldX P x nm = some out) (hs : ∀ n ∈ out.eff.rn, nm[n]? = nm'[n]?) : sldX P x nm' = some out := by
 unfold sldX at h ⊢
 split at h
 · exact h
 · split at h
   · rename_i hn
     cases h
     rw [hs _ (List.mem_singleton.2 rfl)] at hn
     simp only [*]
   · cases h
 · cases h
theorem usStrX_frame {ts : Array TypeId} {x y : V} (h : usStrX P ts x y nm = some out) (hs : ∀ n ∈ out.eff.rn, nm[n]? = nm'[n]?) : usStrX P ts x y nm' = some out := by
 unfold usStrX at h ⊢
 split at h
 · split at h
   · split at h
     · exact h
     · split at h
       · rename_i hn
         split at h
         · cases h
           rw [hs _ (List.mem_singleton.2 rfl)] at hn
           simp only [*]
         · cases h
       · cases h
     · cases h
   · cases h
 · cases h
theorem evX_frame (h : evX P slot o e nm = some out) (hs : out.eff.same ob ob' nm nm') : evX P slot o e nm' = some out := by
 unfold evX at h ⊢
 split at h
 · rename_i T x ho
   unfold loadX at h ⊢
   split at h
   · split at h
     · split at h
       · rename_i c hn
         split at h
         · split at h
           · cases h
             rw [rds1 hs] at hn
             simp only [*]
           · cases h
         · cases h
       · cases h
     · cases h
   · cases h
 · exact stoX_frame h hs.2.1
 · exact h
 · unfold cnvY at h ⊢
   split at h
   · exact h
   unfold cnvX at h ⊢
   split at h
   · exact h
   · exact h
   · split at h
     · split at h
       · cases h
       · rename_i hstr
         split at h
         · rename_i b rn hy
           split at h
           · cases h
             have hy' := ysE_frame hy hs.2.1
             simp only [*]
           · cases h
         · cases h
     · cases h
   · cases h
 · exact h
 · rename_i T x y ho
   unfold idxL at h ⊢
   split at h
   · split at h
     · split at h
       · exact h
       · split at h
         · rename_i c hn
           split at h
           · cases h
             rw [rds1 hs] at hn
             simp only [*, if_true]
           · cases h
         · cases h
       · cases h
     · cases h
   · cases h
 · split at h
   · unfold sliceX at h ⊢
     split at h
     · exact h
     · split at h
       · split at h
         · split at h
           · exact h
           · exact h
           · split at h
             · rename_i c hn
               split at h
               · cases h
                 rw [rds1 hs] at hn
                 simp only [*, if_true]
               · cases h
             · cases h
           · cases h
         · cases h
       · cases h
   · cases h
 · exact h
 · exact h
 · exact h
 · split at h
   · exact h
   · exact appY_frame h hs.2.1
   · exact copX_frame h hs.2.1
   · exact clrX_frame h hs.2.1
   · exact sldX_frame h hs.2.1
   · exact usStrX_frame h hs.2.1
   · exact h
   · cases h
 · cases h
theorem evE_frame (hc : CallsFit cf) (h : evE P cf slot o e ob nm = some out) (hs : out.eff.same ob ob' nm nm') : evE P cf slot o e ob' nm' = some out := by
 unfold evE at h ⊢
 split at h
 · exact evX_frame h hs
 · exact evE0_frame hc h hs
theorem bdE_loc {x : Option Operand} (h : ∀ y, x = some y → e y = e' y) : bdE e x = bdE e' x := by
 cases x with
 | none => rfl
 | some x => simp only [bdE, h x rfl]
theorem evE_loc (he : ∀ x, x ∈ o.op.operands → e x = e' x) : evE P cf slot o e ob nm = evE P cf slot o e' ob nm := by
 have h1 : xop P o e = xop P o e' := by
  unfold xop
  cases ho : o.op <;> (rw [ho] at he) <;> first
   | rfl
   | (simp only [Op.operands] at he; simp [he]; done)
   | skip
  rename_i c
  simp only [Op.operands] at he
  simp only []
  split
  · rename_i x hcal ha
    have : e x = e' x := he x (by
     have hx : x ∈ c.args.toList := by rw [ha]; exact List.mem_singleton.2 rfl
     simp [Call.operands]; exact .inr (by simpa using hx))
    rw [this]
  · rfl
  · rfl
  · rfl
  · rfl
  · rfl
  · rename_i f x hcal ha
    have : e f = e' f := he f (by simp [Call.operands, hcal])
    rw [this]
  · rfl
 have h2 : evX P slot o e nm = evX P slot o e' nm := by
  unfold evX
  cases ho : o.op <;> (rw [ho] at he) <;> first
   | rfl
   | (simp only [Op.operands] at he; simp [he]; done)
   | skip
  · rename_i T x low high mx
    cases mx with
    | some m =>
     cases low with
     | some l => rfl
     | none =>
      cases high with
      | none => rfl
      | some hh =>
       simp only [Op.operands] at he
       have a1 : e x = e' x := he x (by simp)
       have a2 : e hh = e' hh := he hh (by simp)
       have a3 : e m = e' m := he m (by simp)
       simp only [a1, a2, a3]
    | none =>
     simp only [Op.operands] at he
     have a1 : e x = e' x := he x (by simp)
     have a2 : bdE e low = bdE e' low := bdE_loc fun y hy => he y (by simp [hy])
     have a3 : bdE e high = bdE e' high := bdE_loc fun y hy => he y (by simp [hy])
     simp only [a1, a2, a3]
  · rename_i c
    simp only [Op.operands] at he
    simp only []
    split
    · rename_i x hcal ha
      have : e x = e' x := he x (by
       have hx : x ∈ c.args.toList := by rw [ha]; exact List.mem_singleton.2 rfl
       simp [Call.operands]; exact .inr (by simpa using hx))
      rw [this]
    · rename_i x y hcal ha
      have h1 : e x = e' x := he x (by
       have hx : x ∈ c.args.toList := by rw [ha]; simp
       simp [Call.operands]; exact .inr (by simpa using hx))
      have h2 : e y = e' y := he y (by
       have hx : y ∈ c.args.toList := by rw [ha]; simp
       simp [Call.operands]; exact .inr (by simpa using hx))
      rw [h1, h2]
    · rename_i x y hcal ha
      have h1 : e x = e' x := he x (by
       have hx : x ∈ c.args.toList := by rw [ha]; simp
       simp [Call.operands]; exact .inr (by simpa using hx))
      have h2 : e y = e' y := he y (by
       have hx : y ∈ c.args.toList := by rw [ha]; simp
       simp [Call.operands]; exact .inr (by simpa using hx))
      rw [h1, h2]
    · rename_i x hcal ha
      have : e x = e' x := he x (by
       have hx : x ∈ c.args.toList := by rw [ha]; exact List.mem_singleton.2 rfl
       simp [Call.operands]; exact .inr (by simpa using hx))
      rw [this]
    · rename_i x hcal ha
      have : e x = e' x := he x (by
       have hx : x ∈ c.args.toList := by rw [ha]; exact List.mem_singleton.2 rfl
       simp [Call.operands]; exact .inr (by simpa using hx))
      rw [this]
    · rename_i x y hcal ha
      have h1 : e x = e' x := he x (by
       have hx : x ∈ c.args.toList := by rw [ha]; simp
       simp [Call.operands]; exact .inr (by simpa using hx))
      have h2 : e y = e' y := he y (by
       have hx : y ∈ c.args.toList := by rw [ha]; simp
       simp [Call.operands]; exact .inr (by simpa using hx))
      rw [h1, h2]
    · rename_i f x hcal ha
      have h1 : e x = e' x := he x (by
       have hx : x ∈ c.args.toList := by rw [ha]; simp
       simp [Call.operands]; exact .inr (by simpa using hx))
      have h2 : e f = e' f := he f (by simp [Call.operands, hcal])
      rw [h1, h2]
    · rfl
 unfold evE
 rw [h1, h2, evE0_loc he]
end
end Go.Proofs.Ytofbchcclkejgaa

/- A region: its operations in the text's order, and in any order. -/
set_option linter.unusedVariables false
set_option linter.unusedSimpArgs false
namespace Go.Proofs.Ytofbchcclkejgaa
open Go
inductive Tr (α : Type) where
 | leaf (x : Option α)
 | br (b : Bool) (x y : Tr α)
def Tr.run {α : Type} : Tr α → Option α
 | .leaf x => x
 | .br b x y => match b with | true => x.run | false => y.run
def Tr.bind {α β : Type} : Tr α → (α → Tr β) → Tr β
 | .leaf none, _ => .leaf none
 | .leaf (some a), f => f a
 | .br b x y, f => .br b (x.bind f) (y.bind f)
theorem Tr.run_bind {α β : Type} (t : Tr α) (f : α → Tr β) : (t.bind f).run = t.run.bind fun a => (f a).run := by
 induction t with
 | leaf x => cases x <;> rfl
 | br b x y ihx ihy => cases b <;> simp [Tr.bind, Tr.run, ihx, ihy]
def Tr.chk {α : Type} (c s : Bool) (t : Tr α) : Tr α :=
 match s with
 | true => .br c t (.leaf none)
 | false => match c with | true => t | false => .leaf none
theorem Tr.run_chk {α : Type} (c s : Bool) (t : Tr α) : (Tr.chk c s t).run = if c then t.run else none := by cases s <;> cases c <;> rfl
def wantedL (ops : Array Oper) (tm : List V) (o : Oper) : Option Bool :=
 match o.guard with
 | none => some true
 | some (j, want) =>
  match (ops[j]?).bind (·.dst) with
  | none => some false
  | some d =>
   match tm[d]? with
   | some (.b x) => some (x == want)
   | some (.tup _) => some false
   | _ => none
theorem wantedL_V {ops : Array Oper} {tm : List V} {o : Oper} {t : Bool} (h : wantedL ops tm o = some t) : wantedV ops tm o = some t := by
 unfold wantedL at h
 unfold wantedV
 split
 · rename_i hg; simpa [hg] using h
 · rename_i j want hg
   simp only [hg] at h
   split
   · rename_i hd; simpa [hd] using h
   · rename_i d hd
     simp only [hd] at h
     split <;> rename_i ht <;> simp [ht] at h ⊢ <;> exact h
def litG (g : Bool) (v : V) : V := match g, v with | true, .sb b => .b b | _, v => v
theorem litG_rel {G : Gh} (g : Bool) {v : V} {cv : Value} (h : VRel G v cv) : VRel G (litG g v) cv := by
 unfold litG
 split
 · cases h; exact .b _
 · exact h
def isGd (ops : Array Oper) (i : Nat) : Bool := ops.toList.any fun o => match o.guard with | some (j, _) => j == i | none => false
def slotOf (ops : Array Oper) (base i : Nat) : Nat := base + ((ops.toList.take i).filter allocs).length
def St.after (x : St) (out : Out) (d : Option Nat) (v : V) : St := ({ x with ob := out.eff.ob x.ob, nm := out.eff.nm x.nm } : St).put d v
section
variable {P : Program} {Γ : Nat → Option V} {cf : CallF} {ops : Array Oper} {base : Nat}
def stp (P : Program) (Γ : Nat → Option V) (cf : CallF) (ops : Array Oper) (base i : Nat) (x : St) : Option (St × Option Eff) :=
 match ops[i]? with
 | none => some (x, none)
 | some o =>
  match wantedL ops x.tm o with
  | none => none
  | some false => some (x.put o.dst (.tup []), none)
  | some true =>
   match evE P cf (slotOf ops base i) o (x.eval Γ) x.ob x.nm with
   | none => none
   | some out => if out.chk then some (x.after out o.dst (litG (isGd ops i) out.v), some out.eff) else none
def Free (ops : Array Oper) (base i : Nat) (x : St) : Prop := ∀ j o, i ≤ j → ops[j]? = some o → allocs o = true → x.ob[slotOf ops base j]? = some none ∧ x.nm[slotOf ops base j]? = some none
theorem stp_wp (hcf : CallsOk P Γ cf) (hfit : CallsFit cf) {i : Nat} {x x' : St} {ef : Option Eff} (h : stp P Γ cf ops base i x = some (x', ef)) (hfree : ∀ o, ops[i]? = some o → allocs o = true → x.ob[slotOf ops base i]? = some none ∧ x.nm[slotOf ops base i]? = some none)
 {ro : Option Nat} {G : Gh} {a : Act} {w : World} (hr : Rel Γ G x a w) (K : Act → World → Prop) (Q : Exit → Act → World → Prop) (hk : ∀ G' a' w', G.le G' → Rel Γ G' x' a' w' → K a' w') : wpOpIn (wideR ro) 0 P ops Q i K a w := by
 unfold stp at h
 unfold wpOpIn
 cases ho : ops[i]? with
 | none =>
  simp only [ho, Option.some.injEq, Prod.mk.injEq] at h
  obtain ⟨rfl, rfl⟩ := h
  exact hk G a w (.refl G) hr
 | some o =>
  simp only [ho] at h ⊢
  split at h
  · cases h
  · rename_i hw
    simp only [Option.some.injEq, Prod.mk.injEq] at h
    obtain ⟨rfl, rfl⟩ := h
    rw [wanted_of hr.tm (wantedL_V hw)]
    exact ⟨fun _ _ => trivial, hk G _ w (.refl G) (hr.put o.dst (VRel.undef G))⟩
  · rename_i hw
    rw [wanted_of hr.tm (wantedL_V hw)]
    split at h
    · cases h
    · rename_i out he
      split at h
      · rename_i hc
        simp only [Option.some.injEq, Prod.mk.injEq] at h
        obtain ⟨rfl, rfl⟩ := h
        have hsv := evE_sound (σ := x) hcf he hc (hfree o ho)
        simp only [if_true]
        refine hsv ro G a w K Q hr ?_
        intro G' cv w' hle hv hw'
        refine hk G' _ w' hle ?_
        have : Rel Γ G' { x with ob := out.eff.ob x.ob, nm := out.eff.nm x.nm } a w' := ⟨hr.tm.mono hle, hw', hr.df.mono hle.d hle.kd hle.w0, hle.kh.trans hr.kh, hle.kt.trans hr.kt⟩
        exact this.put o.dst (litG_rel _ hv)
      · cases h
def chain (P : Program) (Γ : Nat → Option V) (cf : CallF) (ops : Array Oper) (base : Nat) : Nat → Nat → St → Option (St × List (Option Eff))
 | 0, _, x => some (x, [])
 | n + 1, i, x =>
  match stp P Γ cf ops base i x with
  | none => none
  | some (x1, ef) =>
   match chain P Γ cf ops base n (i + 1) x1 with
   | none => none
   | some (x2, es) => some (x2, ef :: es)
theorem setsO_get {s : Nat} : ∀ (ps : List (Nat × List V)) (ob : Ob), (∀ p ∈ ps, p.1 ≠ s) → (setsO ps ob)[s]? = ob[s]?
 | [], ob, _ => rfl
 | p :: ps, ob, h => by
  simp only [setsO]
  rw [setsO_get ps _ (fun q hq => h q (by simp [hq])), List.getElem?_set_ne (h p (by simp))]
theorem setsN_get {s : Nat} : ∀ (ps : List (Nat × Bf)) (nm : Nm), (∀ p ∈ ps, p.1 ≠ s) → (setsN ps nm)[s]? = nm[s]?
 | [], nm, _ => rfl
 | p :: ps, nm, h => by
  simp only [setsN]
  rw [setsN_get ps _ (fun q hq => h q (by simp [hq])), List.getElem?_set_ne (h p (by simp))]
theorem get_lt {α : Type} {l : List α} {i : Nat} {a : α} (h : l[i]? = some a) : i < l.length := by
 rcases Nat.lt_or_ge i l.length with h' | h'
 · exact h'
 · rw [List.getElem?_eq_none h'] at h; cases h
theorem Eff.ob_get {e : Eff} {ob : Ob} {s : Nat} {c : Option (List V)} (h : (setsO e.wo ob)[s]? = some c) (hb : ∀ p, e.blk = some p → p.1[s]? = some c) : (e.ob ob)[s]? = some c := by
 unfold Eff.ob
 split
 · rename_i p hp; exact hb p hp
 · split
   · exact h
   · rw [List.getElem?_append_left (get_lt h)]; exact h
theorem Eff.nm_get {e : Eff} {nm : Nm} {s : Nat} {c : Option Bf} (h : (setsN e.wn nm)[s]? = some c) (hb : ∀ p, e.blk = some p → p.2[s]? = some c) : (e.nm nm)[s]? = some c := by
 unfold Eff.nm
 split
 · rename_i p hp; exact hb p hp
 · split
   · exact h
   · rw [List.getElem?_append_left (get_lt h)]; exact h
theorem set_free {x : St} {i : Nat} {x' : St} {ef : Option Eff} (hfit : CallsFit cf) (h : stp P Γ cf ops base i x = some (x', ef)) {s : Nat} (hs : x.ob[s]? = some none ∧ x.nm[s]? = some none) (hne : ∀ o, ops[i]? = some o → allocs o = true → s ≠ slotOf ops base i) : x'.ob[s]? = some none ∧ x'.nm[s]? = some none := by
 unfold stp at h
 have hput : ∀ (y : St) (d : Option Nat) (v : V), (y.put d v).ob = y.ob ∧ (y.put d v).nm = y.nm := fun y d v => by cases d <;> exact ⟨rfl, rfl⟩
 split at h
 · cases h; exact hs
 · rename_i o ho
   split at h
   · cases h
   · cases h; rw [(hput _ _ _).1, (hput _ _ _).2]; exact hs
   · split at h
     · cases h
     · rename_i out he
       split at h
       · cases h
         rw [show (x.after out o.dst (litG (isGd ops i) out.v)).ob = out.eff.ob x.ob from (hput _ _ _).1, show (x.after out o.dst (litG (isGd ops i) out.v)).nm = out.eff.nm x.nm from (hput _ _ _).2]
         obtain ⟨k1, k2, k3⟩ := evE_eff hfit he
         refine ⟨Eff.ob_get ?_ (fun p hp => (k3 p hp).1 s hs.1), Eff.nm_get ?_ (fun p hp => (k3 p hp).2.1 s hs.2)⟩
         · rw [setsO_get]
           · exact hs.1
           · intro p hp e
             rcases k1 p hp with ⟨cs, hc⟩ | ⟨hc, hal⟩
             · rw [e, hs.1] at hc; cases hc
             · exact hne o ho hal (e.symm.trans hc)
         · rw [setsN_get]
           · exact hs.2
           · intro p hp e
             rcases k2 p hp with ⟨cs, hc⟩ | ⟨hc, hal⟩
             · rw [e, hs.2] at hc; cases hc
             · exact hne o ho hal (e.symm.trans hc)
       · cases h
theorem slot_lt {i j : Nat} {o : Oper} (hij : i < j) (ho : ops[i]? = some o) (hal : allocs o = true) : slotOf ops base i < slotOf ops base j := by
 unfold slotOf
 have hi : i < ops.toList.length := by
  rcases Nat.lt_or_ge i ops.toList.length with h | h
  · exact h
  · have : ops.toList[i]? = some o := by simpa using ho
    rw [List.getElem?_eq_none h] at this
    cases this
 have h1 : ops.toList.take (i + 1) = ops.toList.take i ++ [o] := by
  rw [List.take_succ_eq_append_getElem hi]
  congr 2
  have : ops.toList[i]? = some o := by simpa using ho
  rw [List.getElem?_eq_getElem hi] at this
  exact Option.some.inj this
 have h2 : ((ops.toList.take i).filter allocs).length + 1 = ((ops.toList.take (i + 1)).filter allocs).length := by rw [h1]; simp [hal]
 have h3 : ((ops.toList.take (i + 1)).filter allocs).length ≤ ((ops.toList.take j).filter allocs).length := by
  have : ops.toList.take (i + 1) = (ops.toList.take j).take (i + 1) := by rw [List.take_take]; congr 1; omega
  rw [this]
  exact ((List.take_sublist _ _).filter _).length_le
 omega
theorem Free.next {x x' : St} {i : Nat} {ef : Option Eff} (hfit : CallsFit cf) (hf : Free ops base i x) (h : stp P Γ cf ops base i x = some (x', ef)) : Free ops base (i + 1) x' := by
 intro j o hj ho hal
 refine set_free hfit h (hf j o (by omega) ho hal) fun o' ho' hal' => ?_
 have := slot_lt (base := base) (show i < j by omega) ho' hal'
 omega
theorem chain_sem (hcf : CallsOk P Γ cf) (hfit : CallsFit cf) : ∀ (n i : Nat) (x x' : St) (es : List (Option Eff)), Free ops base i x → chain P Γ cf ops base n i x = some (x', es) → SemR P Γ ops (List.range' i n) x x'
 | 0, i, x, x', es, _, h => by simp [chain] at h; obtain ⟨rfl, rfl⟩ := h; exact SemR.nil
 | n + 1, i, x, x', es, hf, h => by
  simp only [chain] at h
  split at h
  · cases h
  · rename_i x1 ef h1
    split at h
    · cases h
    · rename_i x2 es' h2
      cases h
      have ih := chain_sem hcf hfit n (i + 1) x1 x' es' (hf.next hfit h1) h2
      intro ro G a w hr
      rw [List.range'_succ, wpOpsIn_cons]
      refine stp_wp hcf hfit h1 (fun o ho hal => hf i o (Nat.le_refl _) ho hal) hr _ _ ?_
      intro G1 a1 w1 hle1 r1
      refine wpOps_mono ?_ _ _ _ (ih ro G1 a1 w1 r1)
      rintro e a' w' ⟨rfl, G2, hle2, r2⟩
      exact ⟨rfl, G2, hle1.trans hle2, r2⟩
theorem SemC.region_chain (hcf : CallsOk P Γ cf) (hfit : CallsFit cf) {id : Nat} {x x' : St} {es : List (Option Eff)} (hf : Free ops base 0 x) (h : chain P Γ cf ops base ops.size 0 x = some (x', es)) : SemC P Γ (.region id ops false) x .normal x' :=
 SemC.region (by rw [List.range_eq_range']; exact chain_sem hcf hfit _ _ _ _ _ hf h)
end
end Go.Proofs.Ytofbchcclkejgaa

/- A region that draws its order: the text's order serves every order. -/
set_option linter.unusedVariables false
set_option linter.unusedSimpArgs false
namespace Go.Proofs.Ytofbchcclkejgaa
open Go
def apartL (ks os : List Nat) : Bool := ks.all fun k => !os.contains k
theorem apartL_ne {ks os : List Nat} (h : apartL ks os = true) {k o : Nat} (hk : k ∈ ks) (ho : o ∈ os) : k ≠ o := by
 intro e
 subst e
 have := List.all_eq_true.1 h k hk
 simp at this
 exact this ho
def Eff.isPure (e : Eff) : Bool := e.ro.isEmpty && e.rn.isEmpty && e.wo.isEmpty && e.wn.isEmpty && e.xo.isEmpty && e.xn.isEmpty && e.blk.isNone && Nat.beq e.bl.1 0 && Nat.beq e.bl.2 0 && e.ko.isEmpty && e.kn.isEmpty
def Eff.looks (e : Eff) : Bool := !e.lays && e.wo.isEmpty && e.wn.isEmpty
def Eff.beside (a b : Eff) : Bool := a.blk.isSome && b.looks && (b.ro.all fun o => Nat.blt o a.bl.1) && (b.rn.all fun n => Nat.blt n a.bl.2) && apartL a.ko b.ro && apartL a.kn b.rn
def Eff.keysO (e : Eff) : List Nat := e.wo.map (·.1)
def Eff.keysN (e : Eff) : List Nat := e.wn.map (·.1)
def Eff.comm (a b : Eff) : Bool :=
 a.isPure || b.isPure || a.beside b || b.beside a || (!a.lays && !b.lays && (apartL a.keysO b.ro && apartL a.keysO b.keysO && apartL b.keysO a.ro) && (apartL a.keysN b.rn && apartL a.keysN b.keysN && apartL b.keysN a.rn))
theorem Eff.isPure_eq {e : Eff} (h : e.isPure = true) : e = .pure := by
 obtain ⟨a, b, c, d, f, g, k, ⟨l1, l2⟩, m, q⟩ := e
 simp [Eff.isPure] at h
 obtain ⟨⟨⟨⟨⟨⟨⟨⟨⟨⟨rfl, rfl⟩, rfl⟩, rfl⟩, rfl⟩, rfl⟩, rfl⟩, rfl⟩, rfl⟩, rfl⟩, rfl⟩ := h
 rfl
theorem apartL_symm {a b : List Nat} (h : apartL a b = true) : apartL b a = true := by
 refine List.all_eq_true.2 fun k hk => ?_
 simp only [Bool.not_eq_true', List.contains_eq_mem, decide_eq_false_iff_not]
 exact fun hka => apartL_ne h hka hk rfl
theorem apartL_comm (a b : List Nat) : apartL a b = apartL b a := by
 rw [Bool.eq_iff_iff]
 exact ⟨apartL_symm, apartL_symm⟩
theorem Eff.comm_symm (a b : Eff) : a.comm b = b.comm a := by
 unfold Eff.comm
 rw [Bool.or_comm a.isPure b.isPure, apartL_comm a.keysO b.keysO, apartL_comm a.keysN b.keysN, Bool.or_assoc (b.isPure || a.isPure), Bool.or_comm (a.beside b) (b.beside a), ← Bool.or_assoc]
 cases b.isPure || a.isPure <;> cases b.beside a <;> cases a.beside b <;> cases a.lays <;> cases b.lays <;> cases apartL a.keysO b.ro <;> cases apartL b.keysO a.ro <;> cases apartL a.keysN b.rn <;> cases apartL b.keysN a.rn <;> cases apartL b.keysO a.keysO <;> cases apartL b.keysN a.keysN <;> rfl
theorem Eff.ob_plain {e : Eff} (h : e.lays = false) (ob : Ob) : e.ob ob = setsO e.wo ob := by
 simp [Eff.lays] at h
 unfold Eff.ob
 rw [h.1, h.2.1]
theorem Eff.nm_plain {e : Eff} (h : e.lays = false) (nm : Nm) : e.nm nm = setsN e.wn nm := by
 simp [Eff.lays] at h
 unfold Eff.nm
 rw [h.1, h.2.2]
theorem setsO_comm : ∀ (a b : List (Nat × List V)) (ob : Ob), (∀ p ∈ a, ∀ q ∈ b, p.1 ≠ q.1) → setsO b (setsO a ob) = setsO a (setsO b ob)
 | [], b, ob, _ => rfl
 | p :: a, b, ob, h => by
  have key : ∀ (b : List (Nat × List V)) (ob : Ob), (∀ q ∈ b, p.1 ≠ q.1) → setsO b (ob.set p.1 (some p.2)) = (setsO b ob).set p.1 (some p.2) := by
   intro b
   induction b with
   | nil => intro ob _; rfl
   | cons q b ih =>
    intro ob hq
    simp only [setsO]
    rw [List.set_comm _ _ (hq q (by simp)), ih _ (fun r hr => hq r (by simp [hr]))]
  simp only [setsO]
  rw [setsO_comm a b _ (fun q hq => h q (by simp [hq])), key b ob (fun q hq => h p (by simp) q hq)]
theorem setsN_comm : ∀ (a b : List (Nat × Bf)) (nm : Nm), (∀ p ∈ a, ∀ q ∈ b, p.1 ≠ q.1) → setsN b (setsN a nm) = setsN a (setsN b nm)
 | [], b, nm, _ => rfl
 | p :: a, b, nm, h => by
  have key : ∀ (b : List (Nat × Bf)) (nm : Nm), (∀ q ∈ b, p.1 ≠ q.1) → setsN b (nm.set p.1 (some p.2)) = (setsN b nm).set p.1 (some p.2) := by
   intro b
   induction b with
   | nil => intro nm _; rfl
   | cons q b ih =>
    intro nm hq
    simp only [setsN]
    rw [List.set_comm _ _ (hq q (by simp)), ih _ (fun r hr => hq r (by simp [hr]))]
  simp only [setsN]
  rw [setsN_comm a b _ (fun q hq => h q (by simp [hq])), key b nm (fun q hq => h p (by simp) q hq)]
theorem Eff.same_refl (e : Eff) (ob : Ob) (nm : Nm) : e.same ob ob nm nm := ⟨fun _ _ => rfl, fun _ _ => rfl, fun _ => ⟨rfl, rfl⟩⟩
theorem Eff.beside_spec {a b : Eff} (h : a.beside b = true) : a.blk.isSome = true ∧ b.lays = false ∧ b.wo = [] ∧ b.wn = [] ∧ (∀ o ∈ b.ro, o < a.bl.1 ∧ o ∉ a.ko) ∧ ∀ n ∈ b.rn, n < a.bl.2 ∧ n ∉ a.kn := by
 simp only [Eff.beside, Eff.looks, Bool.and_eq_true, Bool.not_eq_true', List.isEmpty_iff] at h
 obtain ⟨⟨⟨⟨⟨h1, ⟨h2, h3⟩, h4⟩, h5⟩, h6⟩, h7⟩, h8⟩ := h
 exact ⟨h1, h2, h3, h4, fun o ho => ⟨Nat.le_of_ble_eq_true (List.all_eq_true.1 h5 o ho), fun hk => apartL_ne h7 hk ho rfl⟩, fun n hn => ⟨Nat.le_of_ble_eq_true (List.all_eq_true.1 h6 n hn), fun hk => apartL_ne h8 hk hn rfl⟩⟩
theorem Eff.comm_cases {a b : Eff} (h : a.comm b = true) : a = .pure ∨ b = .pure ∨ a.beside b = true ∨ b.beside a = true ∨ (a.lays = false ∧ b.lays = false ∧ (∀ p ∈ a.wo, p.1 ∉ b.ro) ∧ (∀ p ∈ a.wo, ∀ q ∈ b.wo, p.1 ≠ q.1) ∧ (∀ p ∈ a.wn, p.1 ∉ b.rn) ∧ (∀ p ∈ a.wn, ∀ q ∈ b.wn, p.1 ≠ q.1)) := by
 unfold Eff.comm at h
 simp only [Bool.or_eq_true, Bool.and_eq_true, Bool.not_eq_true'] at h
 rcases h with (((h | h) | h) | h) | h
 · exact .inl (Eff.isPure_eq h)
 · exact .inr (.inl (Eff.isPure_eq h))
 · exact .inr (.inr (.inl h))
 · exact .inr (.inr (.inr (.inl h)))
 · obtain ⟨⟨⟨h1, h2⟩, ⟨h3, h4⟩, h5⟩, ⟨h6, h7⟩, h8⟩ := h
   exact .inr (.inr (.inr (.inr ⟨h1, h2, fun p hp hb => apartL_ne h3 (List.mem_map.2 ⟨p, hp, rfl⟩) hb rfl, fun p hp q hq => apartL_ne h4 (List.mem_map.2 ⟨p, hp, rfl⟩) (List.mem_map.2 ⟨q, hq, rfl⟩),
    fun p hp hb => apartL_ne h6 (List.mem_map.2 ⟨p, hp, rfl⟩) hb rfl, fun p hp q hq => apartL_ne h7 (List.mem_map.2 ⟨p, hp, rfl⟩) (List.mem_map.2 ⟨q, hq, rfl⟩)⟩)))
def Eff.fits (e : Eff) (ob : Ob) (nm : Nm) : Prop := ∀ p, e.blk = some p → (∀ o : Nat, o < e.bl.1 → o ∉ e.ko → p.1[o]? = ob[o]?) ∧ ∀ n : Nat, n < e.bl.2 → n ∉ e.kn → p.2[n]? = nm[n]?
theorem Eff.blk_ob {e : Eff} {p : Ob × Nm} (h : e.blk = some p) (ob : Ob) : e.ob ob = p.1 := by simp [Eff.ob, h]
theorem Eff.blk_nm {e : Eff} {p : Ob × Nm} (h : e.blk = some p) (nm : Nm) : e.nm nm = p.2 := by simp [Eff.nm, h]
theorem Eff.looks_ob {e : Eff} (h1 : e.lays = false) (h2 : e.wo = []) (ob : Ob) : e.ob ob = ob := by rw [Eff.ob_plain h1, h2]; rfl
theorem Eff.looks_nm {e : Eff} (h1 : e.lays = false) (h2 : e.wn = []) (nm : Nm) : e.nm nm = nm := by rw [Eff.nm_plain h1, h2]; rfl
theorem Eff.comm_same {a b : Eff} (h : a.comm b = true) {ob : Ob} {nm : Nm} (hf : a.fits ob nm) : b.same ob (a.ob ob) nm (a.nm nm) := by
 rcases Eff.comm_cases h with rfl | rfl | hb | hb | ⟨h1, h2, h3, h4, h5, h6⟩
 · exact Eff.same_refl _ _ _
 · exact ⟨(fun o ho => by cases ho), (fun o ho => by cases ho), (fun hl => by cases hl)⟩
 · obtain ⟨g1, g2, g3, g4, g5, g6⟩ := Eff.beside_spec hb
   obtain ⟨p, hp⟩ := Option.isSome_iff_exists.1 g1
   obtain ⟨f1, f2⟩ := hf p hp
   refine ⟨fun o ho => ?_, fun n hn => ?_, fun hl => by rw [g2] at hl; cases hl⟩
   · rw [Eff.blk_ob hp, f1 o (g5 o ho).1 (g5 o ho).2]
   · rw [Eff.blk_nm hp, f2 n (g6 n hn).1 (g6 n hn).2]
 · obtain ⟨g1, g2, g3, g4, g5, g6⟩ := Eff.beside_spec hb
   rw [Eff.looks_ob g2 g3, Eff.looks_nm g2 g4]
   exact Eff.same_refl _ _ _
 · refine ⟨fun o ho => ?_, fun n hn => ?_, fun hl => by rw [h2] at hl; cases hl⟩
   · rw [Eff.ob_plain h1, setsO_get]
     exact fun p hp e => h3 p hp (by rw [e]; exact ho)
   · rw [Eff.nm_plain h1, setsN_get]
     exact fun p hp e => h5 p hp (by rw [e]; exact hn)
theorem Eff.comm_ob {a b : Eff} (h : a.comm b = true) (ob : Ob) : b.ob (a.ob ob) = a.ob (b.ob ob) := by
 rcases Eff.comm_cases h with rfl | rfl | hb | hb | ⟨h1, h2, h3, h4, h5, h6⟩
 · rfl
 · rfl
 · obtain ⟨g1, g2, g3, g4, g5, g6⟩ := Eff.beside_spec hb
   rw [Eff.looks_ob g2 g3, Eff.looks_ob g2 g3]
 · obtain ⟨g1, g2, g3, g4, g5, g6⟩ := Eff.beside_spec hb
   rw [Eff.looks_ob g2 g3, Eff.looks_ob g2 g3]
 · rw [Eff.ob_plain h1, Eff.ob_plain h2, Eff.ob_plain h1, Eff.ob_plain h2, setsO_comm _ _ _ h4]
theorem Eff.comm_nm {a b : Eff} (h : a.comm b = true) (nm : Nm) : b.nm (a.nm nm) = a.nm (b.nm nm) := by
 rcases Eff.comm_cases h with rfl | rfl | hb | hb | ⟨h1, h2, h3, h4, h5, h6⟩
 · rfl
 · rfl
 · obtain ⟨g1, g2, g3, g4, g5, g6⟩ := Eff.beside_spec hb
   rw [Eff.looks_nm g2 g4, Eff.looks_nm g2 g4]
 · obtain ⟨g1, g2, g3, g4, g5, g6⟩ := Eff.beside_spec hb
   rw [Eff.looks_nm g2 g4, Eff.looks_nm g2 g4]
 · rw [Eff.nm_plain h1, Eff.nm_plain h2, Eff.nm_plain h1, Eff.nm_plain h2, setsN_comm _ _ _ h6]
theorem Eff.same_symm {e : Eff} {ob ob' : Ob} {nm nm' : Nm} (h : e.same ob ob' nm nm') : e.same ob' ob nm' nm :=
 ⟨fun o ho => (h.1 o ho).symm, fun n hn => (h.2.1 n hn).symm, fun hl => ⟨(h.2.2 hl).1.symm, (h.2.2 hl).2.symm⟩⟩
def fitsO (e : Option Eff) (ob : Ob) (nm : Nm) : Prop := match e with | some e => e.fits ob nm | none => True
def obO (e : Option Eff) (ob : Ob) : Ob := match e with | some e => e.ob ob | none => ob
def nmO (e : Option Eff) (nm : Nm) : Nm := match e with | some e => e.nm nm | none => nm
def sameO (e : Option Eff) (ob ob' : Ob) (nm nm' : Nm) : Prop := match e with | some e => e.same ob ob' nm nm' | none => True
def commO : Option Eff → Option Eff → Bool
 | some a, some b => a.comm b
 | _, _ => true
theorem commO_same {a b : Option Eff} (h : commO a b = true) {ob : Ob} {nm : Nm} (hf : fitsO a ob nm) : sameO b ob (obO a ob) nm (nmO a nm) := by
 cases a <;> cases b <;> simp only [sameO, obO, nmO]
 · exact Eff.same_refl _ _ _
 · exact Eff.comm_same h hf
theorem commO_symm (a b : Option Eff) : commO a b = commO b a := by cases a <;> cases b <;> simp [commO, Eff.comm_symm]
theorem commO_ob {a b : Option Eff} (h : commO a b = true) (ob : Ob) : obO b (obO a ob) = obO a (obO b ob) := by
 cases a <;> cases b <;> simp [obO]
 exact Eff.comm_ob h ob
theorem commO_nm {a b : Option Eff} (h : commO a b = true) (nm : Nm) : nmO b (nmO a nm) = nmO a (nmO b nm) := by
 cases a <;> cases b <;> simp [nmO]
 exact Eff.comm_nm h nm
theorem sameO_symm {e : Option Eff} {ob ob' : Ob} {nm nm' : Nm} (h : sameO e ob ob' nm nm') : sameO e ob' ob nm' nm := by
 cases e with
 | none => trivial
 | some e => exact Eff.same_symm h
section
variable {P : Program} {Γ : Nat → Option V} {cf : CallF} {ops : Array Oper} {base : Nat}
def stv (P : Program) (Γ : Nat → Option V) (cf : CallF) (ops : Array Oper) (base i : Nat) (o : Oper) (x : St) : Option (V × Option Eff) :=
 match wantedL ops x.tm o with
 | none => none
 | some false => some (.tup [], none)
 | some true =>
  match evE P cf (slotOf ops base i) o (x.eval Γ) x.ob x.nm with
  | none => none
  | some out => if out.chk then some (litG (isGd ops i) out.v, some out.eff) else none
def St.app (x : St) (e : Option Eff) (d : Option Nat) (v : V) : St := ({ x with ob := obO e x.ob, nm := nmO e x.nm } : St).put d v
theorem stp_eq {i : Nat} {o : Oper} (ho : ops[i]? = some o) (x : St) : stp P Γ cf ops base i x = (stv P Γ cf ops base i o x).map fun p => (x.app p.2 o.dst p.1, p.2) := by
 unfold stp stv
 simp only [ho]
 cases hw : wantedL ops x.tm o with
 | none => rfl
 | some t =>
  cases t with
  | false => rfl
  | true =>
   simp only []
   cases he : evE P cf (slotOf ops base i) o (x.eval Γ) x.ob x.nm with
   | none => rfl
   | some out => by_cases hc : out.chk = true <;> simp [hc] <;> rfl
theorem put_tm (x : St) (d : Option Nat) (v : V) (t : Nat) (h : d ≠ some t) : (x.put d v).tm[t]? = x.tm[t]? := by
 cases d with
 | none => rfl
 | some d =>
  simp only [St.put]
  rw [List.getElem?_set_ne (fun e => h (by rw [e]))]
theorem put_ob (x : St) (d : Option Nat) (v : V) : (x.put d v).ob = x.ob := by cases d <;> rfl
theorem put_nm (x : St) (d : Option Nat) (v : V) : (x.put d v).nm = x.nm := by cases d <;> rfl
theorem stv_apart {i : Nat} {o : Oper} {x y : St} (h : ∀ t, t ∈ o.looksAt ops → y.tm[t]? = x.tm[t]?) (hob : y.ob = x.ob) (hnm : y.nm = x.nm) : stv P Γ cf ops base i o y = stv P Γ cf ops base i o x := by
 have hw : wantedL ops y.tm o = wantedL ops x.tm o := by
  unfold wantedL
  split
  · rfl
  · rename_i j want hg
    split
    · rfl
    · rename_i d hd
      rw [h d (by simp [Oper.looksAt, hg, hd])]
 have he : evE P cf (slotOf ops base i) o (y.eval Γ) y.ob y.nm = evE P cf (slotOf ops base i) o (x.eval Γ) x.ob x.nm := by
  rw [hob, hnm]
  refine evE_loc fun q hq => ?_
  cases q with
  | tmp t => simp only [St.eval]; rw [h t (by simp [Oper.looksAt]; exact .inl ⟨_, by simpa using hq, rfl⟩)]
  | _ => rfl
 unfold stv
 rw [hw, he]
theorem stv_frame (hfit : CallsFit cf) {i : Nat} {o : Oper} {x y : St} {v : V} {e : Option Eff} (h : stv P Γ cf ops base i o x = some (v, e)) (htm : y.tm = x.tm) (hs : sameO e x.ob y.ob x.nm y.nm) : stv P Γ cf ops base i o y = some (v, e) := by
 unfold stv at h ⊢
 rw [htm]
 split at h
 · cases h
 · exact h
 · split at h
   · cases h
   · rename_i out he
     split at h
     · rename_i hc
       simp only [Option.some.injEq, Prod.mk.injEq] at h
       obtain ⟨rfl, rfl⟩ := h
       have hev : y.eval Γ = x.eval Γ := by funext q; cases q <;> simp [St.eval, htm]
       rw [hev, evE_frame hfit he hs]
       simp [hc]
     · cases h
theorem stv_fits (hfit : CallsFit cf) {i : Nat} {o : Oper} {x : St} {v : V} {e : Option Eff} (h : stv P Γ cf ops base i o x = some (v, e)) : fitsO e x.ob x.nm := by
 unfold stv at h
 split at h
 · cases h
 · cases h; trivial
 · split at h
   · cases h
   · rename_i out he
     split at h
     · simp only [Option.some.injEq, Prod.mk.injEq] at h
       obtain ⟨rfl, rfl⟩ := h
       exact fun p hp => ((evE_eff hfit he).2.2 p hp).2.2
     · cases h
theorem stp_swap (hfit : CallsFit cf) {i j : Nat} {oi oj : Oper} (hi : ops[i]? = some oi) (hj : ops[j]? = some oj) (hap : oi.apart ops oj = true) {x x1 x2 : St} {ei ej : Option Eff} (h1 : stp P Γ cf ops base i x = some (x1, ei)) (h2 : stp P Γ cf ops base j x1 = some (x2, ej))
 (hc : commO ei ej = true) : ∃ x1', stp P Γ cf ops base j x = some (x1', ej) ∧ stp P Γ cf ops base i x1' = some (x2, ei) := by
 obtain ⟨a1, a2, a3⟩ := Oper.apart_spec hap
 rw [stp_eq hi] at h1
 rw [stp_eq hj] at h2
 simp only [Option.map_eq_some_iff] at h1 h2
 obtain ⟨⟨vi, ei'⟩, h1, h1'⟩ := h1
 obtain ⟨⟨vj, ej'⟩, h2, h2'⟩ := h2
 simp only [Prod.mk.injEq] at h1' h2'
 obtain ⟨rfl, rfl⟩ := h1'
 obtain ⟨rfl, rfl⟩ := h2'
 have hc' : commO ej' ei' = true := by rw [commO_symm]; exact hc
 -- j first
 have hj1 : stv P Γ cf ops base j oj x = some (vj, ej') := by
  have q1 : stv P Γ cf ops base j oj ({ x with ob := obO ei' x.ob, nm := nmO ei' x.nm } : St) = some (vj, ej') := by
   rw [← h2]
   refine (stv_apart (fun t ht => ?_) ?_ ?_).symm
   · exact put_tm _ _ _ _ (fun e => a1 t e ht)
   · exact put_ob _ _ _
   · exact put_nm _ _ _
  exact stv_frame hfit q1 rfl (sameO_symm (commO_same hc (stv_fits hfit h1)))
 refine ⟨x.app ej' oj.dst vj, by rw [stp_eq hj, hj1]; rfl, ?_⟩
 have hi1 : stv P Γ cf ops base i oi (x.app ej' oj.dst vj) = some (vi, ei') := by
  have q1 : stv P Γ cf ops base i oi ({ x with ob := obO ej' x.ob, nm := nmO ej' x.nm } : St) = some (vi, ei') := stv_frame hfit h1 rfl (commO_same hc' (stv_fits hfit hj1))
  rw [← q1]
  refine stv_apart (fun t ht => ?_) ?_ ?_
  · exact put_tm _ _ _ _ (fun e => a3 t e ht)
  · exact put_ob _ _ _
  · exact put_nm _ _ _
 rw [stp_eq hi, hi1]
 simp only [Option.map_some, Option.some.injEq, Prod.mk.injEq, and_true]
 -- the two states are one
 have e1 := commO_ob hc x.ob
 have e2 := commO_nm hc x.nm
 cases hdi : oi.dst with
 | none => cases hdj : oj.dst <;> simp [St.app, St.put, e1, e2]
 | some di =>
  cases hdj : oj.dst with
  | none => simp [St.app, St.put, e1, e2]
  | some dj =>
   have hne : di ≠ dj := fun e => a2 di hdi (by rw [hdj, e])
   simp [St.app, St.put, e1, e2, List.set_comm _ _ hne]
def anyC (P : Program) (Γ : Nat → Option V) (cf : CallF) (md : Region.Mode) (ops : Array Oper) (base : Nat) (E : Nat → Option Eff) (xf : St) : Nat → Array Bool → St → Prop
 | 0, listed, x => Region.ready md ops listed = [] ∧ x = xf
 | fuel + 1, listed, x => (Region.ready md ops listed = [] → x = xf) ∧ ∀ i ∈ Region.ready md ops listed, ∃ x', stp P Γ cf ops base i x = some (x', E i) ∧ anyC P Γ cf md ops base E xf fuel (listed.setIfInBounds i true) x'
inductive Waits (md : Region.Mode) (ops : Array Oper) (i : Nat) : Nat → Prop where
 | edge {j : Nat} {oj : Oper} {e : Edge} (h : ops[j]? = some oj) (he : e ∈ oj.after) (hb : Region.binds md e = true) (hi : e.on = i) : Waits md ops i j
 | via {j : Nat} {oj : Oper} {e : Edge} (h : ops[j]? = some oj) (he : e ∈ oj.after) (hb : Region.binds md e = true) (hi : Waits md ops i e.on) : Waits md ops i j
def Closed (md : Region.Mode) (ops : Array Oper) (listed : Array Bool) : Prop := ∀ m om, listed.getD m false = true → ops[m]? = some om → ∀ e ∈ om.after, Region.binds md e = true → listed.getD e.on false = true
theorem Closed.waits {md : Region.Mode} {listed : Array Bool} (hc : Closed md ops listed) {i : Nat} (hi : listed.getD i false = false) {j : Nat} (h : Waits md ops i j) : listed.getD j false = false := by
 cases hj : listed.getD j false with
 | false => rfl
 | true =>
  exfalso
  induction h with
  | edge h he hb e =>
   have := hc _ _ hj h _ he hb
   rw [e, hi] at this
   cases this
  | via h he hb _ ih => exact ih (hc _ _ hj h _ he hb)
theorem unlisted {listed : Array Bool} {i : Nat} (h : listed.getD i true = false) : listed.getD i false = false := by
 rcases Nat.lt_or_ge i listed.size with h' | h'
 · simpa [h'] using h
 · simp [Array.getElem?_eq_none h'] at h
theorem Closed.ready {md : Region.Mode} {listed : Array Bool} (hc : Closed md ops listed) {i j : Nat} (hi : listed.getD i true = false) (hj : j ∈ Region.ready md ops listed) : ¬ Waits md ops i j := by
 intro h
 obtain ⟨_, o, ho, hall⟩ := mem_ready.1 hj
 cases h with
 | edge h he hb e =>
  rw [ho] at h
  cases h
  have := hall _ he hb
  rw [e, unlisted hi] at this
  cases this
 | via h he hb hbb =>
  rw [ho] at h
  cases h
  have := hc.waits (unlisted hi) hbb
  rw [hall _ he hb] at this
  cases this
theorem Closed.set {md : Region.Mode} {listed : Array Bool} (hc : Closed md ops listed) {j : Nat} (hj : j ∈ Region.ready md ops listed) : Closed md ops (listed.setIfInBounds j true) := by
 intro m om hm ho e he hb
 by_cases hmj : j = m
 · subst hmj
   obtain ⟨_, o, ho', hall⟩ := mem_ready.1 hj
   rw [ho] at ho'
   cases ho'
   exact getD_set_true (hall e he hb)
 · rw [getD_set_ne false hmj] at hm
   exact getD_set_true (hc m om hm ho e he hb)
theorem anyC_first (hfit : CallsFit cf) {md : Region.Mode} {E : Nat → Option Eff} {xf : St} {i : Nat} {oi : Oper} (hi : ops[i]? = some oi) : ∀ (fuel : Nat) (listed : Array Bool) (x x1 : St),
 (∀ j oj, ops[j]? = some oj → j ≠ i → listed.getD j true = false → ¬ Waits md ops i j → oi.apart ops oj = true ∧ commO (E i) (E j) = true) → Closed md ops listed →
 i ∈ Region.ready md ops listed → stp P Γ cf ops base i x = some (x1, E i) → anyC P Γ cf md ops base E xf fuel (listed.setIfInBounds i true) x1 → anyC P Γ cf md ops base E xf (fuel + 1) listed x := by
 intro fuel
 induction fuel with
 | zero =>
  intro listed x x1 _ _ hr hs H
  refine ⟨fun h => (by rw [h] at hr; cases hr), fun j hj => ?_⟩
  by_cases hji : j = i
  · subst hji; exact ⟨x1, hs, H⟩
  · have := ready_mono hj hji
    rw [H.1] at this
    cases this
 | succ fuel ih =>
  intro listed x x1 hfree hcl hr hs H
  refine ⟨fun h => (by rw [h] at hr; cases hr), fun j hj => ?_⟩
  by_cases hji : j = i
  · subst hji; exact ⟨x1, hs, H⟩
  · obtain ⟨x2, hs2, H2⟩ := H.2 j (ready_mono hj hji)
    obtain ⟨hjun, oj, hoj, hall⟩ := mem_ready.1 hj
    have hnot : ¬ Waits md ops i j := hcl.ready (mem_ready.1 hr).1 hj
    obtain ⟨hap, hco⟩ := hfree j oj hoj hji hjun hnot
    obtain ⟨x1', g1, g2⟩ := stp_swap hfit hi hoj hap hs hs2 hco
    have hfree' : ∀ k ok, ops[k]? = some ok → k ≠ i → (listed.setIfInBounds j true).getD k true = false → ¬ Waits md ops i k → oi.apart ops ok = true ∧ commO (E i) (E k) = true := fun k ok hk hki hun hno => by
     refine hfree k ok hk hki ?_ hno
     by_cases hjk : j = k
     · subst hjk; exact hjun
     · rw [getD_set_ne true hjk] at hun; exact hun
    refine ⟨x1', g1, ih (listed.setIfInBounds j true) x1' x2 hfree' (hcl.set hj) (ready_mono hr (Ne.symm hji)) g2 ?_⟩
    rw [Array.setIfInBounds_comm _ _ hji]
    exact H2
def waitsB (ops : Array Oper) : Nat → Nat → Nat → Bool
 | 0, _, _ => false
 | n + 1, i, j =>
  match ops[j]? with
  | some o => o.after.any fun e => Region.binds .any e && (e.on == i || (Nat.blt i e.on && waitsB ops n i e.on))
  | none => false
theorem waits_spec : ∀ (n i j : Nat), waitsB ops n i j = true → Waits .any ops i j
 | 0, i, j, h => by cases h
 | n + 1, i, j, h => by
  simp only [waitsB] at h
  split at h
  · rename_i o ho
    rw [Array.any_eq_true'] at h
    obtain ⟨e, he, hh⟩ := h
    simp only [Bool.and_eq_true, Bool.or_eq_true, beq_iff_eq] at hh
    rcases hh.2 with h2 | h2
    · exact .edge ho he hh.1 h2
    · exact .via ho he hh.1 (waits_spec n i _ h2.2)
  · cases h
def commAll (ops : Array Oper) (es : List (Option Eff)) : Bool :=
 (List.range ops.size).all fun j =>
  match es[j]?.join with
  | none => true
  | some b => b.isPure || (List.range j).all fun i => match es[i]?.join with | none => true | some a => a.comm b || waitsB ops 4 i j
theorem commAll_spec {es : List (Option Eff)} (h : commAll ops es = true) {i j : Nat} {oj : Oper} (hij : i < j) (hj : ops[j]? = some oj) (hno : ¬ Waits .any ops i j) : commO (es[i]?.join) (es[j]?.join) = true := by
 have hjl : j < ops.size := by
  rcases Nat.lt_or_ge j ops.size with h' | h'
  · exact h'
  · simp [Array.getElem?_eq_none h'] at hj
 unfold commAll at h
 rw [List.all_eq_true] at h
 have h1 := h j (List.mem_range.2 hjl)
 cases hb : es[j]?.join with
 | none => cases es[i]?.join <;> rfl
 | some b =>
  cases ha : es[i]?.join with
  | none => rfl
  | some a =>
   simp only [commO]
   by_cases hp : b.isPure = true
   · rw [Eff.isPure_eq hp]; simp [Eff.comm, Eff.isPure, Eff.pure]
   · have h2 : (List.range j).all (fun i => match es[i]?.join with | none => true | some a => a.comm b || waitsB ops 4 i j) = true := by
      rw [hb] at h1
      simpa [hp] using h1
     rw [List.all_eq_true] at h2
     have h3 := h2 i (List.mem_range.2 hij)
     rw [ha] at h3
     simp only [Bool.or_eq_true] at h3
     rcases h3 with h3 | h3
     · exact h3
     · exact absurd (waits_spec _ _ _ h3) hno
theorem anyC_lex (hfit : CallsFit cf) {es : List (Option Eff)} {xf : St} (hcomm : commAll ops es = true) : ∀ (n k : Nat) (listed : Array Bool) (x : St) (es' : List (Option Eff)), k + n = ops.size → (∀ j, j < n → es'[j]? = es[k + j]?) → (∀ j, j < k → listed.getD j true = true) → Closed .any ops listed →
 Region.lexFrom .any ops n k listed = true → chain P Γ cf ops base n k x = some (xf, es') → anyC P Γ cf .any ops base (fun i => es[i]?.join) xf n listed x
 | 0, k, listed, x, es', _, _, _, _, hB, h => by
  simp only [chain, Option.some.injEq, Prod.mk.injEq] at h
  exact ⟨by simpa [Region.lexFrom] using hB, h.1⟩
 | n + 1, k, listed, x, es', hk, hes, hli, hcl, hB, h => by
  have h0 : k < ops.size := by omega
  have hok : ops[k]? = some ops[k] := Array.getElem?_eq_getElem h0
  simp only [Region.lexFrom, Bool.and_eq_true] at hB
  obtain ⟨⟨hr, hf⟩, hB'⟩ := hB
  simp only [chain] at h
  split at h
  · cases h
  · rename_i x1 ef h1
    split at h
    · cases h
    · rename_i x2 es2 h2
      cases h
      have hEk : es[k]?.join = ef := by
       have := hes 0 (by omega)
       simp at this
       rw [← this]
       rfl
      refine anyC_first hfit hok n listed x x1 ?_ hcl (by simpa using hr) (by rw [h1, hEk]) ?_
      · intro j oj hj hjk hun hno
        refine ⟨Region.free_spec hok hf j oj hj hjk hun (fun e he hb heq => hno (.edge hj he hb heq)), ?_⟩
        have hkj : k < j := by
         rcases Nat.lt_or_ge j k with hlt | hge
         · rw [hli j hlt] at hun; cases hun
         · omega
        exact commAll_spec hcomm hkj hj hno
      · refine anyC_lex hfit hcomm n (k + 1) _ x1 es2 (by omega) (fun j hj => ?_) (fun j hj => ?_) (hcl.set (by simpa using hr)) hB' h2
        · have := hes (j + 1) (by omega)
          simpa [Nat.add_assoc, Nat.add_comm 1 j] using this
        · by_cases hjk : j = k
          · subst hjk
            have hsz : j < listed.size := by
             rcases Nat.lt_or_ge j listed.size with h' | h'
             · exact h'
             · have := (mem_ready.1 (by simpa using hr : j ∈ Region.ready .any ops listed)).1
               simp [Array.getElem?_eq_none h'] at this
            simp [hsz]
          · rw [getD_set_ne true (Ne.symm hjk)]
            exact hli j (by omega)
theorem anyC_wp (hcf : CallsOk P Γ cf) (hfit : CallsFit cf) {ro : Option Nat} {E : Nat → Option Eff} {xf : St} {Q : Exit → Act → World → Prop} {G0 : Gh} (hQ : ∀ G a w, G0.le G → Rel Γ G xf a w → Q .normal a w) : ∀ (fuel : Nat) (listed : Array Bool) (x : St) (G : Gh) (a : Act) (w : World),
 (∀ j o, ops[j]? = some o → allocs o = true → listed.getD j true = false → x.ob[slotOf ops base j]? = some none ∧ x.nm[slotOf ops base j]? = some none) → G0.le G → Rel Γ G x a w → anyC P Γ cf .any ops base E xf fuel listed x → wpAnyIn (wideR ro) 0 P .any ops Q fuel listed a w
 | 0, listed, x, G, a, w, _, hle, hr, h => ⟨h.1, hQ G a w hle (h.2 ▸ hr)⟩
 | fuel + 1, listed, x, G, a, w, hfree, hle, hr, h => by
  refine ⟨fun h0 => hQ G a w hle ((h.1 h0) ▸ hr), fun i hi => ?_⟩
  obtain ⟨x', hs, H⟩ := h.2 i hi
  have hun := (mem_ready.1 hi).1
  refine stp_wp hcf hfit hs (fun o ho hal => hfree i o ho hal hun) hr _ _ ?_
  intro G' a' w' hle' hr'
  refine anyC_wp hcf hfit hQ fuel _ x' G' a' w' ?_ (hle.trans hle') hr' H
  intro j o ho hal hun'
  by_cases hij : i = j
  · subst hij
    have hsz : i < listed.size := by
     rcases Nat.lt_or_ge i listed.size with h' | h'
     · exact h'
     · simp [Array.getElem?_eq_none h'] at hun
    simp [hsz] at hun'
  · rw [getD_set_ne true hij] at hun'
    refine set_free hfit hs (hfree j o ho hal hun') fun o' ho' hal' => ?_
    intro e
    rcases Nat.lt_or_ge i j with hlt | hge
    · have := slot_lt (base := base) hlt ho' hal'; omega
    · have := slot_lt (base := base) (show j < i by omega) ho hal; omega
theorem SemC.region_draw (hcf : CallsOk P Γ cf) (hfit : CallsFit cf) (hm : P.follows .mixedOrders = true) {id : Nat} {x x' : St} {es : List (Option Eff)} (hB : Region.lexB .any ops = true) (hf : Free ops base 0 x) (h : chain P Γ cf ops base ops.size 0 x = some (x', es)) (hcomm : commAll ops es = true) :
 SemC P Γ (.region id ops true) x .normal x' := by
 intro ro G a w hr ho
 simp only [Region.lexB, Bool.and_eq_true] at hB
 refine wpIn_region_any hm ?_
 have hany := anyC_lex (P := P) (Γ := Γ) (base := base) hfit hcomm ops.size 0 (Array.replicate ops.size false) x es (by omega) (fun j _ => by simp) (fun j hj => by omega) (fun m om hm => by simp [Array.getD_eq_getD_getElem?, Array.getElem?_replicate] at hm; split at hm <;> simp at hm) hB.2 h
 refine anyC_wp hcf hfit (G0 := G) (fun G' a' w' hle hr' => ⟨rfl, G', hle.weak, hr'⟩) _ _ x G a _ (fun j o ho hal _ => hf j o (Nat.zero_le _) ho hal) (.refl G) ⟨hr.tm, hr.wr.drew, hr.df, hr.kh, hr.kt⟩ hany
end
end Go.Proofs.Ytofbchcclkejgaa

/- A range over a function: the statement. -/
set_option linter.unusedVariables false
set_option linter.unusedSimpArgs false
namespace Go.Proofs.Ytofbchcclkejgaa
open Go
def idP : V → Option V
 | .ptr o off => some (.ptr o off)
 | .sl o off n => some (.sl o off n)
 | .bs sy n off len => some (.bs sy n off len)
 | .bp n j off => some (.bp n j off)
 | _ => none
theorem idP_eq {u q : V} (h : idP u = some q) : q = u := by
 unfold idP at h
 split at h <;> first | (cases h; rfl) | cases h
theorem idP_cell : ∀ u q, idP u = some q → q.cells = [q] := by
 intro u q h
 unfold idP at h
 split at h <;> first | (cases h; rfl) | cases h
mutual
theorem cl_id : ∀ (v v' : V), v.cl idP = some v' → v' = v
 | .b x, v', h => by simp only [V.cl] at h; cases h; rfl
 | .i k n, v', h => by simp only [V.cl] at h; cases h; rfl
 | .s x, v', h => by simp only [V.cl] at h; cases h; rfl
 | .sb x, v', h => by simp only [V.cl] at h; cases h; rfl
 | .si k n, v', h => by simp only [V.cl] at h; cases h; rfl
 | .ss x, v', h => by simp only [V.cl] at h; cases h; rfl
 | .nil, v', h => by simp only [V.cl] at h; cases h; rfl
 | .ptr o off, v', h => by simp only [V.cl] at h; exact idP_eq h
 | .sl o off n, v', h => by simp only [V.cl] at h; exact idP_eq h
 | .bs sy n off len, v', h => by simp only [V.cl] at h; exact idP_eq h
 | .bp n j off, v', h => by simp only [V.cl] at h; exact idP_eq h
 | .slst t ty l, v', h => by simp only [V.cl] at h; cases h; rfl
 | .pel xs k off, v', h => by
  simp only [V.cl] at h
  split at h
  · rename_i ys hy; cases h; rw [clL_id xs ys hy]
  · cases h
 | .lst t xs, v', h => by
  simp only [V.cl] at h
  split at h
  · rename_i ys hy; cases h; rw [clL_id xs ys hy]
  · cases h
 | .fn f a c, v', h => by
  simp only [V.cl] at h
  split at h
  · rename_i x y hx hy; cases h; rw [clL_id a x hx, clL_id c y hy]
  · cases h
 | .nilfn, v', h => by simp only [V.cl] at h; cases h; rfl
 | .ifc t x, v', h => by
  simp only [V.cl] at h
  split at h
  · rename_i y hy; cases h; rw [cl_id x y hy]
  · cases h
 | .nilifc, v', h => by simp only [V.cl] at h; cases h; rfl
 | .agg cs, v', h => by
  simp only [V.cl] at h
  split at h
  · rename_i ys hy; cases h; rw [clL_id cs ys hy]
  · cases h
 | .tup cs, v', h => by
  simp only [V.cl] at h
  split at h
  · rename_i ys hy; cases h; rw [clL_id cs ys hy]
  · cases h
 | .yl _ _ _ _, v', h => by simp only [V.cl] at h; cases h
 | .tp _ _ _, v', h => by simp only [V.cl] at h; cases h
 | .nls, v', h => by simp only [V.cl] at h; cases h; rfl
 | .els, v', h => by simp only [V.cl] at h; cases h; rfl
 | .any, v', h => by simp only [V.cl] at h; cases h; rfl
theorem clL_id : ∀ (xs ys : List V), V.clL idP xs = some ys → ys = xs
 | [], ys, h => by simp only [V.clL] at h; cases h; rfl
 | x :: xs, ys, h => by
  simp only [V.clL] at h
  split at h
  · rename_i a b h1 h2; cases h; rw [cl_id x a h1, clL_id xs b h2]
  · cases h
end
theorem clL_id_mem : ∀ {xs : List V}, V.clL idP xs = some xs → ∀ v ∈ xs, v.cl idP = some v
 | [], _, v, hv => by cases hv
 | x :: xs, h, v, hv => by
  simp only [V.clL] at h
  split at h
  · rename_i a b h1 h2
    cases h
    rcases List.mem_cons.1 hv with rfl | hv
    · exact h1
    · exact clL_id_mem h2 v hv
  · cases h
def noYm (ob : Ob) (nm : Nm) : Bool :=
 (ob.all fun x => match x with | some cs => (V.clL idP cs).isSome | none => true) && nm.all fun x => match x with | some (.live (.cs _ l)) => (V.clL idP l).isSome | _ => true
theorem noYm_ob {ob : Ob} {nm : Nm} (h : noYm ob nm = true) : ∀ v ∈ ob.flatMap (fun x => x.getD []), v.cl idP = some v := by
 intro v hv
 simp only [noYm, Bool.and_eq_true, List.all_eq_true] at h
 obtain ⟨x, hx, hv⟩ := List.mem_flatMap.1 hv
 cases x with
 | none => simp at hv
 | some cs =>
  have := h.1 _ hx
  simp only [] at this
  cases hc : V.clL idP cs with
  | none => rw [hc] at this; cases this
  | some ys =>
   obtain rfl := clL_id _ _ hc
   exact clL_id_mem hc v (by simpa using hv)
theorem noYm_nm {ob : Ob} {nm : Nm} (h : noYm ob nm = true) : ∀ v ∈ nm.flatMap (fun x => match x with | some (.live c) => flat c.els | _ => []), v.cl idP = some v := by
 intro v hv
 simp only [noYm, Bool.and_eq_true, List.all_eq_true] at h
 obtain ⟨x, hx, hv⟩ := List.mem_flatMap.1 hv
 split at hv
 · rename_i c
   cases c with
   | cs sz l =>
    have := h.2 _ hx
    simp only [] at this
    cases hc : V.clL idP l with
    | none => rw [hc] at this; cases this
    | some ys =>
     obtain rfl := clL_id _ _ hc
     exact clL_id_mem (clnL_flat idP_cell hc) v hv
   | arr ty l => exact clL_id_mem (clnL_flat idP_cell (Ty.map_cl idP ty l)) v hv
   | u8 sy E l => exact clL_id_mem (clnL_flat idP_cell (u8_cl idP sy E l)) v hv
 · cases hv
theorem VRel.noY {G G' : Gh} (hm : G'.M = G.M) (hh : G'.H = G.H) (ht : G'.T = G.T) {v : V} {cv : Value} (h : VRel G v cv) (hv : v.cl idP = some v) : VRel G' v cv :=
 VRel.cl (p := idP) (G' := G') idP_cell (fun b off cv h => by rw [hm]; exact h) (fun u q cu hu hq => by
  have e := idP_eq hq
  subst e
  cases q <;> simp only [idP] at hq <;> try cases hq
  case ptr => cases hu with | ptr h => exact .ptr (by rw [hh]; exact h)
  case sl => cases hu with | sl h hc => exact .sl (by rw [hh]; exact h) hc
  case bs =>
   cases hu with
   | bs0 => exact .bs0 _ _ _
   | bs1 => exact .bs1 _ _ _ _
   | bs h hl => exact .bs (by rw [ht]; exact h) hl
  case bp => cases hu with | bp h => exact .bp (by rw [ht]; exact h)) h hv
theorem VRel.noYD {G : Gh} {b : Nat} {o : Obj} {v : V} {cv : Value} (h : VRel G v cv) (hv : v.cl idP = some v) : VRel (G.setD b o) v cv :=
 VRel.noY (G := G) (G' := G.setD b o) rfl rfl rfl h hv
section
variable {P : Program} {Γ : Nat → Option V} {G : Gh} {ob : Ob} {nm : Nm} {w : World} {σ : St}
theorem Gh.le_setD {b : Nat} {o : Obj} (h : G.D b = none) : G.le (G.setD b o) :=
 ⟨⟨fun _ _ _ h => h, fun _ _ h => h, fun _ _ h => h, fun l q k => by
  by_cases hl : l = b
  · subst hl; rw [h] at k; cases k
  · simpa [Gh.setD, hl] using k⟩, rfl, rfl, rfl, rfl, rfl⟩
theorem setD_new (G : Gh) (b : Nat) (o : Obj) : (G.setD b o).D b = some o := by simp [Gh.setD]
theorem WRel.addD (h : WRel Γ G ob nm w) {b : Nat} {o : Obj} (hb : G.D b = none) (ho : w.heap[b]? = some o) (hc : o.isCells = false) (h0 : G.w0.own b) : WRel Γ (G.setD b o) ob nm w := by
 have hle := Gh.le_setD (o := o) hb
 exact {
  m := h.m
  hob := fun o cs b h1 h2 => by
   obtain ⟨q1, ⟨q2, q3, q4, q5, q6, q7, q8⟩, q9⟩ := h.hob o cs b h1 h2
   exact ⟨q1, ⟨q2, q3, q4, q5, q6, q7, q8.mono hle⟩, q9⟩
  hlt := h.hlt
  habs := h.habs
  inj := h.inj
  hnm := fun n c x h1 h2 => (h.hnm n c x h1 h2).to rfl (fun _ _ h => h.mono hle) (fun _ h => h) (fun _ h => h) (h.hnm n c x h1 h2).obj
  hno := h.hno
  kdle := h.kdle
  nmd := h.nmd
  tabs := h.tabs
  tlt := h.tlt
  dd := fun l q hl => by
   simp only [Gh.setD] at hl
   split at hl
   · rename_i e; subst e; cases hl; exact ⟨DOk.of_heap ho hc, fun _ => h0⟩
   · exact h.dd l q hl
  gl := h.gl
  mold := h.mold
  os := h.os
  tape := h.tape
  output := h.output
  size := h.size
  block := h.block }
theorem SemC.rangeFunc {g : Operand} {ps : Array Tmp} {as bd : Code} {f : FuncId} {fn : Func} {first cap : List V} {v : V} {ob' : Ob} {nm' : Nm} (hx : σ.eval Γ g = .fn (.func f) first cap)
 (hf : P.funcs[f]? = some fn) (hb : fn.body.isSome = true) (hn : (fn.name == "runtime.NumGoroutine") = false) (h : SemF P Γ f (first ++ .yl σ.tm ps as bd :: cap) σ.ob σ.nm v ob' nm') (hY : noYm ob' nm' = true) :
 SemC P Γ (.rangeFunc g ps as bd) σ .normal { σ with ob := ob', nm := nm' } := by
 intro ro G a w hr ho
 obtain ⟨ms, hms, hdf⟩ := hr.df
 have hfx := hr.eval g
 rw [hx] at hfx
 generalize he : a.eval g = cg at hfx
 cases hfx with
 | @fn _ _ _ ca cc ha hcc h1 h2 =>
  have r1 : Rels G first ca.toList := ⟨by simpa using ha, fun j v cv g1 g2 => h1 j v cv g1 (by simpa using g2)⟩
  have r2 : Rels G cap cc.toList := ⟨by simpa using hcc, fun j v cv g1 g2 => h2 j v cv g1 (by simpa using g2)⟩
  refine wpIn_rangeFunc (fun fnid _ => ?_)
  have hn' : ¬ fn.name = "runtime.NumGoroutine" := by simpa using hn
  have hbn' : ¬ fn.body = none := by intro hh; simp [hh] at hb
  have core : ∀ (l : Nat) (mark : List Deferred) (W1 : World) (G2 : Gh) (dfs : Nat), (Instr.enterLoop fnid a.tmps ps as bd ro).run P w = .ok (l, mark) W1 → G.le G2 → WRel Γ G2 σ.ob σ.nm W1 → G.D l = none → G.w0.heap.size ≤ l →
   G2.D l = some (.loop { state := .ready, pending := none, fn := fnid, tmps := a.tmps, params := ps, assign := as, body := bd, defers := dfs }) → MarksL G2 (mark ++ ms) → (∀ D, { target := .collected D, args := #[] } ∈ mark ++ ms → D ≠ l) →
   ∃ (l : Nat) (mark : List Deferred) (w₁ : World) (d : Deferred) (w₁' : World) (f : FuncId) (args : Array Value) (w₂ : World),
    (Instr.enterLoop fnid a.tmps ps as bd (wideR ro).round).run P w = .ok (l, mark) w₁ ∧ (Go.resolve a.eval (rangeCall g l) 0).run P w₁ = .ok d w₁' ∧ (∀ f', Target.leads P w₁' d.target d.args = some f' → (wideR ro).fn f') ∧
    (invoke d.target d.args).run P w₁' = .ok (.enter f args) w₂ ∧ ((wideR ro).depth.isSome = true → 1 ≤ 0) ∧
    CallsIn (wideR ro) (0 - 1) P f args w₂ (rangePost (wideR ro) 0 P l (fun e a' w' => e = .normal ∧ ∃ G', G.leW G' ∧ Rel Γ G' { σ with ob := ob', nm := nm' } a' w') { a with defers := mark ++ a.defers }) := by
   intro l mark W1 G2 dfs e1 hle hw2 hl0 hlo hD hM hMl
   refine ⟨l, mark, W1, { target := .fn (.func f) cc, args := ca ++ #[.func (.yield l) #[] #[]] }, W1, f, ca ++ #[.func (.yield l) #[] #[]] ++ cc, W1, e1, ?_, fun _ _ => trivial, ?_, depthR, ?_⟩
   · simp [Go.resolve, he, Deferred.ofValue]; rfl
   · simp [invoke, callFunc, hf, hbn', hn']
   · have hy : VRel G2 (.yl σ.tm ps as bd) (.func (.yield l) #[] #[]) := .yl hD ⟨rfl, rfl, rfl, rfl, rfl⟩ (by have := hr.tm.1; simpa using this) (fun j v cv g1 g2 => (hr.tm.2 j v cv g1 (by simpa using g2)).mono hle)
     have hcall := h G2 W1 (ca.toList ++ .func (.yield l) #[] #[] :: cc.toList) hw2 ((r1.mono hle).append (Rels.cons hy (r2.mono hle)))
     have hargs : (ca.toList ++ Value.func (.yield l) #[] #[] :: cc.toList).toArray = ca ++ #[.func (.yield l) #[] #[]] ++ cc := by
      apply Array.ext'
      simp
     rw [hargs] at hcall
     refine callsR.2 (((callsX_fn hf).1 hcall).mono ?_)
     rintro e w' ⟨cv, G1, rfl, hle1, hv, hw1⟩
     have hD1 := hle1.d _ _ hD
     have hheap := (hw1.dd _ _ hD1).1
     refine ⟨none, _, run_endLoop hheap (by simp), ?_⟩
     have hlb : G1.w0.own l := by rw [hle1.w0, hle.w0]; exact .inl hlo
     have hw3 := hw1.putD (G2 := G1.setD l (.loop { state := .exhausted, pending := none, fn := fnid, tmps := a.tmps, params := ps, assign := as, body := bd, defers := dfs })) (o := .loop { state := .exhausted, pending := none, fn := fnid, tmps := a.tmps, params := ps, assign := as, body := bd, defers := dfs }) hD1 rfl rfl hlb rfl
      (fun v hv cv h => VRel.noYD h (noYm_ob hY v hv)) (fun v hv cv h => VRel.noYD h (noYm_nm hY v hv))
     have hle3 : G.le (G1.setD l (.loop { state := .exhausted, pending := none, fn := fnid, tmps := a.tmps, params := ps, assign := as, body := bd, defers := dfs })) := by
      have hh := hle.trans hle1
      exact ⟨⟨hh.m, hh.h, hh.t, fun k q hk => by
       have : k ≠ l := by rintro rfl; rw [hl0] at hk; cases hk
       show (if k = l then _ else G1.D k) = _
       rw [if_neg this]
       exact hh.d _ _ hk⟩, hh.kh, hh.kt, hh.w0, hh.m0, hh.kd⟩
     refine ⟨rfl, _, hle3.weak, ⟨hr.tm.mono hle3, hw3, ⟨mark ++ ms, by rw [hle3.w0, hms, List.append_assoc], hM.nd, fun d hd => ?_⟩, hle3.kh.trans hr.kh, hle3.kt.trans hr.kt⟩⟩
     obtain ⟨D, rfl, q1, q2⟩ := hM.at_ d hd
     refine ⟨D, rfl, by rw [hle3.kd, ← hle.kd]; exact q1, ?_⟩
     show (if D = l then _ else G1.D D) = _
     rw [if_neg (hMl D hd)]
     exact hle1.d _ _ q2
  have hkd : ∀ {d}, d ∈ ms → ∃ D, d = { target := .collected D, args := #[] } ∧ D < w.heap.size := fun hd => by
   obtain ⟨D, e, q1, q2⟩ := hdf.at_ _ hd
   exact ⟨D, e, hr.wr.dlt q2⟩
  cases ro with
  | none =>
   have w1 := hr.wr.alloc (.deferred (some []))
   have d1 : G.D w.heap.size = none := hr.wr.dnew (Nat.le_refl _)
   have w2 := w1.addD d1 (World.alloc_heap_new w _) rfl (.inl hr.wr.size)
   have w3 := w2.alloc (.loop { state := .ready, pending := none, fn := fnid, tmps := a.tmps, params := ps, assign := as, body := bd, defers := w.heap.size })
   have d2 : (G.setD w.heap.size (.deferred (some []))).D (w.heap.size + 1) = none := w2.dnew (by simp)
   have e4 := World.alloc_heap_new (w.alloc (.deferred (some []))) (.loop { state := .ready, pending := none, fn := fnid, tmps := a.tmps, params := ps, assign := as, body := bd, defers := w.heap.size })
   rw [World.size_alloc] at e4
   have w4 := w3.addD d2 e4 rfl (.inl (Nat.le_succ_of_le hr.wr.size))
   have hle := (Gh.le_setD (o := .deferred (some [])) d1).trans (Gh.le_setD (o := .loop { state := .ready, pending := none, fn := fnid, tmps := a.tmps, params := ps, assign := as, body := bd, defers := w.heap.size }) d2)
   refine core _ _ _ _ w.heap.size (run_enterLoop_outer _ _ _ _ _) hle w4 (hr.wr.dnew (by omega)) (by have := hr.wr.size; omega) (setD_new _ _ _) ⟨?_, ?_⟩ ?_
   · refine List.nodup_cons.2 ⟨fun hd => ?_, hdf.nd⟩
     obtain ⟨D, e, hlt⟩ := hkd hd
     have : D = w.heap.size := by simpa using e.symm
     omega
   · intro d hd
     rcases List.mem_cons.1 hd with rfl | hd
     · refine ⟨_, rfl, ?_, ?_⟩
       · show G.kd ≤ w.heap.size
         exact hr.wr.kdle
       · show (if w.heap.size = w.heap.size + 1 then _ else (if w.heap.size = w.heap.size then _ else _)) = _
         rw [if_neg (by omega), if_pos rfl]
     · exact ((hdf.mono hle.d hle.kd)).at_ d hd
   · intro D hd
     rcases List.mem_cons.1 hd with e | hd
     · have : D = w.heap.size := by simpa using e
       omega
     · obtain ⟨D', e, hlt⟩ := hkd hd
       have : D = D' := by simpa using e
       omega
  | some l0 =>
   obtain ⟨r0, hr0⟩ := ho l0 rfl
   have d1 : G.D w.heap.size = none := hr.wr.dnew (Nat.le_refl _)
   have w2 := (hr.wr.alloc (.loop { state := .ready, pending := none, fn := fnid, tmps := a.tmps, params := ps, assign := as, body := bd, defers := r0.defers })).addD d1 (World.alloc_heap_new w _) rfl (.inl hr.wr.size)
   have hle := Gh.le_setD (o := .loop { state := .ready, pending := none, fn := fnid, tmps := a.tmps, params := ps, assign := as, body := bd, defers := r0.defers }) d1
   refine core _ _ _ _ r0.defers (run_enterLoop_inner (hr.wr.dd _ _ hr0).1 _ _ _ _ _) hle w2 d1 hr.wr.size (setD_new _ _ _) (hdf.mono hle.d hle.kd) ?_
   intro D hd
   obtain ⟨D', e, hlt⟩ := hkd hd
   have : D = D' := by simpa using e
   omega
end
end Go.Proofs.Ytofbchcclkejgaa

/- A range over a function: its rounds. -/
set_option linter.unusedVariables false
set_option linter.unusedSimpArgs false
namespace Go.Proofs.Ytofbchcclkejgaa
open Go
def setPs : List Nat → List V → List V → List V
 | p :: ps, v :: vs, tm => setPs ps vs (tm.set p v)
 | _, _, tm => tm
theorem setPs_rels {G : Gh} : ∀ (ps : List Nat) (vs : List V) (cvs : List Value) (tm : List V) (t : Array Value), Rels G vs cvs → Rels G tm t.toList → Rels G (setPs ps vs tm) ((ps.zip cvs).foldl (fun t p => t.setIfInBounds p.1 p.2) t).toList
 | [], vs, cvs, tm, t, _, h => by simpa [setPs] using h
 | p :: ps, [], cvs, tm, t, h1, h => by
  have : cvs = [] := by have := h1.1; simpa using this
  subst this
  simpa [setPs] using h
 | p :: ps, v :: vs, [], tm, t, h1, h => by have := h1.1; simp at this
 | p :: ps, v :: vs, c :: cvs, tm, t, h1, h => by
  have hv : VRel G v c := h1.2 0 v c rfl rfl
  have hvs : Rels G vs cvs := ⟨by have := h1.1; simpa using this, fun j x y a b => h1.2 (j + 1) x y (by simpa using a) (by simpa using b)⟩
  simp only [setPs, List.zip_cons_cons, List.foldl_cons]
  exact setPs_rels ps vs cvs _ _ hvs (by simpa using h.set hv p)
def St.noY (x : St) : Bool := (V.clL idP x.tm).isSome && noYm x.ob x.nm
section
variable {P : Program} {Γ : Nat → Option V} {G : Gh} {ob : Ob} {nm : Nm} {w : World} {σ : St}
theorem rec_back {r : Loop} (h1 : r.state = .ready) (h2 : r.pending = none) : ({ r with state := .ready, pending := none } : Loop) = r := by
 cases r
 simp only at h1 h2
 subst h1
 subst h2
 rfl
theorem SemF.yield {tm : List V} {ps : Array Tmp} {as bd : Code} {vs : List V} {s1 s2 : St} (hf : P.funcs[yid]? = none) (hl : vs.length = ps.size)
 (hA : SemC P Γ as ⟨setPs ps.toList vs tm, ob, nm, ob.length, nm.length⟩ .normal s1) (hY : s1.noY = true) (hB : SemC P Γ bd s1 .normal s2) : SemF P Γ yid (.yl tm ps as bd :: vs) ob nm (.b true) s2.ob s2.nm := by
 intro G w cargs hw hr
 refine (callsX_yield hf).2 ?_
 match cargs, hr with
 | [], hr => exact absurd hr.1 (by simp)
 | c0 :: rest, hr =>
  have h0 : VRel G (.yl tm ps as bd) c0 := hr.2 0 _ _ rfl rfl
  have hrs : Rels G vs rest := ⟨by have := hr.1; simpa using this, fun j x y a b => hr.2 (j + 1) x y (by simpa using a) (by simpa using b)⟩
  cases h0 with
  | @yl _ _ _ _ l r hD hs hlen ht =>
   obtain ⟨s0, p0, rfl, rfl, rfl⟩ := hs
   have hheap := (hw.dd _ _ hD).1
   refine ⟨l, rest, rfl, r.fn, _, r.assign, r.body, run_yield hheap (by rw [← hl]; simpa using hrs.1), ?_⟩
   refine roundIn_of_wpIn (F := Fence.wide) trivial ?_
   have htm : Rels G tm r.tmps.toList := ⟨by simpa using hlen, fun j v cv a b => ht j v cv a (by simpa using b)⟩
   have e0 : ((r.params.zip rest.toArray).foldl (fun tmps (x : Tmp × Value) => match x with | (t, a) => tmps.setIfInBounds t a) r.tmps) = (r.params.toList.zip rest).foldl (fun t p => t.setIfInBounds p.1 p.2) r.tmps := by
    rw [← Array.foldl_toList, Array.toList_zip]
   have hps := setPs_rels r.params.toList vs rest tm r.tmps hrs htm
   rw [← e0] at hps
   have hw0 := hw.reK ob.length nm.length
   refine wpIn_mono (hA (some l) ((G.reK ob.length nm.length).reB []) _ w ⟨(hps.mono' (G.reK_sub _ _)).mono' (Gh.reB_sub _ _), hw0.reB, .nil _ rfl, rfl, rfl⟩ (fun l' e => by cases e; exact ⟨r, hD⟩)) ?_
   rintro e a1 w1 ⟨rfl, G1, hle1, r1⟩
   have hD1 : G1.D l = some (.loop r) := hle1.d _ _ hD
   have hold : G1.w0.own l := (r1.wr.dd _ _ hD1).2 rfl
   have hb1 := run_beginRound (P := P) (r1.wr.dd _ _ hD1).1 s0
   refine ⟨_, hb1, ?_⟩
   simp only [St.noY, Bool.and_eq_true] at hY
   obtain ⟨hY1, hY2⟩ := hY
   have hw2 := r1.wr.putD (G2 := G1.setD l (.loop { r with state := .busy })) (o := .loop { r with state := .busy }) hD1 rfl rfl hold rfl (fun v hv cv h => VRel.noYD h (noYm_ob hY2 v hv)) (fun v hv cv h => VRel.noYD h (noYm_nm hY2 v hv))
   have htm1 : V.clL idP s1.tm = some s1.tm := by
    cases hc : V.clL idP s1.tm with
    | none => rw [hc] at hY1; cases hY1
    | some ys => rw [clL_id _ _ hc]
   have rel2 : Rel Γ (G1.setD l (.loop { r with state := .busy })) s1 a1 (w1.putObj l (.loop { r with state := .busy })) :=
    ⟨⟨r1.tm.1, fun j v cv a b => VRel.noYD (r1.tm.2 j v cv a b) (clL_id_mem htm1 v (List.mem_of_getElem? a))⟩, hw2, r1.df.elim fun ms ⟨hms, hdf⟩ => ⟨ms, hms, hdf.nd, fun d hd => by
     obtain ⟨D, e, q1, q2⟩ := hdf.at_ d hd
     refine ⟨D, e, q1, ?_⟩
     show (if D = l then _ else G1.D D) = _
     rw [if_neg (by rintro rfl; rw [hD1] at q2; cases q2)]
     exact q2⟩, r1.kh, r1.kt⟩
   have ro2 : RoOk (G1.setD l (.loop { r with state := .busy })) (some l) := fun l' e => by cases e; exact ⟨_, setD_new _ _ _⟩
   refine wpIn_mono (hB (some l) _ a1 _ rel2 ro2) ?_
   rintro e a2 w3 ⟨rfl, G2, hle2, r2⟩
   have hD2 : G2.D l = some (.loop { r with state := .busy }) := hle2.d _ _ (setD_new _ _ _)
   have he := run_endRound (P := P) none (r2.wr.dd _ _ hD2).1
   simp only [Option.isNone_none, if_true] at he
   rw [rec_back s0 p0] at he
   refine ⟨_, _, he, .bool true, ((G2.setD l (.loop r)).reK G.kh G.kt).reB G.w0.bd, rfl, ?_, .b true, ?_⟩
   · refine ⟨⟨fun b off cv h => hle2.m b off cv (hle1.m b off cv h), fun o b h => ?_, fun n x h => ?_, fun k q h => ?_⟩, rfl, rfl, by show { G2.w0 with bd := G.w0.bd } = G.w0; rw [hle2.w0]; show { G1.w0 with bd := G.w0.bd } = G.w0; rw [hle1.w0]; rfl, hle2.m0.trans hle1.m0, hle2.kd.trans hle1.kd⟩
     · have hlt := (hw.hlt o b h).1
       have g1 := hle1.h o b hlt h
       exact hle2.h o b (by show o < G1.kh; rw [hle1.kh]; exact hlt) g1
     · have hlt := hw.tlt n x h
       have g1 := hle1.t n x hlt h
       exact hle2.t n x (by show n < G1.kt; rw [hle1.kt]; exact hlt) g1
     · show (if k = l then _ else G2.D k) = _
       by_cases hk : k = l
       · subst hk; rw [hD] at h; cases h; rw [if_pos rfl]
       · rw [if_neg hk]
         refine hle2.d _ _ ?_
         show (if k = l then _ else G1.D k) = _
         rw [if_neg hk]
         exact hle1.d _ _ h
   · have gd : ∀ {v : V} {cv : Value}, VRel G2 v cv → VRel (G2.setD l (.loop r)) v cv := fun h =>
      VRel.mono0 (G := G2) (G' := G2.setD l (.loop r)) (fun _ _ _ h => h) (fun _ _ h => h) (fun _ _ h => h) (fun l' q hq h => by
       show (if l' = l then _ else G2.D l') = _
       by_cases hk : l' = l
       · subst hk; rw [hD2] at h; cases h; cases hq
       · rw [if_neg hk]; exact h) (fun l' E n h => by
       show (if l' = l then _ else G2.D l') = _
       by_cases hk : l' = l
       · subst hk; rw [hD2] at h; cases h
       · rw [if_neg hk]; exact h) h
     exact (r2.wr.putD (o := .loop r) hD2 rfl rfl (by rw [hle2.w0]; exact hold) rfl (fun v _ cv h => gd h) (fun v _ cv h => gd h)).reK _ _ |>.reB
end
end Go.Proofs.Ytofbchcclkejgaa

/- The evaluator of code and functions, and its soundness. -/
set_option linter.unusedVariables false
set_option linter.unusedSimpArgs false
namespace Go.Proofs.Ytofbchcclkejgaa
open Go
section
variable {P : Program} {Γ : Nat → Option V} {cf : CallF} {ops : Array Oper} {base : Nat}
def evReg (P : Program) (Γ : Nat → Option V) (cf : CallF) (ops : Array Oper) (base : Nat) : Nat → Nat → St → Tr (St × List (Option Eff))
 | 0, _, x => .leaf (some (x, []))
 | n + 1, i, x =>
  match ops[i]? with
  | none => (evReg P Γ cf ops base n (i + 1) x).bind fun p => .leaf (some (p.1, none :: p.2))
  | some o =>
   match wantedL ops x.tm o with
   | none => .leaf none
   | some false => (evReg P Γ cf ops base n (i + 1) (x.put o.dst (.tup []))).bind fun p => .leaf (some (p.1, none :: p.2))
   | some true =>
    match evE P cf (slotOf ops base i) o (x.eval Γ) x.ob x.nm with
    | none => .leaf none
    | some out =>
     Tr.chk out.chk out.sy (match isGd ops i, out.v with
      | true, .sb b => .br b ((evReg P Γ cf ops base n (i + 1) (x.after out o.dst (.b true))).bind fun p => .leaf (some (p.1, some out.eff :: p.2)))
       ((evReg P Γ cf ops base n (i + 1) (x.after out o.dst (.b false))).bind fun p => .leaf (some (p.1, some out.eff :: p.2)))
      | _, v => (evReg P Γ cf ops base n (i + 1) (x.after out o.dst v)).bind fun p => .leaf (some (p.1, some out.eff :: p.2)))
theorem evReg_run : ∀ (n i : Nat) (x : St), (evReg P Γ cf ops base n i x).run = chain P Γ cf ops base n i x
 | 0, i, x => rfl
 | n + 1, i, x => by
  have hb : ∀ (y : St) (ef : Option Eff), ((evReg P Γ cf ops base n (i + 1) y).bind fun p => Tr.leaf (some (p.1, ef :: p.2))).run = (match chain P Γ cf ops base n (i + 1) y with | none => none | some (x2, es) => some (x2, ef :: es)) := fun y ef => by
   rw [Tr.run_bind, evReg_run n (i + 1) y]
   cases chain P Γ cf ops base n (i + 1) y with
   | none => rfl
   | some p => rfl
  simp only [evReg, chain, stp]
  cases ho : ops[i]? with
  | none => exact hb x none
  | some o =>
   simp only []
   cases hw : wantedL ops x.tm o with
   | none => rfl
   | some t =>
    cases t with
    | false => exact hb _ none
    | true =>
     simp only []
     cases he : evE P cf (slotOf ops base i) o (x.eval Γ) x.ob x.nm with
     | none => rfl
     | some out =>
      simp only [Tr.run_chk]
      by_cases hc : out.chk = true
      · simp only [hc, if_true]
        cases hg : isGd ops i with
        | false => simp only [litG]; exact hb _ _
        | true =>
         cases hv : out.v with
         | sb b => cases b <;> exact hb _ _
         | _ => simp only [litG]; exact hb _ _
      · simp [hc]
inductive Ex where
 | normal | exit (id : Nat) | ret
def Ex.to : Ex → Exit
 | .normal => .normal
 | .exit id => .exit id
 | .ret => .ret
def padK (ops : Array Oper) : Nat := (ops.toList.filter allocs).length
def St.basis (x : St) : Nat := max x.ob.length x.nm.length
def St.pad (x : St) (k : Nat) : St :=
 match k with
 | 0 => x
 | k + 1 => { x with ob := x.ob ++ List.replicate (x.basis + (k + 1) - x.ob.length) none, nm := x.nm ++ List.replicate (x.basis + (k + 1) - x.nm.length) none }
def evRegion (P : Program) (Γ : Nat → Option V) (cf : CallF) (ops : Array Oper) (draw : Bool) (x : St) : Tr (Ex × St) :=
 match draw with
 | false => (evReg P Γ cf ops x.basis ops.size 0 (x.pad (padK ops))).bind fun p => .leaf (some (.normal, p.1))
 | true =>
  match Region.lexB .any ops with
  | true => (evReg P Γ cf ops x.basis ops.size 0 (x.pad (padK ops))).bind fun p => match commAll ops p.2 with | true => .leaf (some (.normal, p.1)) | false => .leaf none
  | false => .leaf none
def evRange (P : Program) (Γ : Nat → Option V) (cf : CallF) (g : Operand) (ps : Array Tmp) (as bd : Code) (x : St) : Tr (Ex × St) :=
 match x.eval Γ g with
 | .fn (.func f) first cap =>
  match Nat.beq f yid with
  | true => .leaf none
  | false =>
   match cf f (first ++ .yl x.tm ps as bd :: cap) x.ob x.nm with
   | some out =>
    match noYm (out.eff.ob x.ob) (out.eff.nm x.nm) with
    | true =>
     match out.sy with
     | true => .br out.chk (.leaf (some (.normal, { x with ob := out.eff.ob x.ob, nm := out.eff.nm x.nm }))) (.leaf none)
     | false => match out.chk with | true => .leaf (some (.normal, { x with ob := out.eff.ob x.ob, nm := out.eff.nm x.nm })) | false => .leaf none
    | false => .leaf none
   | none => .leaf none
 | _ => .leaf none
def evC (P : Program) (Γ : Nat → Option V) (cf : CallF) : Nat → Code → St → Tr (Ex × St)
 | 0, _, _ => .leaf none
 | n + 1, c, x =>
  match c with
  | .skip => .leaf (some (.normal, x))
  | .ret => .leaf (some (.ret, x))
  | .exit id => .leaf (some (.exit id, x))
  | .region _ ops draw => evRegion P Γ cf ops draw x
  | .seq a b => (evC P Γ cf n a x).bind fun p => match p.1 with | .normal => evC P Γ cf n b p.2 | e => .leaf (some (e, p.2))
  | .cond c t f =>
   match (x.eval Γ c).bool? with
   | some (b, true) => .br b (evC P Γ cf n t x) (evC P Γ cf n f x)
   | some (true, false) => evC P Γ cf n t x
   | some (false, false) => evC P Γ cf n f x
   | none => .leaf none
  | .block id b => (evC P Γ cf n b x).bind fun p => match p.1 with | .exit i => if i = id then .leaf (some (.normal, p.2)) else .leaf (some (.exit i, p.2)) | e => .leaf (some (e, p.2))
  | .loop b => (evC P Γ cf n b x).bind fun p => match p.1 with | .normal => evC P Γ cf n (.loop b) p.2 | e => .leaf (some (e, p.2))
  | .rangeFunc g ps as bd => evRange P Γ cf g ps as bd x
  | _ => .leaf none
theorem rep_get {α : Type} {l : List (Option α)} {k o : Nat} {c : Option α} (hc : (l ++ List.replicate k none)[o]? = some c) : l[o]? = some c ∨ (l.length ≤ o ∧ c = none) := by
 rcases Nat.lt_or_ge o l.length with hl | hl
 · rw [List.getElem?_append_left hl] at hc; exact .inl hc
 · rw [List.getElem?_append_right hl, List.getElem?_replicate] at hc
   split at hc
   · simp at hc; exact .inr ⟨hl, hc.symm⟩
   · cases hc
theorem WRel.padded {G : Gh} {ob : Ob} {nm : Nm} {w : World} (h : WRel Γ G ob nm w) (k m : Nat) : WRel Γ G (ob ++ List.replicate k none) (nm ++ List.replicate m none) w :=
 { h with
  hob := fun o cs b h1 h2 => by
   rcases rep_get h1 with h1 | ⟨_, h1⟩
   · exact h.hob o cs b h1 h2
   · cases h1
  hlt := fun o b h1 => ⟨by have := (h.hlt o b h1).1; simp; omega, (h.hlt o b h1).2⟩
  habs := fun o h1 => by
   rcases rep_get h1 with h1 | ⟨h1, _⟩
   · exact h.habs o h1
   · cases hh : G.H o with
     | none => rfl
     | some b => have := (h.hlt o b hh).1; omega
  hnm := fun n c x h1 h2 => by
   rcases rep_get h1 with h1 | ⟨_, h1⟩
   · exact h.hnm n c x h1 h2
   · cases h1
  hno := fun n c h1 h2 => by
   rcases rep_get h1 with h1 | ⟨_, h1⟩
   · exact h.hno n c h1 h2
   · cases h1
  nmd := fun n n' c c' x x' hn h1 h2 h3 h4 => by
   rcases rep_get h1 with h1 | ⟨_, h1⟩
   · rcases rep_get h2 with h2 | ⟨_, h2⟩
     · exact h.nmd n n' c c' x x' hn h1 h2 h3 h4
     · cases h2
   · cases h1
  tabs := fun n h1 => by
   rcases rep_get h1 with h1 | ⟨h1, _⟩
   · exact h.tabs n h1
   · cases hh : G.T n with
     | none => rfl
     | some b => have := h.tlt n b hh; omega
  tlt := fun n x h1 => by have := h.tlt n x h1; simp; omega
  dd := h.dd
  kdle := h.kdle }
theorem Rel.pad {G : Gh} {x : St} {a : Act} {w : World} (h : Rel Γ G x a w) (k : Nat) : Rel Γ G (x.pad k) a w := by
 cases k with
 | zero => exact h
 | succ k => exact ⟨h.tm, h.wr.padded _ _, h.df, h.kh, h.kt⟩
theorem pad_free (x : St) : Free ops x.basis 0 (x.pad (padK ops)) := by
 intro j o _ ho hal
 have hj : j < ops.toList.length := by
  rcases Nat.lt_or_ge j ops.toList.length with h | h
  · exact h
  · have : ops.toList[j]? = some o := by simpa using ho
    rw [List.getElem?_eq_none h] at this
    cases this
 have h1 : ops.toList.take (j + 1) = ops.toList.take j ++ [o] := by
  rw [List.take_succ_eq_append_getElem hj]
  congr 2
  have : ops.toList[j]? = some o := by simpa using ho
  rw [List.getElem?_eq_getElem hj] at this
  exact Option.some.inj this
 have h2 : ((ops.toList.take j).filter allocs).length + 1 = ((ops.toList.take (j + 1)).filter allocs).length := by rw [h1]; simp [hal]
 have h3 : ((ops.toList.take (j + 1)).filter allocs).length ≤ padK ops := ((List.take_sublist _ _).filter _).length_le
 have b1 : x.ob.length ≤ x.basis := Nat.le_max_left _ _
 have b2 : x.nm.length ≤ x.basis := Nat.le_max_right _ _
 cases hp : padK ops with
 | zero => omega
 | succ k =>
  simp only [St.pad, slotOf]
  rw [hp] at h3
  rw [List.getElem?_append_right (by omega), List.getElem?_append_right (by omega), List.getElem?_replicate, List.getElem?_replicate, if_pos (by omega), if_pos (by omega)]
  exact ⟨rfl, rfl⟩
theorem SemC.of_pad {c : Code} {x x' : St} {e : Exit} {k : Nat} (h : SemC P Γ c (x.pad k) e x') : SemC P Γ c x e x' := fun ro G a w hr ho => h ro G a w (hr.pad k) ho
theorem evRegion_sound (hcf : CallsOk P Γ cf) (hfit : CallsFit cf) (hm : P.follows .mixedOrders = true) {id : Nat} {draw : Bool} {x : St} {e : Ex} {x' : St} (h : (evRegion P Γ cf ops draw x).run = some (e, x')) : SemC P Γ (.region id ops draw) x e.to x' := by
 unfold evRegion at h
 cases draw with
 | false =>
  simp only [Tr.run_bind, evReg_run] at h
  cases hc : chain P Γ cf ops x.basis ops.size 0 (x.pad (padK ops)) with
  | none => rw [hc] at h; cases h
  | some p =>
   rw [hc] at h
   cases h
   exact SemC.of_pad (SemC.region_chain hcf hfit (pad_free x) hc)
 | true =>
  simp only [] at h
  cases hB : Region.lexB .any ops with
  | false => rw [hB] at h; cases h
  | true =>
   rw [hB] at h
   simp only [Tr.run_bind, evReg_run] at h
   cases hc : chain P Γ cf ops x.basis ops.size 0 (x.pad (padK ops)) with
   | none => rw [hc] at h; cases h
   | some p =>
    rw [hc] at h
    simp only [Option.bind_some] at h
    cases hco : commAll ops p.2 with
    | false => rw [hco] at h; cases h
    | true =>
     rw [hco] at h
     cases h
     exact SemC.of_pad (SemC.region_draw hcf hfit hm hB (pad_free x) hc hco)
theorem evRange_sound (hcf : CallsOk P Γ cf) {g : Operand} {ps : Array Tmp} {as bd : Code} {x : St} {e : Ex} {x' : St} (h : (evRange P Γ cf g ps as bd x).run = some (e, x')) : SemC P Γ (.rangeFunc g ps as bd) x e.to x' := by
 unfold evRange at h
 split at h
 · rename_i f first cap hx
   split at h
   · cases h
   · rename_i hne
     split at h
     · rename_i out ho
       split at h
       · rename_i hY
         have key : out.chk = true ∧ e = .normal ∧ x' = { x with ob := out.eff.ob x.ob, nm := out.eff.nm x.nm } := by
          split at h
          · simp only [Tr.run] at h
            cases hc : out.chk <;> rw [hc] at h <;> simp [Tr.run] at h
            exact ⟨rfl, h.1.symm, h.2.symm⟩
          · split at h
            · rename_i hc
              simp [Tr.run] at h
              exact ⟨hc, h.1.symm, h.2.symm⟩
            · simp [Tr.run] at h
         obtain ⟨hchk, rfl, rfl⟩ := key
         obtain ⟨h1, hn⟩ := hcf _ _ _ _ _ ho hchk
         rcases hn with ⟨e, _⟩ | ⟨_, fn, h2, h3, h4⟩
         · exact absurd e (beq_ne hne)
         · exact SemC.rangeFunc hx h2 h3 h4 h1 hY
       · cases h
     · cases h
 · cases h
theorem evC_sound' (hcf : CallsOk P Γ cf) (hfit : CallsFit cf) (hm : P.follows .mixedOrders = true) : ∀ (n : Nat) (c : Code) (x : St) (e : Ex) (x' : St), (evC P Γ cf n c x).run = some (e, x') → SemC P Γ c x e.to x' ∧ ∀ b, c = .loop b → SemL P Γ b x e.to x'
 | 0, c, x, e, x', h => by cases h
 | n + 1, c, x, e, x', h => by
  have ihl := evC_sound' hcf hfit hm n
  have ih := fun c x e x' h => (ihl c x e x' h).1
  have hbind : ∀ {c : Code} {y : St} {f : Ex × St → Tr (Ex × St)} {r : Ex × St}, ((evC P Γ cf n c y).bind f).run = some r → ∃ p, (evC P Γ cf n c y).run = some p ∧ (f p).run = some r := fun {c y f r} hh => by
   rw [Tr.run_bind] at hh
   cases hp : (evC P Γ cf n c y).run with
   | none => rw [hp] at hh; cases hh
   | some p => rw [hp] at hh; exact ⟨p, rfl, hh⟩
  cases c with
  | skip => cases h; exact ⟨SemC.skip, fun b hb => by cases hb⟩
  | ret => cases h; exact ⟨SemC.ret, fun b hb => by cases hb⟩
  | exit id => cases h; exact ⟨SemC.exit, fun b hb => by cases hb⟩
  | region id ops draw => exact ⟨evRegion_sound hcf hfit hm h, fun b hb => by cases hb⟩
  | seq a b =>
   refine ⟨?_, fun b hb => by cases hb⟩
   obtain ⟨⟨e1, x1⟩, h1, h2⟩ := hbind h
   cases e1 with
   | normal => exact SemC.seq (ih a x .normal x1 h1) (ih b x1 e x' h2)
   | exit i => cases h2; exact SemC.seq_out (by simp [Ex.to]) (ih a x _ _ h1)
   | ret => cases h2; exact SemC.seq_out (by simp [Ex.to]) (ih a x _ _ h1)
  | cond q t f =>
   refine ⟨?_, fun b hb => by cases hb⟩
   simp only [evC] at h
   cases hq : (x.eval Γ q).bool? with
   | none => rw [hq] at h; cases h
   | some p =>
    obtain ⟨b, s⟩ := p
    rw [hq] at h
    intro ro G a w hr ho
    have hb := bool?_eq hq (hr.eval q)
    cases b
    · have h' : (evC P Γ cf n f x).run = some (e, x') := by cases s <;> exact h
      exact wpIn_cond_false hb (ih f x e x' h' ro G a w hr ho)
    · have h' : (evC P Γ cf n t x).run = some (e, x') := by cases s <;> exact h
      exact wpIn_cond_true hb (ih t x e x' h' ro G a w hr ho)
  | block id b =>
   refine ⟨?_, fun b hb => by cases hb⟩
   obtain ⟨⟨e1, x1⟩, h1, h2⟩ := hbind h
   cases e1 with
   | normal => cases h2; exact SemC.block (by simp [Ex.to]) (ih b x _ _ h1)
   | ret => cases h2; exact SemC.block (by simp [Ex.to]) (ih b x _ _ h1)
   | exit i =>
    simp only [] at h2
    split at h2
    · rename_i hi; subst hi; cases h2; exact SemC.block_exit (ih b x _ _ h1)
    · rename_i hi; cases h2; exact SemC.block (by simpa [Ex.to] using hi) (ih b x _ _ h1)
  | loop b =>
   have key : SemL P Γ b x e.to x' := by
    obtain ⟨⟨e1, x1⟩, h1, h2⟩ := hbind h
    cases e1 with
    | normal => exact SemL.next (ih b x .normal x1 h1) ((ihl (.loop b) x1 e x' h2).2 b rfl)
    | exit i => cases h2; exact SemL.out (by simp [Ex.to]) (ih b x _ _ h1)
    | ret => cases h2; exact SemL.out (by simp [Ex.to]) (ih b x _ _ h1)
   exact ⟨SemC.loop key, fun b' hb => by cases hb; exact key⟩
  | rangeFunc g ps as bd => exact ⟨evRange_sound hcf h, fun b hb => by cases hb⟩
  | _ => cases h
theorem evC_sound (hcf : CallsOk P Γ cf) (hfit : CallsFit cf) (hm : P.follows .mixedOrders = true) {n : Nat} {c : Code} {x : St} {e : Ex} {x' : St} (h : (evC P Γ cf n c x).run = some (e, x')) : SemC P Γ c x e.to x' := (evC_sound' hcf hfit hm n c x e x' h).1
def evF (P : Program) (Γ : Nat → Option V) (cf : CallF) (n : Nat) (f : FuncId) (args : List V) (ob : Ob) (nm : Nm) : Tr (V × St) :=
 match P.funcs[f]? with
 | none => .leaf none
 | some fn =>
  match fn.body with
  | none => .leaf none
  | some c =>
   if fn.name == "runtime.NumGoroutine" then .leaf none else
   (evC P Γ cf n c (St.start fn.ntmps args ob nm)).bind fun p =>
    match p.1 with
    | .exit _ => .leaf none
    | _ => match resV P p.2 fn.results.toList with | some v => .leaf (some (v, p.2)) | none => .leaf none
open Classical in
theorem SemF.drop {f : FuncId} {args : List V} {v v' : V} {ob1 : Ob} {nm1 : Nm} (h : SemF P Γ f args [] [] v ob1 nm1) (hc : v.cl (lendP ob1 nm1) = some v') : SemF P Γ f args [] [] v' [] [] := by
 intro G w cargs hw hr
 refine (h G w cargs hw hr).mono ?_
 rintro e w' ⟨cv, G1, rfl, hle, hv, hw1⟩
 have hH : ∀ o b, G.H o ≠ some b := fun o b hh => by have := (hw.hlt o b hh).1; simp at this
 have hT : ∀ n t, G.T n ≠ some t := fun n t hh => by have := hw.tlt n t hh; simp at this
 let M1 : Nat → Nat → Option Value := fun b off => if Lent G1 ob1 nm1 b then w'.cell? ⟨b, off, none⟩ else G1.M b off
 have hM : ∀ b off cv, G1.M b off = some cv → M1 b off = some cv := fun b off cv hm => by
  show (if _ then _ else _) = _
  split
  · exact hw1.m b off cv hm
  · exact hm
 let G2 : Gh := { M := M1, H := fun _ => none, T := fun _ => none, D := G1.D, kh := G1.kh, kt := G1.kt, w0 := G1.w0, M0 := G1.M0, kd := G1.kd }
 have hb0 : G1.bare.sub G2 := ⟨hM, (fun _ _ h => by cases h), (fun _ _ h => by cases h), (fun _ _ h => by cases h)⟩
 have hold : ∀ b, Lent G1 ob1 nm1 b → G1.w0.own b := fun b hb => by
  rcases hb with ⟨o, cs, h1, h2⟩ | ⟨n, c, x, h1, h2, rfl⟩
  · exact (hw1.hob o cs b h1 h2).1
  · exact (hw1.hnm n c x h1 h2).old
 refine ⟨cv, G2, rfl, ⟨⟨fun b off cv hm => hM b off cv (hle.m b off cv hm), fun o b hh => absurd hh (hH o b), fun n t hh => absurd hh (hT n t), hle.d⟩, hle.kh, hle.kt, hle.w0, hle.m0, hle.kd⟩,
  VRel.cl (lendP_cell ob1 nm1) hM (lendP_rel hw1 (fun b hb off => if_pos hb) hb0) hv hc, ?_⟩
 exact {
  m := fun b off cv hm => by
   have hm : (if Lent G1 ob1 nm1 b then w'.cell? ⟨b, off, none⟩ else G1.M b off) = some cv := hm
   split at hm
   · exact hm
   · exact hw1.m b off cv hm
  hob := fun o cs b h1 h2 => by simp at h1
  hlt := fun o b h1 => by cases h1
  habs := fun o h1 => rfl
  inj := fun o o' b h1 h2 => by cases h1
  hnm := fun n c x h1 h2 => by simp at h1
  hno := fun n c h1 => by simp at h1
  nmd := fun n n' c c' x x' _ h1 => by simp at h1
  tabs := fun n _ => rfl
  tlt := fun n t h1 => by cases h1
  dd := hw1.dd
  kdle := hw1.kdle
  gl := fun g v hg => (hw1.gl g v hg).mono' hb0.bare
  mold := fun b off hb => by
   show (if Lent G1 ob1 nm1 b then w'.cell? ⟨b, off, none⟩ else G1.M b off) = G1.M0 b off
   rw [if_neg (fun hl => hb (hold b hl))]
   exact hw1.mold b off hb
  os := hw1.os
  tape := hw1.tape
  output := hw1.output
  size := hw1.size
  block := hw1.block }
theorem SemF.weaken {f : FuncId} {args : List V} {v v' : V} {ob ob1 : Ob} {nm nm1 : Nm} (h : SemF P Γ f args ob nm v ob1 nm1) (hw : ∀ (G : Gh) (cv : Value), VRel G v cv → VRel G v' cv) : SemF P Γ f args ob nm v' ob1 nm1 :=
 fun G w cargs h1 h2 => (h G w cargs h1 h2).mono fun e w' ⟨cv, G1, h3, h4, h5, h6⟩ => ⟨cv, G1, h3, h4, hw _ _ h5, h6⟩
inductive MRes where
 | bad | dead | ok (c : Option Bool) (v : V)
def MRes.mg (b : Bool) : MRes → MRes → MRes
 | .bad, _ => .bad
 | _, .bad => .bad
 | .dead, .dead => .dead
 | .ok c v, .dead => .ok (some (match c with | none => b | some c => b && c)) v
 | .dead, .ok c v => .ok (some (match c with | none => !b | some c => !b && c)) v
 | .ok c v, .ok d u =>
  match mergeV b v u with
  | some z => .ok (match c, d with | none, none => none | some c, none => some (!b || c) | none, some d => some (b || d) | some c, some d => some (bif b then c else d)) z
  | none => .bad
def mergeT : Tr (V × St) → MRes
 | .leaf none => .dead
 | .leaf (some p) => match p.1.cl (lendP p.2.ob p.2.nm) with | some v => .ok none v | none => .bad
 | .br b x y => (mergeT x).mg b (mergeT y)
theorem mergeT_run : ∀ (t : Tr (V × St)) (c : Option Bool) (v : V), mergeT t = .ok c v → c.getD true = true → ∃ u s u', t.run = some (u, s) ∧ u.cl (lendP s.ob s.nm) = some u' ∧ ∀ (G : Gh) (cv : Value), VRel G u' cv → VRel G v cv
 | .leaf none, c, v, h, _ => by cases h
 | .leaf (some p), c, v, h, _ => by
  simp only [mergeT] at h
  split at h
  · rename_i q hq; cases h; exact ⟨p.1, p.2, _, rfl, hq, fun _ _ h => h⟩
  · cases h
 | .br b x y, c, v, h, hc => by
  simp only [mergeT] at h
  cases hx : mergeT x with
  | bad => rw [hx] at h; cases h
  | dead =>
   cases hy : mergeT y with
   | bad => rw [hx, hy] at h; cases h
   | dead => rw [hx, hy] at h; cases h
   | ok d u =>
    rw [hx, hy] at h
    cases h
    have hc' : b = false ∧ d.getD true = true := by cases d <;> simpa using hc
    obtain ⟨rfl, hd⟩ := hc'
    exact mergeT_run y d _ hy hd
  | ok d u =>
   cases hy : mergeT y with
   | bad => rw [hx, hy] at h; cases h
   | dead =>
    rw [hx, hy] at h
    cases h
    have hc' : b = true ∧ d.getD true = true := by cases d <;> simpa using hc
    obtain ⟨rfl, hd⟩ := hc'
    exact mergeT_run x d _ hx hd
   | ok d2 u2 =>
    rw [hx, hy] at h
    simp only [MRes.mg] at h
    split at h
    · rename_i z hz
      cases h
      have hm := mergeV_ok b u u2 v hz
      have hcc : (bif b then d.getD true else d2.getD true) = true := by
       cases b <;> cases d <;> cases d2 <;> first | rfl | simpa using hc
      cases b with
      | true =>
       obtain ⟨q, s, q', h1, h2, h3⟩ := mergeT_run x d u hx hcc
       exact ⟨q, s, q', h1, h2, fun G cv hr => hm G cv (h3 G cv hr)⟩
      | false =>
       obtain ⟨q, s, q', h1, h2, h3⟩ := mergeT_run y d2 u2 hy hcc
       exact ⟨q, s, q', h1, h2, fun G cv hr => hm G cv (h3 G cv hr)⟩
    · cases h
abbrev Orc := FuncId → List V → Option (Option Bool × V)
def OrcOk (P : Program) (Γ : Nat → Option V) (orc : Orc) : Prop :=
 ∀ f args c v, orc f args = some (c, v) → c.getD true = true → SemF P Γ f args [] [] v [] [] ∧ ∃ fn, P.funcs[f]? = some fn ∧ fn.body.isSome = true ∧ (fn.name == "runtime.NumGoroutine") = false
mutual
def V.refs : V → List Nat
 | .ptr o _ => [o]
 | .tp _ _ o => [o]
 | .sl o _ _ => [o]
 | .pel xs _ _ => V.refsL xs
 | .lst _ xs => V.refsL xs
 | .fn _ a c => V.refsL a ++ V.refsL c
 | .ifc _ x => V.refs x
 | .agg cs => V.refsL cs
 | .tup cs => V.refsL cs
 | .yl tm _ _ _ => V.refsL tm
 | _ => []
def V.refsL : List V → List Nat
 | [] => []
 | v :: vs => V.refs v ++ V.refsL vs
end
mutual
def V.nrefs : V → List Nat
 | .bs _ n _ _ => [n]
 | .bp n _ _ => [n]
 | .pel xs _ _ => V.nrefsL xs
 | .lst _ xs => V.nrefsL xs
 | .fn _ a c => V.nrefsL a ++ V.nrefsL c
 | .ifc _ x => V.nrefs x
 | .agg cs => V.nrefsL cs
 | .tup cs => V.nrefsL cs
 | .yl tm _ _ _ => V.nrefsL tm
 | _ => []
def V.nrefsL : List V → List Nat
 | [] => []
 | v :: vs => V.nrefs v ++ V.nrefsL vs
end
theorem refsL_mem {o : Nat} : ∀ {l : List V} {v : V}, v ∈ l → o ∈ v.refs → o ∈ V.refsL l
 | x :: l, v, hv, ho => by
  simp only [V.refsL, List.mem_append]
  rcases List.mem_cons.1 hv with rfl | hv
  · exact .inl ho
  · exact .inr (refsL_mem hv ho)
theorem nrefsL_mem {o : Nat} : ∀ {l : List V} {v : V}, v ∈ l → o ∈ v.nrefs → o ∈ V.nrefsL l
 | x :: l, v, hv, ho => by
  simp only [V.nrefsL, List.mem_append]
  rcases List.mem_cons.1 hv with rfl | hv
  · exact .inl ho
  · exact .inr (nrefsL_mem hv ho)
mutual
theorem cl_same {p p' : V → Option V} (hsl : (∀ o off len, p (.sl o off len) = p' (.sl o off len) ∧ p (.bp o off len) = p' (.bp o off len)) ∧ (∀ tm ps as bd, p (.yl tm ps as bd) = p' (.yl tm ps as bd)) ∧ ∀ E n o, p (.tp E n o) = p' (.tp E n o)) : ∀ (v : V), (∀ o off, o ∈ v.refs → p (.ptr o off) = p' (.ptr o off)) → (∀ sy n off len, n ∈ v.nrefs → p (.bs sy n off len) = p' (.bs sy n off len)) → v.cl p = v.cl p'
 | .ptr o off, h, _ => by simp only [V.cl, h o off (by simp [V.refs])]
 | .pel xs k off, h, g => by simp only [V.cl, clL_same hsl xs (fun o off ho => h o off (by simpa [V.refs] using ho)) (fun sy o off len ho => g sy o off len (by simpa [V.nrefs] using ho))]
 | .lst t xs, h, g => by simp only [V.cl, clL_same hsl xs (fun o off ho => h o off (by simpa [V.refs] using ho)) (fun sy o off len ho => g sy o off len (by simpa [V.nrefs] using ho))]
 | .fn f a c, h, g => by simp only [V.cl, clL_same hsl a (fun o off ho => h o off (by simp [V.refs, ho])) (fun sy o off len ho => g sy o off len (by simp [V.nrefs, ho])), clL_same hsl c (fun o off ho => h o off (by simp [V.refs, ho])) (fun sy o off len ho => g sy o off len (by simp [V.nrefs, ho]))]
 | .ifc t x, h, g => by simp only [V.cl, cl_same hsl x (fun o off ho => h o off (by simpa [V.refs] using ho)) (fun sy o off len ho => g sy o off len (by simpa [V.nrefs] using ho))]
 | .agg cs, h, g => by simp only [V.cl, clL_same hsl cs (fun o off ho => h o off (by simpa [V.refs] using ho)) (fun sy o off len ho => g sy o off len (by simpa [V.nrefs] using ho))]
 | .tup cs, h, g => by simp only [V.cl, clL_same hsl cs (fun o off ho => h o off (by simpa [V.refs] using ho)) (fun sy o off len ho => g sy o off len (by simpa [V.nrefs] using ho))]
 | .bs sy n off len, _, g => by simp only [V.cl, g sy n off len (by simp [V.nrefs])]
 | .bp o off len, _, _ => by simp only [V.cl, (hsl.1 o off len).2]
 | .slst _ _ _, _, _ => by simp only [V.cl]
 | .sl o off len, _, _ => by simp only [V.cl, (hsl.1 o off len).1]
 | .b _, _, _ => rfl
 | .i _ _, _, _ => rfl
 | .s _, _, _ => rfl
 | .sb _, _, _ => rfl
 | .si _ _, _, _ => rfl
 | .ss _, _, _ => rfl
 | .nil, _, _ => rfl
 | .nilfn, _, _ => rfl
 | .nilifc, _, _ => rfl
 | .yl tm ps as bd, _, _ => by simp only [V.cl, hsl.2.1 tm ps as bd]
 | .tp E n o, _, _ => by simp only [V.cl, hsl.2.2 E n o]
 | .nls, _, _ => by simp only [V.cl]
 | .els, _, _ => by simp only [V.cl]
 | .any, _, _ => rfl
theorem clL_same {p p' : V → Option V} (hsl : (∀ o off len, p (.sl o off len) = p' (.sl o off len) ∧ p (.bp o off len) = p' (.bp o off len)) ∧ (∀ tm ps as bd, p (.yl tm ps as bd) = p' (.yl tm ps as bd)) ∧ ∀ E n o, p (.tp E n o) = p' (.tp E n o)) : ∀ (l : List V), (∀ o off, o ∈ V.refsL l → p (.ptr o off) = p' (.ptr o off)) → (∀ sy n off len, n ∈ V.nrefsL l → p (.bs sy n off len) = p' (.bs sy n off len)) → V.clL p l = V.clL p' l
 | [], _, _ => rfl
 | v :: vs, h, g => by simp only [V.clL, cl_same hsl v (fun o off ho => h o off (by simp [V.refsL, ho])) (fun sy o off len ho => g sy o off len (by simp [V.nrefsL, ho])), clL_same hsl vs (fun o off ho => h o off (by simp [V.refsL, ho])) (fun sy o off len ho => g sy o off len (by simp [V.nrefsL, ho]))]
end
theorem clL_each {p p' : V → Option V} : ∀ {l : List V}, (∀ v ∈ l, v.cl p = v.cl p') → V.clL p l = V.clL p' l
 | [], _ => rfl
 | v :: l, h => by simp only [V.clL, h v (by simp), clL_each (l := l) (fun u hu => h u (by simp [hu]))]
def obCells (ob : Ob) (os : List Nat) : List V := os.flatMap fun (o : Nat) => match ob[o]? with | some (some cs) => cs | _ => []
def nmCells (nm : Nm) (ns : List Nat) : List V := ns.flatMap fun (n : Nat) => match nm[n]? with | some (some (.live (.cs _ xs))) => xs | _ => []
def dO (ob : Ob) (nm : Nm) : Nat → List V → List Nat
 | 0, _ => []
 | k + 1, l => V.refsL l ++ dO ob nm k (obCells ob (V.refsL l) ++ nmCells nm (V.nrefsL l))
def dN (ob : Ob) (nm : Nm) : Nat → List V → List Nat
 | 0, _ => []
 | k + 1, l => V.nrefsL l ++ dN ob nm k (obCells ob (V.refsL l) ++ nmCells nm (V.nrefsL l))
theorem obCells_same {ob ob' : Ob} : ∀ {os : List Nat}, (∀ o ∈ os, ob[o]? = ob'[o]?) → obCells ob' os = obCells ob os
 | [], _ => rfl
 | o :: os, h => by
  have := obCells_same (os := os) fun x hx => h x (by simp [hx])
  simp only [obCells, List.flatMap_cons] at this ⊢
  rw [this, h o (by simp)]
theorem nmCells_same {nm nm' : Nm} : ∀ {os : List Nat}, (∀ o ∈ os, nm[o]? = nm'[o]?) → nmCells nm' os = nmCells nm os
 | [], _ => rfl
 | o :: os, h => by
  have := nmCells_same (os := os) fun x hx => h x (by simp [hx])
  simp only [nmCells, List.flatMap_cons] at this ⊢
  rw [this, h o (by simp)]
theorem lend_same {ob ob' : Ob} {nm nm' : Nm} : ∀ (k : Nat) (l : List V), (∀ o ∈ dO ob nm k l, ob[o]? = ob'[o]?) → (∀ n ∈ dN ob nm k l, nm[n]? = nm'[n]?) →
 (∀ v ∈ l, v.cl (lendN ob nm k) = v.cl (lendN ob' nm' k)) ∧ dO ob' nm' k l = dO ob nm k l ∧ dN ob' nm' k l = dN ob nm k l
 | 0, l, _, _ => ⟨fun v _ => rfl, rfl, rfl⟩
 | k + 1, l, h, g => by
  have ho : ∀ o ∈ V.refsL l, ob[o]? = ob'[o]? := fun o h1 => h o (by simp [dO, h1])
  have hn : ∀ o ∈ V.nrefsL l, nm[o]? = nm'[o]? := fun o h1 => g o (by simp [dN, h1])
  have e1 := obCells_same ho
  have e2 := nmCells_same hn
  obtain ⟨i1, i2, i3⟩ := lend_same k (obCells ob (V.refsL l) ++ nmCells nm (V.nrefsL l)) (fun o h1 => h o (by simp only [dO, List.mem_append]; exact .inr h1)) (fun o h1 => g o (by simp only [dN, List.mem_append]; exact .inr h1))
  refine ⟨fun v hv => cl_same (p := lendN ob nm (k + 1)) (p' := lendN ob' nm' (k + 1)) ⟨fun _ _ _ => ⟨rfl, rfl⟩, fun _ _ _ _ => rfl, fun _ _ _ => rfl⟩ v (fun o off h1 => ?_) (fun sy n off len h1 => ?_), by simp only [dO, e1, e2, i2], by simp only [dN, e1, e2, i3]⟩
  · have hm := refsL_mem hv h1
    simp only [lendN, ← ho o hm]
    cases hob : ob[o]? with
    | none => rfl
    | some c =>
     cases c with
     | none => rfl
     | some cs =>
      have : V.clL (lendN ob nm k) cs = V.clL (lendN ob' nm' k) cs := clL_each fun u hu => i1 u (List.mem_append.2 (.inl (List.mem_flatMap.2 ⟨o, hm, by rw [hob]; exact hu⟩)))
      simp only [this]
  · have hm := nrefsL_mem hv h1
    simp only [lendN, ← hn n hm]
    cases hnm : nm[n]? with
    | none => rfl
    | some c =>
     cases c with
     | none => rfl
     | some c =>
      cases c with
      | dead => rfl
      | live c =>
       cases c with
       | arr ty l => rfl
       | u8 sy E l => rfl
       | cs sz xs =>
        have : V.clL (lendN ob nm k) xs = V.clL (lendN ob' nm' k) xs := clL_each fun u hu => i1 u (List.mem_append.2 (.inr (List.mem_flatMap.2 ⟨n, hm, by rw [hnm]; exact hu⟩)))
        simp only [lendB, this]
theorem clL_refs {ob ob' : Ob} {nm nm' : Nm} (l : List V) (h : ∀ o ∈ dO ob nm 3 l, ob[o]? = ob'[o]?) (g : ∀ n ∈ dN ob nm 3 l, nm[n]? = nm'[n]?) : V.clL (lendP ob nm) l = V.clL (lendP ob' nm') l ∧ dO ob' nm' 3 l = dO ob nm 3 l ∧ dN ob' nm' 3 l = dN ob nm 3 l := by
 obtain ⟨h1, h2, h3⟩ := lend_same 3 l h g
 exact ⟨clL_each h1, h2, h3⟩
mutual
def V.sy : V → V
 | .b x => .sb x
 | .i k n => .si k n
 | .s x => .ss x
 | .pel xs k off => .pel (V.syL xs) k off
 | .lst t xs => .lst t (V.syL xs)
 | .fn f a c => .fn f (V.syL a) (V.syL c)
 | .ifc t x => .ifc t (V.sy x)
 | .agg cs => .agg (V.syL cs)
 | .tup cs => .tup (V.syL cs)
 | .sb x => .sb x
 | .si k n => .si k n
 | .ss x => .ss x
 | .nil => .nil
 | .ptr o off => .ptr o off
 | .sl o off n => .sl o off n
 | .slst t ty l => .slst t ty l
 | .bs sy n off len => .bs true n off len
 | .bp n j off => .bp n j off
 | .nilfn => .nilfn
 | .nilifc => .nilifc
 | .yl tm ps as bd => .yl tm ps as bd
 | .tp E n o => .tp E n o
 | .nls => .nls
 | .els => .els
 | .any => .any
def V.syL : List V → List V
 | [] => []
 | v :: vs => V.sy v :: V.syL vs
end
theorem syL_map : ∀ (l : List V), V.syL l = l.map V.sy
 | [] => rfl
 | v :: vs => by simp only [V.syL, List.map_cons, syL_map vs]
theorem sy_cells (v : V) : v.sy.cells = v.cells.map V.sy := by cases v <;> simp [V.sy, V.cells, syL_map]
theorem sy_flat (xs : List V) : flat (xs.map V.sy) = (flat xs).map V.sy := by
 induction xs with
 | nil => rfl
 | cons x xs ih => rw [List.map_cons, flat_cons, flat_cons, List.map_append, ih, sy_cells]
theorem map_get {α β : Type} {f : α → β} {l : List α} {j : Nat} {b : β} (h : (l.map f)[j]? = some b) : ∃ a, l[j]? = some a ∧ f a = b := by
 rw [List.getElem?_map, Option.map_eq_some_iff] at h
 exact h
theorem VRel.sy {G : Gh} {v : V} {cv : Value} (h : VRel G v cv) : VRel G v.sy cv := by
 induction h with
 | b x => exact .sb x
 | i k n => exact .si k n
 | s x => exact .ss x
 | sb x => exact .sb x
 | si k n => exact .si k n
 | ss x => exact .ss x
 | nil => exact .nil
 | ptr h => exact .ptr h
 | sl h hc => exact .sl h hc
 | nilfn => exact .nilfn
 | nilifc => exact .nilifc
 | any v => exact .any v
 | slst h ih => simp only [V.sy]; exact .slst h
 | bs0 sy n off => exact .bs0 true n off
 | bs1 sy n off a => exact .bs1 true n off a
 | bs h hl => exact .bs h hl
 | bp h => exact .bp h
 | yl h hs hl ht ih => exact .yl h hs hl ht
 | tp h hd => exact .tp h hd
 | nls => exact .nls
 | els a c => exact .els a c
 | ifc h ih => exact .ifc ih
 | lst0 t p => simp only [V.sy, V.syL]; exact .lst0 t p
 | lst1 p cap => simp only [V.sy, V.syL]; exact .lst1 p cap
 | @lst t xs b off cap sz cvs hsz hl hm hv hc ht ih =>
  simp only [V.sy, syL_map]
  rw [← List.length_map (f := V.sy)]
  refine .lst (sz := sz) (cvs := cvs) (fun x hx => ?_) (by rw [hl, sy_flat, List.length_map]) hm (fun j v cv h1 h2 => ?_) (by simpa using hc) (by simpa using ht)
  · obtain ⟨z, hz, rfl⟩ := List.mem_map.1 hx
    rw [sy_cells, List.length_map]
    exact hsz z hz
  · rw [sy_flat] at h1
    obtain ⟨z, hz, rfl⟩ := map_get h1
    exact ih j z cv hz h2
 | @pel xs k off b o0 sz cvs hsz hl hm hv ih =>
  simp only [V.sy, syL_map]
  refine .pel (sz := sz) (cvs := cvs) (fun x hx => ?_) (by rw [hl, sy_flat, List.length_map]) hm (fun j v cv h1 h2 => ?_)
  · obtain ⟨z, hz, rfl⟩ := List.mem_map.1 hx
    rw [sy_cells, List.length_map]
    exact hsz z hz
  · rw [sy_flat] at h1
    obtain ⟨z, hz, rfl⟩ := map_get h1
    exact ih j z cv hz h2
 | @fn f xs ys a c ha hc h1 h2 i1 i2 =>
  simp only [V.sy, syL_map]
  refine .fn (by rw [ha, List.length_map]) (by rw [hc, List.length_map]) (fun j v cv g1 g2 => ?_) (fun j v cv g1 g2 => ?_)
  · obtain ⟨z, hz, rfl⟩ := map_get g1
    exact i1 j z cv hz g2
  · obtain ⟨z, hz, rfl⟩ := map_get g1
    exact i2 j z cv hz g2
 | @agg cs c hl h1 ih =>
  simp only [V.sy, syL_map]
  refine .agg (by rw [hl, List.length_map]) (fun j v cv g1 g2 => ?_)
  obtain ⟨z, hz, rfl⟩ := map_get g1
  exact ih j z cv hz g2
 | @tup cs c hl h1 ih =>
  simp only [V.sy, syL_map]
  refine .tup (by rw [hl, List.length_map]) (fun j v cv g1 g2 => ?_)
  obtain ⟨z, hz, rfl⟩ := map_get g1
  exact ih j z cv hz g2
theorem Rels.sy {G : Gh} {vs : List V} {cvs : List Value} (h : Rels G vs cvs) : Rels G (V.syL vs) cvs := by
 rw [syL_map]
 refine ⟨by rw [h.1, List.length_map], fun j v cv h1 h2 => ?_⟩
 obtain ⟨z, hz, rfl⟩ := map_get h1
 exact (h.2 j z cv hz h2).sy
theorem SemF.of_sy {f : FuncId} {args : List V} {ob ob' : Ob} {nm nm' : Nm} {v : V} (h : SemF P Γ f (V.syL args) ob nm v ob' nm') : SemF P Γ f args ob nm v ob' nm' := fun G w cargs hw hr => h G w cargs hw hr.sy
def outC (c : Option Bool) (v : V) (e : Eff) : Out :=
 match c with
 | none => ⟨true, false, v, e⟩
 | some b => ⟨b, true, v, e⟩
theorem outC_eff (c : Option Bool) (v : V) (e : Eff) : (outC c v e).eff = e := by cases c <;> rfl
theorem outC_v (c : Option Bool) (v : V) (e : Eff) : (outC c v e).v = v := by cases c <;> rfl
theorem outC_chk (c : Option Bool) (v : V) (e : Eff) : (outC c v e).chk = c.getD true := by cases c <;> rfl
end
end Go.Proofs.Ytofbchcclkejgaa

/- One way through a decision tree; contracts by ways. -/
set_option linter.unusedVariables false
set_option linter.unusedSimpArgs false
namespace Go.Proofs.Ytofbchcclkejgaa
open Go
section
variable {P : Program} {Γ : Nat → Option V}
theorem SemF.args {f : FuncId} {a b : List V} {ob ob' : Ob} {nm nm' : Nm} {v : V} (h : SemF P Γ f a ob nm v ob' nm') (hab : ∀ (G : Gh) (c : List Value), Rels G b c → Rels G a c) : SemF P Γ f b ob nm v ob' nm' := fun G w cargs hw hr => h G w cargs hw (hab G _ hr)
theorem Rels.head {G : Gh} {v v' : V} {l l' : List V} (h : ∀ c, VRel G v c → VRel G v' c) (k : ∀ c, Rels G l c → Rels G l' c) : ∀ c, Rels G (v :: l) c → Rels G (v' :: l') c := fun c hc => by
 match c, hc.1 with
 | x :: xs, _ => exact Rels.cons (h x (hc.2 0 v x rfl rfl)) (k xs (by simpa using hc.drop 1))
end
end Go.Proofs.Ytofbchcclkejgaa

/- The evaluator, the ways through a region joined where it ends: what the rest does not ask for is forgotten. -/
set_option linter.unusedVariables false
set_option linter.unusedSimpArgs false
namespace Go.Proofs.Ytofbchcclkejgaa
open Go
section
variable {P : Program} {Γ : Nat → Option V} {cf : CallF} {ops : Array Oper} {base : Nat}
def Eff.quiet : Option Eff → Bool
 | none => true
 | some e => e.wo.isEmpty && e.wn.isEmpty && e.xo.isEmpty && e.xn.isEmpty && e.blk.isNone
theorem Eff.quiet_ob {e : Eff} (h : Eff.quiet (some e) = true) (ob : Ob) (nm : Nm) : e.ob ob = ob ∧ e.nm nm = nm := by
 simp [Eff.quiet] at h
 obtain ⟨⟨⟨⟨h1, h2⟩, h3⟩, h4⟩, h5⟩ := h
 simp [Eff.ob, Eff.nm, h1, h2, h3, h4, h5, setsO, setsN]
def dsts (ops : Array Oper) : List Nat := ops.toList.filterMap (·.dst)
theorem mem_dsts {i : Nat} {o : Oper} {d : Nat} (h : ops[i]? = some o) (hd : o.dst = some d) : d ∈ dsts ops :=
 List.mem_filterMap.2 ⟨o, List.mem_of_getElem? (i := i) (by simpa using h), hd⟩
theorem put_frame {x : St} {dd : Option Nat} {v : V} : (x.put dd v).tm.length = x.tm.length ∧ (∀ d, dd ≠ some d → (x.put dd v).tm[d]? = x.tm[d]?) ∧ (x.put dd v).ob = x.ob ∧ (x.put dd v).nm = x.nm := by
 cases dd with
 | none => exact ⟨rfl, fun _ _ => rfl, rfl, rfl⟩
 | some t => exact ⟨by simp [St.put], fun d hd => by simp only [St.put]; exact List.getElem?_set_ne (fun e => hd (by rw [e])), rfl, rfl⟩
theorem stp_frame {i : Nat} {x x' : St} {ef : Option Eff} (h : stp P Γ cf ops base i x = some (x', ef)) :
 x'.tm.length = x.tm.length ∧ (∀ d, d ∉ dsts ops → x'.tm[d]? = x.tm[d]?) ∧ (Eff.quiet ef = true → x'.ob = x.ob ∧ x'.nm = x.nm) := by
 unfold stp at h
 split at h
 · cases h; exact ⟨rfl, fun _ _ => rfl, fun _ => ⟨rfl, rfl⟩⟩
 · rename_i o ho
   have hd : ∀ d, d ∉ dsts ops → o.dst ≠ some d := fun d hd e => hd (mem_dsts ho e)
   split at h
   · cases h
   · cases h
     have f := put_frame (x := x) (dd := o.dst) (v := .tup [])
     exact ⟨f.1, fun d k => f.2.1 d (hd d k), fun _ => f.2.2⟩
   · split at h
     · cases h
     · rename_i out he
       split at h
       · cases h
         have f := put_frame (x := { x with ob := out.eff.ob x.ob, nm := out.eff.nm x.nm }) (dd := o.dst) (v := litG (isGd ops i) out.v)
         refine ⟨f.1, fun d k => f.2.1 d (hd d k), fun hq => ?_⟩
         have e1 : (x.after out o.dst (litG (isGd ops i) out.v)).ob = out.eff.ob x.ob := f.2.2.1
         have e2 : (x.after out o.dst (litG (isGd ops i) out.v)).nm = out.eff.nm x.nm := f.2.2.2
         rw [e1, e2]
         exact Eff.quiet_ob hq _ _
       · cases h
theorem put_k (x : St) (d : Option Nat) (v : V) : (x.put d v).kh = x.kh ∧ (x.put d v).kt = x.kt := by cases d <;> exact ⟨rfl, rfl⟩
theorem stp_k {i : Nat} {x x' : St} {ef : Option Eff} (h : stp P Γ cf ops base i x = some (x', ef)) : x'.kh = x.kh ∧ x'.kt = x.kt := by
 unfold stp at h
 split at h
 · cases h; exact ⟨rfl, rfl⟩
 · split at h
   · cases h
   · cases h; exact put_k _ _ _
   · split at h
     · cases h
     · split at h
       · cases h; exact put_k _ _ _
       · cases h
theorem chain_k : ∀ (n i : Nat) {x x' : St} {es : List (Option Eff)}, chain P Γ cf ops base n i x = some (x', es) → x'.kh = x.kh ∧ x'.kt = x.kt
 | 0, i, x, x', es, h => by cases h; exact ⟨rfl, rfl⟩
 | n + 1, i, x, x', es, h => by
  simp only [chain] at h
  split at h
  · cases h
  · rename_i x1 ef h1
    split at h
    · cases h
    · rename_i x2 es' h2
      cases h
      have a := stp_k h1
      have b := chain_k n (i + 1) h2
      exact ⟨b.1.trans a.1, b.2.trans a.2⟩
theorem chain_frame : ∀ (n i : Nat) {x x' : St} {es : List (Option Eff)}, chain P Γ cf ops base n i x = some (x', es) →
 x'.tm.length = x.tm.length ∧ (∀ d, d ∉ dsts ops → x'.tm[d]? = x.tm[d]?) ∧ (es.all Eff.quiet = true → x'.ob = x.ob ∧ x'.nm = x.nm)
 | 0, i, x, x', es, h => by cases h; exact ⟨rfl, fun _ _ => rfl, fun _ => ⟨rfl, rfl⟩⟩
 | n + 1, i, x, x', es, h => by
  simp only [chain] at h
  split at h
  · cases h
  · rename_i x1 ef h1
    split at h
    · cases h
    · rename_i x2 es' h2
      cases h
      have f := stp_frame h1
      have g := chain_frame n (i + 1) h2
      refine ⟨g.1.trans f.1, fun d hd => (g.2.1 d hd).trans (f.2.1 d hd), fun hq => ?_⟩
      simp only [List.all_cons, Bool.and_eq_true] at hq
      exact ⟨(g.2.2 hq.2).1.trans (f.2.2 hq.1).1, (g.2.2 hq.2).2.trans (f.2.2 hq.1).2⟩
def keptV (lv : List Nat) (s : St) : V := .tup (lv.map fun d => (s.tm[d]?).getD .any)
def endOk (draw : Bool) (ops : Array Oper) (es : List (Option Eff)) : Bool := es.all Eff.quiet && (match draw with | true => commAll ops es | false => true)
def jm (draw : Bool) (ops : Array Oper) (lv : List Nat) : Tr (St × List (Option Eff)) → MRes
 | .leaf none => .dead
 | .leaf (some p) => match endOk draw ops p.2 with | true => .ok none (keptV lv p.1) | false => .bad
 | .br b x y => (jm draw ops lv x).mg b (jm draw ops lv y)
theorem jm_run {draw : Bool} {lv : List Nat} : ∀ (t : Tr (St × List (Option Eff))) (c : Option Bool) (v : V), jm draw ops lv t = .ok c v → c.getD true = true → ∃ s es, t.run = some (s, es) ∧ endOk draw ops es = true ∧ ∀ (G : Gh) (cv : Value), VRel G (keptV lv s) cv → VRel G v cv
 | .leaf none, c, v, h, _ => by cases h
 | .leaf (some p), c, v, h, _ => by
  simp only [jm] at h
  split at h
  · rename_i hq; cases h; exact ⟨p.1, p.2, rfl, hq, fun _ _ h => h⟩
  · cases h
 | .br b x y, c, v, h, hc => by
  simp only [jm] at h
  cases hx : jm draw ops lv x with
  | bad => rw [hx] at h; cases h
  | dead =>
   cases hy : jm draw ops lv y with
   | bad => rw [hx, hy] at h; cases h
   | dead => rw [hx, hy] at h; cases h
   | ok d u =>
    rw [hx, hy] at h
    cases h
    have hc' : b = false ∧ d.getD true = true := by cases d <;> simpa using hc
    obtain ⟨rfl, hd⟩ := hc'
    exact jm_run y d _ hy hd
  | ok d u =>
   cases hy : jm draw ops lv y with
   | bad => rw [hx, hy] at h; cases h
   | dead =>
    rw [hx, hy] at h
    cases h
    have hc' : b = true ∧ d.getD true = true := by cases d <;> simpa using hc
    obtain ⟨rfl, hd⟩ := hc'
    exact jm_run x d _ hx hd
   | ok d2 u2 =>
    rw [hx, hy] at h
    simp only [MRes.mg] at h
    split at h
    · rename_i z hz
      cases h
      have hm := mergeV_ok b u u2 v hz
      have hcc : (bif b then d.getD true else d2.getD true) = true := by
       cases b <;> cases d <;> cases d2 <;> first | rfl | simpa using hc
      cases b with
      | true =>
       obtain ⟨s, es, h1, h2, h3⟩ := jm_run x d u hx hcc
       exact ⟨s, es, h1, h2, fun G cv hr => hm G cv (h3 G cv hr)⟩
      | false =>
       obtain ⟨s, es, h1, h2, h3⟩ := jm_run y d2 u2 hy hcc
       exact ⟨s, es, h1, h2, fun G cv hr => hm G cv (h3 G cv hr)⟩
    · cases h
def setAny (ds : List Nat) (l : List V) : List V := ds.foldl (fun l d => l.set d .any) l
def setVs : List Nat → List V → List V → List V
 | d :: ds, v :: vs, l => setVs ds vs (l.set d v)
 | _, _, l => l
def RelX (G : Gh) (l : List V) (cv : List Value) (D : List Nat) : Prop := cv.length = l.length ∧ ∀ (j : Nat) (v : V) (c : Value), j ∉ D → l[j]? = some v → cv[j]? = some c → VRel G v c
theorem RelX.any {G : Gh} : ∀ (ds : List Nat) {l : List V} {cv : List Value} {D : List Nat}, RelX G l cv (ds ++ D) → RelX G (setAny ds l) cv D
 | [], l, cv, D, h => h
 | d :: ds, l, cv, D, h => by
  refine RelX.any ds (l := l.set d .any) ⟨by simpa using h.1, fun j v c hj hv hc => ?_⟩
  by_cases e : d = j
  · subst e
    rw [List.getElem?_set_self'] at hv
    cases hl : l[d]? with
    | none => rw [hl] at hv; cases hv
    | some u => rw [hl] at hv; cases hv; exact .any _
  · rw [List.getElem?_set_ne e] at hv
    exact h.2 j v c (by simpa [Ne.symm e] using hj) hv hc
theorem RelX.vs {G : Gh} : ∀ (ds : List Nat) (vs : List V) {l : List V} {cv : List Value}, RelX G l cv [] → (∀ (k : Nat) (d : Nat) (v : V) (c : Value), ds[k]? = some d → vs[k]? = some v → cv[d]? = some c → VRel G v c) → RelX G (setVs ds vs l) cv []
 | [], vs, l, cv, h, _ => by cases vs <;> exact h
 | d :: ds, [], l, cv, h, _ => h
 | d :: ds, v :: vs, l, cv, h, hv => by
  refine RelX.vs ds vs (l := l.set d v) ⟨by simpa using h.1, fun j u c hj hu hc => ?_⟩ (fun k d' v' c h1 h2 h3 => hv (k + 1) d' v' c (by simpa using h1) (by simpa using h2) h3)
  by_cases e : d = j
  · subst e
    rw [List.getElem?_set_self'] at hu
    cases hl : l[d]? with
    | none => rw [hl] at hu; cases hu
    | some w => rw [hl] at hu; cases hu; exact hv 0 d v c rfl rfl hc
  · rw [List.getElem?_set_ne e] at hu
    exact h.2 j u c hj hu hc
theorem RelX.of_rels {G : Gh} {l l' : List V} {cv : List Value} {D : List Nat} (h : Rels G l' cv) (hl : l'.length = l.length) (hf : ∀ d, d ∉ D → l'[d]? = l[d]?) : RelX G l cv D :=
 ⟨h.1.trans hl, fun j v c hj hv hc => h.2 j v c (by rw [hf j hj]; exact hv) hc⟩
theorem RelX.rels {G : Gh} {l : List V} {cv : List Value} (h : RelX G l cv []) : Rels G l cv := ⟨h.1, fun j v c hv hc => h.2 j v c (by simp) hv hc⟩
def St.jset (x : St) (ops : Array Oper) (lv : List Nat) (vs : List V) : St := { x with tm := setVs lv vs (setAny (dsts ops) x.tm) }
theorem Rel.jset {G : Gh} {x s : St} {lv : List Nat} {vs : List V} {a : Act} {w : World} (h : Rel Γ G s a w) (hl : s.tm.length = x.tm.length) (hf : ∀ d, d ∉ dsts ops → s.tm[d]? = x.tm[d]?) (hob : s.ob = x.ob) (hnm : s.nm = x.nm) (hkh : s.kh = x.kh ∧ s.kt = x.kt)
 (hv : ∀ (G : Gh) (cv : Value), VRel G (keptV lv s) cv → VRel G (.tup vs) cv) : Rel Γ G (x.jset ops lv vs) a w := by
 refine ⟨?_, by have := h.wr; rw [hob, hnm] at this; exact this, h.df, h.kh.trans hkh.1, h.kt.trans hkh.2⟩
 have h0 : RelX G x.tm a.tmps.toList (dsts ops ++ []) := by
  rw [List.append_nil]
  exact RelX.of_rels h.tm hl hf
 refine RelX.rels (RelX.vs lv vs (RelX.any (dsts ops) h0) ?_)
 intro k d v c h1 h2 h3
 have ht : VRel G (keptV lv s) (.tuple (lv.map fun d => (a.tmps.toList[d]?).getD Go.undef).toArray) := by
  refine .tup (by simp) (fun j v cv hj hc => ?_)
  rw [List.getElem?_map] at hj
  rw [List.getElem?_toArray, List.getElem?_map] at hc
  cases hd : lv[j]? with
  | none => rw [hd] at hj; cases hj
  | some d =>
   rw [hd] at hj hc
   simp only [Option.map_some, Option.some.injEq] at hj hc
   subst hj hc
   cases hs : s.tm[d]? with
   | none => exact .any _
   | some u =>
    obtain ⟨c', hc', hr'⟩ := h.tm.of_get hs
    rw [hc']
    exact hr'
 have ht2 := hv G _ ht
 cases ht2 with
 | tup hl2 hh =>
  refine hh k v c h2 ?_
  rw [List.getElem?_toArray, List.getElem?_map, h1, Option.map_some, h3]
  rfl
def evRegionJ (P : Program) (Γ : Nat → Option V) (cf : CallF) (lv : List Nat) (ops : Array Oper) (draw : Bool) (x : St) : Tr (Ex × St) :=
 match !lv.isEmpty && ops.any fun o => o.guard.isSome with
 | false => evRegion P Γ cf ops draw x
 | true =>
  match (match draw with | true => Region.lexB .any ops | false => true) with
  | false => .leaf none
  | true =>
   match jm draw ops lv (evReg P Γ cf ops x.basis ops.size 0 (x.pad (padK ops))) with
   | .ok c (.tup vs) => Tr.chk (c.getD true) c.isSome (.leaf (some (.normal, (x.pad (padK ops)).jset ops lv vs)))
   | _ => evRegion P Γ cf ops draw x
theorem evRegionJ_sound (hcf : CallsOk P Γ cf) (hfit : CallsFit cf) (hm : P.follows .mixedOrders = true) {lv : List Nat} {id : Nat} {draw : Bool} {x : St} {e : Ex} {x' : St} (h : (evRegionJ P Γ cf lv ops draw x).run = some (e, x')) : SemC P Γ (.region id ops draw) x e.to x' := by
 unfold evRegionJ at h
 split at h
 · exact evRegion_sound hcf hfit hm h
 · split at h
   · cases h
   · rename_i hB
     split at h
     · rename_i c vs hj
       rw [Tr.run_chk] at h
       split at h
       · rename_i hc
         cases h
         obtain ⟨s, es, h1, h2, h3⟩ := jm_run _ c _ hj hc
         rw [evReg_run] at h1
         have fr := chain_frame _ _ h1
         simp only [endOk, Bool.and_eq_true] at h2
         have q := fr.2.2 h2.1
         have sem : SemC P Γ (.region id ops draw) x .normal s := by
          cases draw with
          | false => exact SemC.of_pad (SemC.region_chain hcf hfit (pad_free x) h1)
          | true => exact SemC.of_pad (SemC.region_draw hcf hfit hm hB (pad_free x) h1 h2.2)
         intro ro G a w hr ho
         refine wpIn_mono (sem ro G a w hr ho) ?_
         rintro e a' w' ⟨rfl, G', hle, hr'⟩
         exact ⟨rfl, G', hle, hr'.jset fr.1 fr.2.1 q.1 q.2 (chain_k _ _ h1) h3⟩
       · cases h
     · exact evRegion_sound hcf hfit hm h
end
end Go.Proofs.Ytofbchcclkejgaa

/- The evaluator with a table of loops: a loop that is listed is taken as its entry says. -/
set_option linter.unusedVariables false
set_option linter.unusedSimpArgs false
namespace Go.Proofs.Ytofbchcclkejgaa
open Go
def loops : Code → List Code
 | .seq a b => loops a ++ loops b
 | .cond _ t f => loops t ++ loops f
 | .block _ b => loops b
 | .loop b => b :: loops b
 | _ => []
def St.of (n : Nat) (lv : List Nat) (vs : List V) (ob : Ob) (nm : Nm) (kh kt : Nat := 0) : St := ⟨setVs lv vs (List.replicate n .any), ob, nm, kh, kt⟩
def St.kept (x : St) (lv : List Nat) : List V := lv.map fun d => (x.tm[d]?).getD .any
structure LEnt where
 n : Nat
 lv : List Nat
 go : Nat → Nat → List V → Ob → Nm → Option (Tr (Ex × St))
abbrev LOrc := FuncId → Nat → Option LEnt
section
variable {P : Program} {Γ : Nat → Option V} {cf : CallF}
def St.imp (Γ : Nat → Option V) (x y : St) : Prop := ∀ G a w, Rel Γ G x a w → Rel Γ G y a w
theorem SemC.pre {c : Code} {x x' y : St} {e : Exit} (h : SemC P Γ c x' e y) (i : St.imp Γ x x') : SemC P Γ c x e y := fun ro G a w hr ho => h ro G a w (i G a w hr) ho
theorem SemC.post {c : Code} {x y y' : St} {e : Exit} (h : SemC P Γ c x e y) (i : St.imp Γ y y') : SemC P Γ c x e y' := fun ro G a w hr ho => by
 refine wpIn_mono (h ro G a w hr ho) ?_
 rintro e a' w' ⟨rfl, G1, h1, r1⟩
 exact ⟨rfl, G1, h1, i _ _ _ r1⟩
theorem SemL.pre {c : Code} {x x' y : St} {e : Exit} (h : SemL P Γ c x' e y) (i : St.imp Γ x x') : SemL P Γ c x e y := by
 obtain ⟨n, h⟩ := h
 exact ⟨n, fun ro G a w hr ho => h ro G a w (i G a w hr) ho⟩
def LOrcOk (P : Program) (Γ : Nat → Option V) (lo : LOrc) : Prop :=
 ∀ f i e, lo f i = some e → ∃ fn c b, P.funcs[f]? = some fn ∧ fn.body = some c ∧ (loops c)[i]? = some b ∧ ∀ kh kt vs ob nm t ex s, e.go kh kt vs ob nm = some t → t.run = some (ex, s) → SemL P Γ b (St.of e.n e.lv vs ob nm kh kt) ex.to s
end
end Go.Proofs.Ytofbchcclkejgaa

/- Objects and buffers that nothing asks for any more are forgotten; the others get new names. -/
set_option linter.unusedVariables false
set_option linter.unusedSimpArgs false
namespace Go.Proofs.Ytofbchcclkejgaa
open Go
def ixOf : List Nat → Nat → Option Nat
 | [], _ => none
 | x :: xs, o => if x = o then some 0 else match ixOf xs o with | some i => some (i + 1) | none => none
theorem ixOf_get : ∀ {l : List Nat} {o i : Nat}, ixOf l o = some i → l[i]? = some o
 | [], o, i, h => by cases h
 | x :: xs, o, i, h => by
  simp only [ixOf] at h
  split at h
  · rename_i e; cases h; simp [e]
  · split at h
    · rename_i k hk; cases h; simpa using ixOf_get hk
    · cases h
def renP0 (po pn : List Nat) : V → Option V
 | .ptr o off => match ixOf po o with | some i => some (.ptr i off) | none => none
 | .sl o off n => match ixOf po o with | some i => some (.sl i off n) | none => none
 | .bs sy n off len => match ixOf pn n with | some i => some (.bs sy i off len) | none => none
 | .bp n j off => match ixOf pn n with | some i => some (.bp i j off) | none => none
 | .tp E n o => match ixOf po o with | some i => some (.tp E n i) | none => none
 | _ => none
theorem renP0_cell (po pn : List Nat) : ∀ u q, renP0 po pn u = some q → q.cells = [q] := by
 intro u q h
 unfold renP0 at h
 split at h <;> (try split at h) <;> cases h <;> rfl
def Gh.ren (G : Gh) (po pn : List Nat) : Gh := { G with H := fun i => (po[i]?).bind G.H, T := fun i => (pn[i]?).bind G.T }
theorem renP0_rel {G : Gh} (po pn : List Nat) (u q : V) (cu : Value) (hu : VRel G u cu) (h : renP0 po pn u = some q) : VRel (G.ren po pn) q cu := by
 unfold renP0 at h
 split at h
 · split at h
   · rename_i i hi
     cases h
     cases hu with
     | ptr hh => exact .ptr (by simp [Gh.ren, ixOf_get hi, hh])
   · cases h
 · split at h
   · rename_i i hi
     cases h
     cases hu with
     | sl hh hc => exact .sl (by simp [Gh.ren, ixOf_get hi, hh]) hc
   · cases h
 · split at h
   · rename_i i hi
     cases h
     cases hu with
     | bs0 => exact .bs0 _ _ _
     | bs1 => exact .bs1 _ _ _ _
     | bs hh hc => exact .bs (by simp [Gh.ren, ixOf_get hi, hh]) hc
   · cases h
 · split at h
   · rename_i i hi
     cases h
     cases hu with
     | bp hh => exact .bp (by simp [Gh.ren, ixOf_get hi, hh])
   · cases h
 · split at h
   · rename_i i hi
     cases h
     cases hu with
     | tp hh hd => exact .tp (by simp [Gh.ren, ixOf_get hi, hh]) hd
   · cases h
 · cases h
def renP (po pn : List Nat) : V → Option V
 | .yl tm ps as bd => match V.clL (renP0 po pn) tm with | some tm' => some (.yl tm' ps as bd) | none => none
 | v => renP0 po pn v
theorem renP_cell (po pn : List Nat) : ∀ u q, renP po pn u = some q → q.cells = [q] := by
 intro u q h
 unfold renP at h
 split at h
 · split at h
   · cases h; rfl
   · cases h
 · exact renP0_cell po pn _ _ h
theorem renP_rel {G : Gh} (po pn : List Nat) (u q : V) (cu : Value) (hu : VRel G u cu) (h : renP po pn u = some q) : VRel (G.ren po pn) q cu := by
 unfold renP at h
 split at h
 · split at h
   · rename_i tm' ht
     cases h
     cases hu with
     | @yl _ _ _ _ l r h1 h2 h3 h4 =>
      have hr : Rels (G.ren po pn) tm' r.tmps.toList := Rels.cl (G := G) (G' := G.ren po pn) (renP0_cell po pn) (fun _ _ _ h => h) (renP0_rel po pn) ⟨by simpa using h3, fun j v cv a b => h4 j v cv a (by simpa using b)⟩ ht
      exact .yl (G := G.ren po pn) h1 h2 (by rw [clnL_len ht]; exact h3) (fun j v cv a b => hr.2 j v cv a (by simpa using b))
   · cases h
 · exact renP0_rel po pn _ _ _ hu h
def renB (po pn : List Nat) : Bf → Option Bf
 | .dead => some .dead
 | .live (.arr ty l) => some (.live (.arr ty l))
 | .live (.u8 sy E l) => some (.live (.u8 sy E l))
 | .live (.cs sz l) => match V.clL (renP po pn) l with | some l' => some (.live (.cs sz l')) | none => none
def renOb (po pn : List Nat) (ob : Ob) : List Nat → Option Ob
 | [] => some []
 | o :: r =>
  match renOb po pn ob r with
  | none => none
  | some r' =>
   match ob[o]? with
   | some (some cs) => match V.clL (renP po pn) cs with | some cs' => some (some cs' :: r') | none => none
   | _ => some (none :: r')
def renNm (po pn : List Nat) (nm : Nm) : List Nat → Option Nm
 | [] => some []
 | n :: r =>
  match renNm po pn nm r with
  | none => none
  | some r' =>
   match nm[n]? with
   | some (some b) => match renB po pn b with | some b' => some (some b' :: r') | none => none
   | _ => some (none :: r')
theorem renOb_get {po pn : List Nat} {ob : Ob} : ∀ {l : List Nat} {ob' : Ob}, renOb po pn ob l = some ob' → ob'.length = l.length ∧ ∀ (i : Nat) (c : Option (List V)), ob'[i]? = some c → ∃ o, l[i]? = some o ∧ ((∃ cs cs', ob[o]? = some (some cs) ∧ V.clL (renP po pn) cs = some cs' ∧ c = some cs') ∨ ((∀ cs, ob[o]? ≠ some (some cs)) ∧ c = none))
 | [], ob', h => by cases h; exact ⟨rfl, fun i c hi => by simp at hi⟩
 | o :: r, ob', h => by
  simp only [renOb] at h
  cases hr : renOb po pn ob r with
  | none => rw [hr] at h; cases h
  | some r' =>
   rw [hr] at h
   simp only [] at h
   obtain ⟨h1, h2⟩ := renOb_get hr
   split at h
   · rename_i cs hcs
     split at h
     · rename_i cs' hcl
       cases h
       refine ⟨by simp [h1], fun i c hi => ?_⟩
       cases i with
       | zero => simp at hi; exact ⟨o, rfl, .inl ⟨cs, cs', hcs, hcl, hi.symm⟩⟩
       | succ i => simp at hi; simpa using h2 i c hi
     · cases h
   · rename_i hno
     cases h
     refine ⟨by simp [h1], fun i c hi => ?_⟩
     cases i with
     | zero => simp at hi; exact ⟨o, rfl, .inr ⟨fun cs hc => hno cs hc, hi.symm⟩⟩
     | succ i => simp at hi; simpa using h2 i c hi
theorem renNm_get {po pn : List Nat} {nm : Nm} : ∀ {l : List Nat} {nm' : Nm}, renNm po pn nm l = some nm' → nm'.length = l.length ∧ ∀ (i : Nat) (c : Option Bf), nm'[i]? = some c → ∃ n, l[i]? = some n ∧ ((∃ b b', nm[n]? = some (some b) ∧ renB po pn b = some b' ∧ c = some b') ∨ ((∀ b, nm[n]? ≠ some (some b)) ∧ c = none))
 | [], nm', h => by cases h; exact ⟨rfl, fun i c hi => by simp at hi⟩
 | n :: r, nm', h => by
  simp only [renNm] at h
  cases hr : renNm po pn nm r with
  | none => rw [hr] at h; cases h
  | some r' =>
   rw [hr] at h
   simp only [] at h
   obtain ⟨h1, h2⟩ := renNm_get hr
   split at h
   · rename_i b hb
     split at h
     · rename_i b' hcl
       cases h
       refine ⟨by simp [h1], fun i c hi => ?_⟩
       cases i with
       | zero => simp at hi; exact ⟨n, rfl, .inl ⟨b, b', hb, hcl, hi.symm⟩⟩
       | succ i => simp at hi; simpa using h2 i c hi
     · cases h
   · rename_i hno
     cases h
     refine ⟨by simp [h1], fun i c hi => ?_⟩
     cases i with
     | zero => simp at hi; exact ⟨n, rfl, .inr ⟨fun cs hc => hno cs hc, hi.symm⟩⟩
     | succ i => simp at hi; simpa using h2 i c hi
def nodupB : List Nat → Bool
 | [] => true
 | x :: xs => !xs.contains x && nodupB xs
theorem nodupB_get : ∀ {l : List Nat}, nodupB l = true → ∀ {i j x : Nat}, l[i]? = some x → l[j]? = some x → i = j
 | [], _, i, j, x, h, _ => by simp at h
 | y :: l, h, i, j, x, hi, hj => by
  simp only [nodupB, Bool.and_eq_true, Bool.not_eq_true', List.contains_eq_mem, decide_eq_false_iff_not] at h
  cases i with
  | zero =>
   cases j with
   | zero => rfl
   | succ j => simp at hi hj; subst hi; exact absurd (List.mem_of_getElem? hj) h.1
  | succ i =>
   cases j with
   | zero => simp at hi hj; subst hj; exact absurd (List.mem_of_getElem? hi) h.1
   | succ j => simp at hi hj; rw [nodupB_get h.2 hi hj]
section
variable {P : Program} {Γ : Nat → Option V} {cf : CallF}
theorem bind_get {α β : Type} {l : List α} {i : Nat} {f : α → Option β} {b : β} (h : (l[i]?).bind f = some b) : ∃ a, l[i]? = some a ∧ f a = some b := by
 cases hl : l[i]? with
 | none => rw [hl] at h; cases h
 | some a => rw [hl] at h; exact ⟨a, rfl, h⟩
theorem renB_ok {G : Gh} {w : World} {po pn : List Nat} {x : Tail} {b : Bf} {c' : BC} (h : ∀ c, b = .live c → BufOk G w x c) (hr : renB po pn b = some (.live c')) (hobj : ∀ o, (G.ren po pn).H o ≠ some x.b) : BufOk (G.ren po pn) w x c' := by
 cases b with
 | dead => cases hr
 | live c =>
  have B := h c rfl
  obtain ⟨cvs, E', fr, e1, e2, e3, e4⟩ := B.row
  have hM : ∀ b off cv, G.M b off = some cv → (G.ren po pn).M b off = some cv := fun _ _ _ h => h
  cases c with
  | arr ty l =>
   simp only [renB] at hr
   cases hr
   refine ⟨B.old, ⟨cvs, E', fr, e1, e2, e3, ?_⟩, B.sz, B.el, B.len, B.cap, B.free, hobj, fun F hF => nomatch hF⟩
   exact Rels.cl (renP_cell po pn) hM (renP_rel po pn) e4 (clnL_flat (renP_cell po pn) (Ty.map_cl _ ty l))
  | u8 sy E l =>
   simp only [renB] at hr
   cases hr
   refine ⟨B.old, ⟨cvs, E', fr, e1, e2, e3, ?_⟩, B.sz, B.el, B.len, B.cap, B.free, hobj, B.u8⟩
   exact Rels.cl (renP_cell po pn) hM (renP_rel po pn) e4 (clnL_flat (renP_cell po pn) (u8_cl _ sy E l))
  | cs sz l =>
   simp only [renB] at hr
   split at hr
   · rename_i l' hl
     cases hr
     have hf := clnL_flat (renP_cell po pn) hl
     have hlen := clnL_len hf
     refine ⟨B.old, ⟨cvs, E', fr, e1, e2, e3, ?_⟩, B.sz, fun v hv => ?_, (clnL_len hl).trans B.len, B.cap, B.free, hobj, fun F hF => nomatch hF⟩
     · show Rels _ (flat l') ((cvs.toList.drop x.lo).take (flat l').length)
       rw [hlen]
       exact Rels.cl (renP_cell po pn) hM (renP_rel po pn) e4 hf
     · obtain ⟨j, hj⟩ := List.getElem?_of_mem hv
       obtain ⟨z, hz, hcz⟩ := clnL_get hl j v hj
       rw [clnL_len (cln_cells (renP_cell po pn) hcz)]
       exact B.el z (List.mem_of_getElem? hz)
   · cases hr
theorem renB_len {po pn : List Nat} {b : Bf} {c' : BC} (hr : renB po pn b = some (.live c')) : ∃ c, b = .live c ∧ c'.len = c.len := by
 cases b with
 | dead => cases hr
 | live c =>
  cases c with
  | arr ty l => simp only [renB] at hr; cases hr; exact ⟨_, rfl, rfl⟩
  | u8 sy E l => simp only [renB] at hr; cases hr; exact ⟨_, rfl, rfl⟩
  | cs sz l =>
   simp only [renB] at hr
   split at hr
   · rename_i l' hl; cases hr; exact ⟨_, rfl, clnL_len hl⟩
   · cases hr
theorem WRel.ren {G : Gh} {ob : Ob} {nm : Nm} {w : World} (h : WRel Γ G ob nm w) {po pn : List Nat} {ob' : Ob} {nm' : Nm} (h1 : renOb po pn ob po = some ob') (h2 : renNm po pn nm pn = some nm') (d1 : nodupB po = true) (d2 : nodupB pn = true) : WRel Γ (G.ren po pn) ob' nm' w := by
 obtain ⟨l1, g1⟩ := renOb_get h1
 obtain ⟨l2, g2⟩ := renNm_get h2
 have hM : ∀ b off cv, G.M b off = some cv → (G.ren po pn).M b off = some cv := fun _ _ _ h => h
 have hH : ∀ {i b}, (G.ren po pn).H i = some b → ∃ o, po[i]? = some o ∧ G.H o = some b := fun hh => bind_get hh
 have hT : ∀ {i x}, (G.ren po pn).T i = some x → ∃ n, pn[i]? = some n ∧ G.T n = some x := fun hh => bind_get hh
 exact {
  m := h.m
  hob := fun i cs' b q1 q2 => by
   obtain ⟨o, ho, hb⟩ := hH q2
   obtain ⟨o', ho', q⟩ := g1 i _ q1
   obtain rfl := Option.some.inj (ho.symm.trans ho')
   rcases q with ⟨cs, cs2, e1, e2, e3⟩ | ⟨_, e⟩
   · cases e3
     obtain ⟨a1, ⟨c, E, fr, r1, r2, r3, r4⟩, a3⟩ := h.hob o cs b e1 hb
     have hlen := clnL_len e2
     exact ⟨a1, ⟨c, E, fr, r1, r2, by omega, by rw [hlen]; exact Rels.cl (renP_cell po pn) hM (renP_rel po pn) r4 e2⟩, a3⟩
   · cases e
  hlt := fun i b q => by
   obtain ⟨o, ho, hb⟩ := hH q
   exact ⟨by rw [l1]; exact get_lt ho, (h.hlt o b hb).2⟩
  habs := fun i q => by
   obtain ⟨o, ho, r⟩ := g1 i _ q
   rcases r with ⟨_, _, _, _, e⟩ | ⟨e, _⟩
   · cases e
   · show (po[i]?).bind G.H = none
     rw [ho]
     show G.H o = none
     cases hh : G.H o with
     | none => rfl
     | some b =>
      have hl := (h.hlt o b hh).1
      have hs : ob[o]? = some (ob[o]'hl) := List.getElem?_eq_getElem hl
      cases hc : ob[o]'hl with
      | none => rw [hc] at hs; rw [h.habs o hs] at hh; cases hh
      | some cs => rw [hc] at hs; exact absurd hs (e cs)
  inj := fun i j b q1 q2 => by
   obtain ⟨o, ho, hb⟩ := hH q1
   obtain ⟨o', ho', hb'⟩ := hH q2
   obtain rfl := h.inj o o' b hb hb'
   exact nodupB_get d1 ho ho'
  hnm := fun i c' x q1 q2 => by
   obtain ⟨n, hn, hx⟩ := hT q2
   obtain ⟨n', hn', q⟩ := g2 i _ q1
   obtain rfl := Option.some.inj (hn.symm.trans hn')
   rcases q with ⟨b, b', e1, e2, e3⟩ | ⟨_, e⟩
   · cases e3
     obtain ⟨c0, rfl, _⟩ := renB_len e2
     refine renB_ok (fun c hc => by cases hc; exact h.hnm n _ x e1 hx) e2 (fun o ho => ?_)
     obtain ⟨o', _, hb⟩ := hH ho
     exact (h.hnm n _ x e1 hx).obj o' hb
   · cases e
  hno := fun i c' q1 q2 => by
   obtain ⟨n, hn, q⟩ := g2 i _ q1
   rcases q with ⟨b, b', e1, e2, e3⟩ | ⟨_, e⟩
   · cases e3
     obtain ⟨c0, rfl, el⟩ := renB_len e2
     have hTn : (pn[i]?).bind G.T = none := q2
     rw [hn] at hTn
     rw [el]
     exact h.hno n c0 e1 hTn
   · cases e
  nmd := fun i j c c' x x' hij q1 q2 q3 q4 => by
   obtain ⟨n, hn, hx⟩ := hT q3
   obtain ⟨n', hn', hx'⟩ := hT q4
   obtain ⟨m, hm, r⟩ := g2 i _ q1
   obtain ⟨m', hm', r'⟩ := g2 j _ q2
   obtain rfl := Option.some.inj (hn.symm.trans hm)
   obtain rfl := Option.some.inj (hn'.symm.trans hm')
   rcases r with ⟨b, b', e1, e2, e3⟩ | ⟨_, e⟩
   · rcases r' with ⟨b2, b2', f1, f2, f3⟩ | ⟨_, e⟩
     · cases e3
       cases f3
       obtain ⟨c0, rfl, _⟩ := renB_len e2
       obtain ⟨c1, rfl, _⟩ := renB_len f2
       exact h.nmd n n' c0 c1 x x' (fun e => hij (nodupB_get d2 hn (e ▸ hn'))) e1 f1 hx hx'
     · cases e
   · cases e
  tabs := fun i q => by
   obtain ⟨n, hn, r⟩ := g2 i _ q
   rcases r with ⟨_, _, _, _, e⟩ | ⟨e, _⟩
   · cases e
   · show (pn[i]?).bind G.T = none
     rw [hn]
     show G.T n = none
     cases hh : G.T n with
     | none => rfl
     | some x =>
      have hl := h.tlt n x hh
      have hs : nm[n]? = some (nm[n]'hl) := List.getElem?_eq_getElem hl
      cases hc : nm[n]'hl with
      | none => rw [hc] at hs; rw [h.tabs n hs] at hh; cases hh
      | some b => rw [hc] at hs; exact absurd hs (e b)
  tlt := fun i x q => by
   obtain ⟨n, hn, hx⟩ := hT q
   rw [l2]; exact get_lt hn
  dd := h.dd
  kdle := h.kdle
  gl := fun g v hg => (h.gl g v hg).mono' ⟨fun _ _ _ h => h, (fun _ _ h => by cases h), (fun _ _ h => by cases h), (fun _ _ h => by cases h)⟩
  mold := h.mold
  os := h.os
  tape := h.tape
  output := h.output
  size := h.size
  block := h.block }
def idB (k : Nat) (l : List Nat) : Bool := (List.range k).all fun o => l[o]? == some o
theorem idB_get {k : Nat} {l : List Nat} (h : idB k l = true) {o : Nat} (ho : o < k) : l[o]? = some o := by
 have := List.all_eq_true.1 h o (List.mem_range.2 ho)
 simpa using this
def St.ren (y : St) (po pn lv : List Nat) : Option (List V × Ob × Nm) :=
 if idB y.kh po = true ∧ idB y.kt pn = true ∧ nodupB po = true ∧ nodupB pn = true then
  match V.clL (renP po pn) (y.kept lv), renOb po pn y.ob po, renNm po pn y.nm pn with
  | some vs, some ob, some nm => some (vs, ob, nm)
  | _, _, _ => none
 else none
theorem Rel.ren {G G1 : Gh} {y : St} {a' : Act} {w' : World} {n : Nat} {po pn lv : List Nat} {vs : List V} {ob : Ob} {nm : Nm} (h1 : G.leW G1) (r1 : Rel Γ G1 y a' w') (hn : y.tm.length = n) (hs : y.ren po pn lv = some (vs, ob, nm)) :
 ∃ G', G.leW G' ∧ Rel Γ G' (St.of n lv vs ob nm y.kh y.kt) a' w' := by
 unfold St.ren at hs
 split at hs
 · rename_i hk
   obtain ⟨k1, k2, d1, d2⟩ := hk
   split at hs
   · rename_i vs' ob' nm' e1 e2 e3
     cases hs
     have hkh : G.kh = y.kh := by rw [← h1.kh, r1.kh]
     have hkt : G.kt = y.kt := by rw [← h1.kt, r1.kt]
     refine ⟨G1.ren po pn, ⟨h1.m, (fun o b ho hh => by
      show (po[o]?).bind G1.H = some b
      rw [idB_get k1 (by omega)]
      exact h1.h o b ho hh), (fun n x hn hh => by
      show (pn[n]?).bind G1.T = some x
      rw [idB_get k2 (by omega)]
      exact h1.t n x hn hh), h1.d, h1.kh, h1.kt, h1.w0, h1.m0, h1.kd⟩, ⟨?_, r1.wr.ren e2 e3 d1 d2, Marks.mono (G := G1) (G' := G1.ren po pn) (fun _ _ h => h) rfl rfl r1.df, r1.kh, r1.kt⟩⟩
     subst hn
     have hM : ∀ b off cv, G1.M b off = some cv → (G1.ren po pn).M b off = some cv := fun _ _ _ h => h
     have key : ∀ (lv : List Nat) (l0 l vs : List V) (cv : List Value), Rels G1 l0 cv → V.clL (renP po pn) (lv.map fun d => (l0[d]?).getD .any) = some vs → Rels (G1.ren po pn) l cv → Rels (G1.ren po pn) (setVs lv vs l) cv := by
      intro lv
      induction lv with
      | nil => intro l0 l vs cv _ hv h; simp [V.clL] at hv; subst hv; exact h
      | cons d ds ih =>
       intro l0 l vs cv hr0 hv hrl
       simp only [List.map_cons, V.clL] at hv
       split at hv
       · rename_i v vs' hv1 hv2
         cases hv
         simp only [setVs]
         refine ih l0 _ vs' cv hr0 hv2 ⟨by simpa using hrl.1, fun j u c hu hc => ?_⟩
         rw [List.getElem?_set] at hu
         split at hu
         · rename_i hj
           subst hj
           split at hu
           · cases hu
             cases hd : l0[d]? with
             | none =>
              rw [hd] at hv1
              simp [V.cl] at hv1
              subst hv1
              exact .any _
             | some z =>
              rw [hd] at hv1
              exact VRel.cl (renP_cell po pn) hM (renP_rel po pn) (hr0.2 d z c hd hc) hv1
           · cases hu
         · exact hrl.2 j u c hu hc
       · cases hv
     have hany : Rels (G1.ren po pn) (List.replicate y.tm.length V.any) a'.tmps.toList := ⟨by simpa using r1.tm.1, fun j v c hv hc => by
      rw [List.getElem?_replicate] at hv
      split at hv
      · cases hv; exact .any _
      · cases hv⟩
     exact key lv y.tm _ _ _ r1.tm e1 hany
   · cases hs
 · cases hs
theorem SemC.ren {c : Code} {x : St} {e : Exit} {n : Nat} {po pn lv : List Nat} {vs : List V} {ob : Ob} {nm : Nm} {y : St} (h : SemC P Γ c x e y) (hn : y.tm.length = n) (hs : y.ren po pn lv = some (vs, ob, nm)) : SemC P Γ c x e (St.of n lv vs ob nm y.kh y.kt) := by
 intro ro G a w hr ho
 refine wpIn_mono (h ro G a w hr ho) ?_
 rintro e a' w' ⟨rfl, G1, h1, r1⟩
 exact ⟨rfl, r1.ren h1 hn hs⟩
theorem SemL.preRen {c : Code} {x z : St} {e : Exit} {n : Nat} {po pn lv : List Nat} {vs : List V} {ob : Ob} {nm : Nm} (hn : x.tm.length = n) (hs : x.ren po pn lv = some (vs, ob, nm)) (h : SemL P Γ c (St.of n lv vs ob nm x.kh x.kt) e z) : SemL P Γ c x e z := by
 obtain ⟨k, h⟩ := h
 refine ⟨k, fun ro G a w hr ho => ?_⟩
 obtain ⟨G', hle, hr'⟩ := Rel.ren (Gh.leW.refl G) hr hn hs
 refine rounds_mono ?_ k a w (h ro G' a w hr' (ho.leW hle))
 rintro e a' w' ⟨rfl, G1, h1, r1⟩
 exact ⟨rfl, G1, hle.trans h1, r1⟩
end
end Go.Proofs.Ytofbchcclkejgaa

