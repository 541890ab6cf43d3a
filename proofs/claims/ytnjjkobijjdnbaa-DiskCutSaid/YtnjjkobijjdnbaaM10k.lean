/- Parts of the library of texts, one after the other: K21, K22. -/
import Derived.Test.YtnjjkobijjdnbaaM10j
import Derived.Test.YtnjjkobijjdnbaaK19a
/- Package disk: a round of the loop of DiskCut, reckoned; the loop. -/
set_option linter.unusedVariables false
set_option linter.unusedSimpArgs false
set_option maxRecDepth 100000
set_option maxHeartbeats 8000000
namespace Go.Proofs.Ytnjjkobijjdnbaa
open Go
namespace D
def il (l : List Int) : Option Bf := some (.live (.arr (.int .i64) l))
/-- What the loop holds: the disk's power, contents, the list of all. -/
structure CS where
  off : Bool
  lf : Int
  dur : List Int
  vis : List Int
  b : List Int
  al : List Int
  j : Nat
  q : List (Ty.den wp)
  m : Nat
def cob (n : Int) (s : CS) : Option (List V) := some [.sb s.off, .si .i64 s.lf, .bs true 2 0 n.toNat, .bs true 3 0 n.toNat, .bs true 4 0 s.m]
def cnm (s : CS) : Nm := [u8 s.b, il s.al, u8 s.dur, u8 s.vis, pq s.q]
noncomputable def hdC (n k i : Int) (s : CS) (l : List (Ty.den wt)) : St := St.of 170 [0, 1, 2, 7, 8, 10, 11, 12] [.si .i64 n, .si .i64 k, .slst .ro wt l, .b true, .ptr 0 0, .bs true 0 0 n.toNat, .bs true 1 0 s.j, .si .i64 i] [cob n s] (cnm s)
def lveC : Ex → List Nat | .normal => [0, 1, 2, 7, 8, 10, 11, 12] | _ => [0, 1, 7, 8, 10, 11]
def wyC (l : List Bool) : FuncId → List V → Option (List Bool) := fun f _ => match Nat.beq f 21, Nat.beq f 36 with | true, _ => some l | _, true => some [false] | _, _ => none
def wA : List Bool := [false, false, true, true, true]
noncomputable def rndC (w : List Bool) (n k i : Int) (s : CS) (l : List (Ty.den wt)) := outa lveC (evCK Try.prog G0 (cfM Try.prog G0 (cfgG (wyC w)) 30) ((cfgG (wyC w)).lo 10) [] 60 1 (lp 10 0) (hdC n k i s l))
def endC (n k i : Int) (s : CS) (l : List (Ty.den wt)) : Option (Ex × List V × Ob × Nm × Nat × Nat × Nat) := some (.normal, [.si .i64 n, .si .i64 k, .slst .ro wt l, .b true, .ptr 0 0, .bs true 0 0 n.toNat, .bs true 1 0 s.j, .si .i64 (IntKind.i64.wrap (i + 1))], [cob n s], cnm s, 170, 0, 0)
def exC (n k : Int) (s : CS) : Option (Ex × List V × Ob × Nm × Nat × Nat × Nat) := some (.exit 0, [.si .i64 n, .si .i64 k, .b true, .ptr 0 0, .bs true 0 0 n.toNat, .bs true 1 0 s.j], [cob n s], cnm s, 170, 0, 0)
/-- Behind a write that is made. -/
def CS.w (s : CS) (n i : Int) (w : Ty.den wt) : CS := ⟨IntKind.i64.wrap (s.lf - 1) == 0, IntKind.i64.wrap (s.lf - 1), s.dur, visW s.vis n w, bW s.b n w, List.take s.j (List.drop 0 s.al) ++ [i], s.j + 1, qW s.q s.m n w, s.m + 1⟩
def cF (n i : Int) (l : List (Ty.den wt)) (w : Ty.den wt) : List Bool := [decide (i < (l.length : Int)), decide (i < 40), decide (0 ≤ i ∧ i < (l.length : Int)), inr (wO w) && decide (0 ≤ n ∧ n ≤ 4194304)]
def erp (off : Bool) : Int := bif off then 331 else 0
def cX (s : CS) (n : Int) (w : Ty.den wt) : Bool :=
  !(erp s.off != 0) && (some ((!(!(bif decide (fo (wO w) n ≥ 0) then bif decide (((fs (wS w) (wO w) n).size : Int) ≥ 0) then bif decide (fo (wO w) n ≤ ((part s.dur n).length : Int)) then decide (((fs (wS w) (wO w) n).size : Int) ≤ IntKind.i64.wrap (((part s.dur n).length : Int) - fo (wO w) n)) else false else false else false))) &&
     (some (decide ((s.m + 1) * 2 * 24 ≤ 281474976710656) && (some (decide (0 ≤ fo (wO w) n ∧ fo (wO w) n ≤ Bd.hi none n.toNat ∧ Bd.hi none n.toNat ≤ (n.toNat : Int)) && true && (some (!(s.lf == 0) && true && true)).getD true)).getD true)).getD true)).getD true
def cP (b : List Int) (n : Int) (w : Ty.den wt) : Bool := decide (0 ≤ fo (wO w) n ∧ fo (wO w) n + ((fs (wS w) (wO w) n).size : Int) ≤ (n.toNat : Int) ∧ n.toNat ≤ b.length ∧ n.toNat ≤ 4194304) && true
section
variable (n k i : Int) (s : CS) (l : List (Ty.den wt))
theorem rndC_A : (rndC wA n k i s l).path [true, true, true, true, true, true, true, true, false] = endC n k i (s.w n i (l.getD i.toNat wt.dflt)) l := by kernel_rfl
theorem rndC_B : (rndC [true] n k i s l).path [true, true, true, true, true, false, false, true, false] = endC n k i s l := by kernel_rfl
theorem rndC_E : (rndC wA n k i s l).path [false] = exC n k s := by kernel_rfl
theorem rndC_F : (rndC wA n k i s l).path [true, false] = exC n k s := by kernel_rfl
theorem rndC_AC : (rndC wA n k i s l).conds [true, true, true, true, true, true, true, true, false] = cF n i l (l.getD i.toNat wt.dflt) ++ [cX s n (l.getD i.toNat wt.dflt), decide (i < k), cP s.b n (l.getD i.toNat wt.dflt), decide ((s.j + 1) * 2 * 8 ≤ 281474976710656), !(true == decide (i < k))] := by kernel_rfl
theorem rndC_BC : (rndC [true] n k i s l).conds [true, true, true, true, true, false, false, true, false] = cF n i l (l.getD i.toNat wt.dflt) ++ [(erp s.off != 0) && true, decide (i < k), !((erp s.off == 0) == decide (i < k)), erp s.off != 0, erp s.off != 331] := by kernel_rfl
theorem rndC_EC : (rndC wA n k i s l).conds [false] = [decide (i < (l.length : Int))] := by kernel_rfl
theorem rndC_FC : (rndC wA n k i s l).conds [true, false] = [decide (i < (l.length : Int)), decide (i < 40)] := by kernel_rfl
end
end D
end Go.Proofs.Ytnjjkobijjdnbaa

/- Package disk: the loop of DiskCut. -/
set_option linter.unusedVariables false
set_option linter.unusedSimpArgs false
set_option maxRecDepth 100000
set_option maxHeartbeats 4000000
namespace Go.Proofs.Ytnjjkobijjdnbaa
open Go
namespace D
def rangeL (j : Nat) : List Int := (List.range j).map fun (i : Nat) => (i : Int)
theorem rangeL_len (j : Nat) : (rangeL j).length = j := by simp [rangeL]
theorem rangeL_succ (j : Nat) : rangeL (j + 1) = rangeL j ++ [(j : Int)] := by simp [rangeL, List.range_succ]
theorem durC_snoc (q : List (Ty.den wp)) (n : Int) : ∀ (r i : Nat) (d : List Int), durC q n i (r + 1) d = cpy (durC q n i r d) (pO q (i + r)).toNat n.toNat (bytesOf (pS q (i + r)))
  | 0, i, d => rfl
  | r + 1, i, d => by
    rw [durC, durC_snoc q n r (i + 1) _]
    simp only [durC]
    rw [show i + 1 + r = i + (r + 1) by omega]
theorem pO_app {q : List (Ty.den wp)} {p : Ty.den wp} {t : Nat} (h : t < q.length) : pO (q ++ [p]) t = pO q t ∧ pS (q ++ [p]) t = pS q t := by
  have e : (q ++ [p]).getD t wp.dflt = q.getD t wp.dflt := by simp [List.getD, List.getElem?_append_left h]
  exact ⟨by unfold pO; rw [e], by unfold pS; rw [e]⟩
theorem pO_last {q : List (Ty.den wp)} {o : Int} {s : ByteArray} : pO (q ++ [mkP o s]) q.length = o ∧ pS (q ++ [mkP o s]) q.length = s := by
  have e : (q ++ [mkP o s]).getD q.length wp.dflt = mkP o s := by simp [List.getD]
  exact ⟨by unfold pO; rw [e]; rfl, by unfold pS; rw [e]; rfl⟩
theorem durC_app {q : List (Ty.den wp)} {n : Int} {p : Ty.den wp} : ∀ (r i : Nat) (d : List Int), i + r ≤ q.length → durC (q ++ [p]) n i r d = durC q n i r d
  | 0, i, d, _ => rfl
  | r + 1, i, d, h => by
    simp only [durC]
    obtain ⟨e1, e2⟩ := pO_app (q := q) (p := p) (t := i) (by omega)
    rw [e1, e2, durC_app r (i + 1) _ (by omega)]
structure CInv0 (n : Int) (K : Nat) (d0 : List Int) (s : CS) : Prop where
  dur : s.dur = d0
  vb : s.vis = s.b
  len : s.b.length = n.toNat
  jk : s.j ≤ K
  m : s.m = s.j
  ql : s.q.length = s.j
  al : s.al = rangeL s.j
  lf : s.lf = (K : Int) - s.j
  fit : ∀ t, t < s.j → 0 ≤ pO s.q t ∧ pO s.q t ≤ n
  vd : s.vis = durC s.q n 0 s.j d0
structure CI where
  i : Nat
  s : CS
def CInv (n : Int) (K : Nat) (d0 : List Int) (l : List (Ty.den wt)) (a : CI) : Prop := a.i ≤ 40 ∧ a.i ≤ l.length ∧ a.s.j = min a.i K ∧ a.s.off = decide (K ≤ a.i) ∧ CInv0 n K d0 a.s
def PostC (n : Int) (K : Nat) (d0 : List Int) (z : CS) : Prop := z.off = decide (K ≤ z.j) ∧ CInv0 n K d0 z
theorem CInv0.w {n : Int} {K : Nat} {d0 : List Int} {s : CS} (h : CInv0 n K d0 s) (hn : 1 ≤ n) (hn2 : n ≤ 300) {i : Nat} {w : Ty.den wt} (hj : s.j = i) (hi : i < K) (hK : K < 20) : CInv0 n K d0 (s.w n i w) := by
  have hwf := fs_fit (w := w) (show 0 ≤ n by omega)
  have hwr : IntKind.i64.wrap (s.lf - 1) = (K : Int) - (i + 1) := by
    rw [h.lf, hj, wrap_in (by omega) (by omega)]; omega
  have hq : qW s.q s.m n w = s.q ++ [mkP (fo (wO w) n) (fs (wS w) (wO w) n)] := by
    unfold qW
    rw [List.drop_zero, h.m, ← h.ql, List.take_length]
  have hl := pO_last (q := s.q) (o := fo (wO w) n) (s := fs (wS w) (wO w) n)
  exact {
    dur := h.dur
    vb := by show visW s.vis n w = bW s.b n w; rw [h.vb]; exact vis_b (by omega) h.len
    len := bW_len (by omega) h.len
    jk := by show s.j + 1 ≤ K; omega
    m := by show s.m + 1 = s.j + 1; rw [h.m]
    ql := by show (qW s.q s.m n w).length = s.j + 1; rw [hq]; simp [h.ql]
    al := by
      show List.take s.j (List.drop 0 s.al) ++ [(i : Int)] = rangeL (s.j + 1)
      rw [rangeL_succ, h.al, List.drop_zero, List.take_of_length_le (by rw [rangeL_len]; exact Nat.le_refl _), hj]
    lf := by show IntKind.i64.wrap (s.lf - 1) = (K : Int) - ((s.j + 1 : Nat) : Int); rw [hwr, hj]; omega
    fit := fun t ht => by
      show 0 ≤ pO (qW s.q s.m n w) t ∧ pO (qW s.q s.m n w) t ≤ n
      rw [hq]
      have ht : t < s.j + 1 := ht
      by_cases he : t < s.j
      · rw [(pO_app (q := s.q) (t := t) (by rw [h.ql]; exact he)).1]; exact h.fit t he
      · have : t = s.q.length := by rw [h.ql]; omega
        rw [this, hl.1]
        omega
    vd := by
      show visW s.vis n w = durC (qW s.q s.m n w) n 0 (s.j + 1) d0
      rw [hq, durC_snoc, durC_app s.j 0 d0 (by rw [h.ql]; omega), ← h.vd, Nat.zero_add, ← h.ql, hl.1, hl.2]
      rfl }
theorem cX_true {s : CS} {n : Int} {w : Ty.den wt} (hn : 0 ≤ n) (hn2 : n ≤ 300) (hd : s.dur.length = n.toNat) (hm : s.m ≤ 60) (ho : s.off = false) (hl : s.lf ≠ 0) : cX s n w = true := by
  have h := cV_true (w := w) (m := s.m) hn hn2 hd hm
  unfold cV at h
  rw [Bool.and_eq_true] at h
  obtain ⟨h1, h2⟩ := h
  rw [Option.getD_some, Bool.and_eq_true] at h2
  obtain ⟨h2, h3⟩ := h2
  rw [Option.getD_some, Bool.and_true, Bool.and_true] at h3
  unfold cX
  rw [h1, h2, h3, ho]
  simp [erp, hl]
theorem body10 : Try.f10.body = some (root 10) := by kernel_rfl
theorem lp10 : (loops (root 10))[0]? = some (lp 10 0) := by kernel_rfl
theorem lies10 : Lies (root 10) 1 (lp 10 0) := Lies.of_take (n := 0) (by kernel_rfl)
noncomputable def outC' (n : Int) (K : Nat) (z : CS) : St := St.of 170 [0, 1, 7, 8, 10, 11] [.si .i64 n, .si .i64 (K : Int), .b true, .ptr 0 0, .bs true 0 0 n.toNat, .bs true 1 0 z.j] [cob n z] (cnm z) 0 0
theorem cut_loop (n : Int) (K : Nat) (h1 : 1 ≤ n) (h2 : n ≤ 300) (hK : K < 20) (d0 : List Int) (hd0 : d0.length = n.toNat) (l : List (Ty.den wt)) (hl : ∀ w ∈ l, inr (wO w) = true) : ∀ a : CI, CInv n K d0 l a →
    ∃ z : CS, PostC n K d0 z ∧ SemL Try.prog G0 (lp 10 0) (hdC n K a.i a.s l) (.exit 0) (outC' n K z) :=
  SemL.indE (P := Try.prog) (Γ := G0) (b := lp 10 0) (fun a : CI => hdC n K a.i a.s l) (fun a => l.length - a.i) (.exit 0) (by simp) (outC' n K) (CInv n K d0 l) (PostC n K d0) (fun a ⟨i1, i2, i3, i4, i5⟩ => by
    obtain ⟨i, s⟩ := a
    simp only at i1 i2 i3 i4 i5
    have hCA := cfgG_ok (wyC wA)
    have hCB := cfgG_ok (wyC [true])
    have hn : 0 ≤ n := by omega
    have post : PostC n K d0 s := by
      refine ⟨?_, i5⟩
      rw [i4]
      by_cases hk : K ≤ i
      · rw [decide_eq_true hk, decide_eq_true (by omega)]
      · rw [decide_eq_false hk, decide_eq_false (by omega)]
    by_cases hlt : i < l.length
    · by_cases h60 : i < 40
      · refine .inl ?_
        have hget : l.getD i wt.dflt = l[i] := by simp [List.getD, hlt]
        have hw := hl l[i] (List.getElem_mem hlt)
        generalize hW : l[i] = w at *
        have hwi : IntKind.i64.wrap ((i : Int) + 1) = ((i + 1 : Nat) : Int) := by rw [wrap_in (by omega) (by omega)]; rfl
        have hF : cF n i l w = [true, true, true, true] := by
          unfold cF
          rw [decide_eq_true (show (i : Int) < (l.length : Int) by omega), decide_eq_true (show (i : Int) < 40 by omega), decide_eq_true (show 0 ≤ (i : Int) ∧ (i : Int) < (l.length : Int) from ⟨by omega, by omega⟩), hw, decide_eq_true (show 0 ≤ n ∧ n ≤ 4194304 from ⟨hn, by omega⟩)]
          rfl
        by_cases hk : i < K
        · have hj : s.j = i := by omega
          have ho : s.off = false := by rw [i4, decide_eq_false (by omega)]
          have hlf : s.lf = (K : Int) - i := by rw [i5.lf, hj]
          have hX : cX s n w = true := cX_true hn h2 (by rw [i5.dur]; exact hd0) (by rw [i5.m]; omega) ho (by omega)
          have hP : cP s.b n w = true := by
            have hwf := fs_fit (w := w) hn
            have hbl := i5.len
            unfold cP
            rw [decide_eq_true ⟨by omega, by omega, by omega, by omega⟩]; rfl
          have e := rndC_A n K i s l
          rw [Int.toNat_natCast, hget] at e
          have hr := Tr.run_path _ _ _ e (by
            rw [rndC_AC, Int.toNat_natCast, hget, hF, hX, hP, decide_eq_true (show (i : Int) < (K : Int) by omega), decide_eq_true (show (s.j + 1) * 2 * 8 ≤ 281474976710656 by omega)]; rfl)
          unfold endC at hr
          rw [hwi] at hr
          refine ⟨⟨i + 1, s.w n i w⟩, SemC.of_evM hCA Try.func10 body10 lies10 hr, ⟨by show i + 1 ≤ 40; omega, by show i + 1 ≤ l.length; omega, by show s.j + 1 = min (i + 1) K; omega, ?_, i5.w h1 h2 hj hk hK⟩, by show l.length - (i + 1) < l.length - i; omega⟩
          show (IntKind.i64.wrap (s.lf - 1) == 0) = decide (K ≤ i + 1)
          rw [hlf, wrap_in (by omega) (by omega)]
          by_cases hke : K ≤ i + 1
          · rw [decide_eq_true hke]; simp; omega
          · rw [decide_eq_false hke]; simp; omega
        · have ho : s.off = true := by rw [i4, decide_eq_true (by omega)]
          have e := rndC_B n K i s l
          have hr := Tr.run_path _ _ _ e (by
            rw [rndC_BC, Int.toNat_natCast, hget, hF, ho, decide_eq_false (show ¬ (i : Int) < (K : Int) by omega)]; rfl)
          unfold endC at hr
          rw [hwi] at hr
          exact ⟨⟨i + 1, s⟩, SemC.of_evM hCB Try.func10 body10 lies10 hr, ⟨by show i + 1 ≤ 40; omega, by show i + 1 ≤ l.length; omega, by show s.j = min (i + 1) K; omega, by show s.off = decide (K ≤ i + 1); rw [ho, decide_eq_true (by omega)], i5⟩, by show l.length - (i + 1) < l.length - i; omega⟩
      · refine .inr ⟨s, post, ?_⟩
        have hr := Tr.run_path _ _ _ (rndC_F n K i s l) (by rw [rndC_FC, decide_eq_true (by omega), decide_eq_false (by omega)])
        exact SemC.of_evM hCA Try.func10 body10 lies10 hr
    · refine .inr ⟨s, post, ?_⟩
      have hr := Tr.run_path _ _ _ (rndC_E n K i s l) (by rw [rndC_EC, decide_eq_false (by omega)])
      exact SemC.of_evM hCA Try.func10 body10 lies10 hr)
end D
end Go.Proofs.Ytnjjkobijjdnbaa

