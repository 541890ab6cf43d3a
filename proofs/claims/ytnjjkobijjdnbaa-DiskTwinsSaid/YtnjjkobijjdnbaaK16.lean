/- Package disk: the loop of DiskTwins, and its entry. -/
import Derived.Test.YtnjjkobijjdnbaaK15
set_option linter.unusedVariables false
set_option linter.unusedSimpArgs false
set_option maxRecDepth 100000
set_option maxHeartbeats 4000000
namespace Go.Proofs.Ytnjjkobijjdnbaa
open Go
namespace D
def DS.ok (s : DS) (n : Int) : Prop := s.dur.length = n.toNat ∧ s.vis.length = n.toNat
theorem durS_eq {dur vis : List Int} {n : Int} (h1 : dur.length = n.toNat) (h2 : vis.length = n.toNat) : durS dur vis n = vis := by
  unfold durS
  rw [part_all h2]
  exact cpy_all h1 h2
theorem DS.ok_w {s : DS} {n : Int} {w : Ty.den wt} (h : s.ok n) (hn : 0 ≤ n) : (s.w n w).ok n := ⟨h.1, by
  show (visW s.vis n w).length = n.toNat
  rw [vis_b hn h.2]
  exact bW_len hn h.2⟩
theorem DS.ok_s {s : DS} {n : Int} (h : s.ok n) : (s.s n).ok n := ⟨by
  show (durS s.dur s.vis n).length = n.toNat
  rw [durS_eq h.1 h.2]; exact h.2, h.2⟩
theorem DS.ok_c {s : DS} {n : Int} (h : s.ok n) : (s.c n).ok n := ⟨h.1, by
  show (durS s.vis s.dur n).length = n.toNat
  rw [durS_eq h.2 h.1]; exact h.1⟩
theorem cV_true {dur : List Int} {m : Nat} {n : Int} {w : Ty.den wt} (hn : 0 ≤ n) (hn2 : n ≤ 300) (hd : dur.length = n.toNat) (hm : m ≤ 60) : cV dur m n w = true := by
  have h := cW_true (w := w) (dur := dur) (b := dur) (m := m) hn hn2 hd hd hm
  have e : cW dur dur m n (fo (wO w) n) (fs (wS w) (wO w) n) = [decide (0 ≤ fo (wO w) n ∧ fo (wO w) n + ((fs (wS w) (wO w) n).size : Int) ≤ (n.toNat : Int) ∧ n.toNat ≤ dur.length ∧ n.toNat ≤ 4194304) && true, cV dur m n w] := rfl
  rw [e] at h
  simpa using (List.cons.inj (List.cons.inj h).2).1
theorem body11 : Try.f11.body = some (root 11) := by kernel_rfl
theorem lp11 : (loops (root 11))[0]? = some (lp 11 0) := by kernel_rfl
theorem lies11 : Lies (root 11) 1 (lp 11 0) := Lies.of_take (n := 0) (by kernel_rfl)
/-- Two disks with the same contents. -/
def twin (c a : DS) : Prop := c = a
structure WS where
  i : Nat
  c : DS
  d : DS
  a : DS
def WInv (n : Int) (l : List (Ty.den wt)) (s : WS) : Prop := s.i ≤ 30 ∧ s.i ≤ l.length ∧ s.c.ok n ∧ s.d.ok n ∧ s.a.ok n ∧ twin s.c s.a ∧ s.c.m ≤ s.i ∧ s.d.m ≤ s.i
noncomputable def outW (n : Int) (z : DS × DS) : St := St.of 150 [0, 5, 6, 10] [.si .i64 n, .b true, .ptr 0 0, .ptr 1 0] [dob n 0 z.1.m, dob n 3 z.2.m] [u8 z.1.dur, u8 z.1.vis, pq z.1.q, u8 z.2.dur, u8 z.2.vis, pq z.2.q] 0 0
def PostW (n : Int) (z : DS × DS) : Prop := z.1.ok n ∧ z.2.ok n ∧ twin z.1 z.2
theorem w_loop (n : Int) (h1 : 1 ≤ n) (h2 : n ≤ 300) (l : List (Ty.den wt)) (hl : ∀ w ∈ l, inr (wO w) = true) : ∀ s : WS, WInv n l s →
    ∃ z : DS × DS, PostW n z ∧ SemL Try.prog G0 (lp 11 0) (hdW n s.i s.c s.d s.a l) (.exit 0) (outW n z) :=
  SemL.indE (P := Try.prog) (Γ := G0) (b := lp 11 0) (fun s : WS => hdW n s.i s.c s.d s.a l) (fun s => l.length - s.i) (.exit 0) (by simp) (outW n) (WInv n l) (PostW n) (fun s ⟨i1, i2, i3, i4, i5, i6, i7, i8⟩ => by
    obtain ⟨i, c, d, a⟩ := s
    simp only at i1 i2 i3 i4 i5 i6 i7 i8
    have hC := cfgR_ok wy6
    have hn : 0 ≤ n := by omega
    by_cases hlt : i < l.length
    · by_cases h60 : i < 30
      · refine .inl ?_
        have hget : l.getD i wt.dflt = l[i] := by simp [List.getD, hlt]
        have hw := hl l[i] (List.getElem_mem hlt)
        generalize hW : l[i] = w at *
        have hwi : IntKind.i64.wrap ((i : Int) + 1) = ((i + 1 : Nat) : Int) := by rw [wrap_in (by omega) (by omega)]; rfl
        have hT : cT n i l w = [true, true, true, true, (i : Int).tmod 2 == 1] := by
          unfold cT
          rw [decide_eq_true (show (i : Int) < (l.length : Int) by omega), decide_eq_true (show (i : Int) < 30 by omega), decide_eq_true (show 0 ≤ (i : Int) ∧ (i : Int) < (l.length : Int) from ⟨by omega, by omega⟩), hw, decide_eq_true (show 0 ≤ n ∧ n ≤ 4194304 from ⟨hn, by omega⟩)]
          rfl
        have hVd : cV d.dur d.m n w = true := cV_true hn h2 i4.1 (by omega)
        have hVc : cV c.dur c.m n w = true := cV_true hn h2 i3.1 (by omega)
        have hVa : cV a.dur a.m n w = true := cV_true hn h2 i5.1 (by rw [← (show c = a from i6)]; omega)
        have fin : ∀ (c' d' a' : DS), c'.ok n → d'.ok n → a'.ok n → twin c' a' → c'.m ≤ i + 1 → d'.m ≤ i + 1 → (rndW n i c d a l).run = endW n i c' d' a' l → ∃ s' : WS, SemC Try.prog G0 (lp 11 0) (hdW n i c d a l) .normal (hdW n s'.i s'.c s'.d s'.a l) ∧ WInv n l s' ∧ l.length - s'.i < l.length - i := fun c' d' a' o1 o2 o3 o4 o5 o6 hr => by
          unfold endW at hr
          rw [hwi] at hr
          exact ⟨⟨i + 1, c', d', a'⟩, SemC.of_evM hC Try.func11 body11 lies11 hr, ⟨by show i + 1 ≤ 30; omega, by show i + 1 ≤ l.length; omega, o1, o2, o3, o4, o5, o6⟩, by show l.length - (i + 1) < l.length - i; omega⟩
        have okd := DS.ok_w (w := w) i4 hn
        have okc := DS.ok_w (w := w) i3 hn
        have oka := DS.ok_w (w := w) i5 hn
        have tw : twin (c.w n w) (a.w n w) := congrArg (fun s : DS => s.w n w) i6
        have tws : twin ((c.w n w).s n) ((a.w n w).s n) := congrArg (fun s : DS => (s.w n w).s n) i6
        have cm0 : ∀ k, c.m ≤ i → c.m ≤ i + 1 := fun _ h => by omega
        cases h2i : ((i : Int).tmod 2 == 1) with
        | true =>
          cases hy : wY w with
          | false =>
            cases h7 : c7 n w with
            | false =>
              have e := rndW_1 n i c d a l
              rw [Int.toNat_natCast, hget] at e
              exact fin _ _ _ i3 okd i5 i6 (by omega) (by show d.m + 1 ≤ i + 1; omega) (by
                have := Tr.run_path _ _ _ e (by rw [rndW_1C, Int.toNat_natCast, hget, hT, hVd, hy, h7, h2i]; rfl)
                exact this)
            | true =>
              have e := rndW_2 n i c d a l
              rw [Int.toNat_natCast, hget] at e
              exact fin _ _ _ i3 (DS.ok_c okd) i5 i6 (by omega) (Nat.zero_le _) (by
                have := Tr.run_path _ _ _ e (by rw [rndW_2C, Int.toNat_natCast, hget, hT, hVd, hy, h7, h2i, cS_true]; rfl)
                exact this)
          | true =>
            cases h7 : c7 n w with
            | false =>
              have e := rndW_3 n i c d a l
              rw [Int.toNat_natCast, hget] at e
              exact fin _ _ _ i3 (DS.ok_s okd) i5 i6 (by omega) (Nat.zero_le _) (by
                have := Tr.run_path _ _ _ e (by rw [rndW_3C, Int.toNat_natCast, hget, hT, hVd, hy, h7, h2i, cS_true]; rfl)
                exact this)
            | true =>
              have e := rndW_4 n i c d a l
              rw [Int.toNat_natCast, hget] at e
              exact fin _ _ _ i3 (DS.ok_c (DS.ok_s okd)) i5 i6 (by omega) (Nat.zero_le _) (by
                have := Tr.run_path _ _ _ e (by rw [rndW_4C, Int.toNat_natCast, hget, hT, hVd, hy, h7, h2i, cS_true, cSl_true]; rfl)
                exact this)
        | false =>
          cases hy : wY w with
          | false =>
            have e := rndW_5 n i c d a l
            rw [Int.toNat_natCast, hget] at e
            exact fin _ _ _ okc i4 oka tw (by show c.m + 1 ≤ i + 1; omega) (by omega) (by
              have := Tr.run_path _ _ _ e (by rw [rndW_5C, Int.toNat_natCast, hget, hT, hVc, hVa, hy, h2i]; rfl)
              exact this)
          | true =>
            have e := rndW_6 n i c d a l
            rw [Int.toNat_natCast, hget] at e
            exact fin _ _ _ (DS.ok_s okc) i4 (DS.ok_s oka) tws (Nat.zero_le _) (by omega) (by
              have := Tr.run_path _ _ _ e (by rw [rndW_6C, Int.toNat_natCast, hget, hT, hVc, hVa, hy, h2i, cS_true, cS_true]; rfl)
              exact this)
      · refine .inr ⟨(c, a), ⟨i3, i5, i6⟩, ?_⟩
        have hr := Tr.run_path _ _ _ (rndW_F n i c d a l) (by rw [rndW_FC, decide_eq_true (by omega), decide_eq_false (by omega)])
        exact SemC.of_evM hC Try.func11 body11 lies11 hr
    · refine .inr ⟨(c, a), ⟨i3, i5, i6⟩, ?_⟩
      have hr := Tr.run_path _ _ _ (rndW_E n i c d a l) (by rw [rndW_EC, decide_eq_false (by omega)])
      exact SemC.of_evM hC Try.func11 body11 lies11 hr)
end D
end Go.Proofs.Ytnjjkobijjdnbaa
