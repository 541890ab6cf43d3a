/- Package disk: the loop of DiskReadsBack. -/
import Derived.Test.YtnjjkobijjdnbaaK8
set_option linter.unusedVariables false
set_option linter.unusedSimpArgs false
set_option maxRecDepth 100000
set_option maxHeartbeats 4000000
namespace Go.Proofs.Ytnjjkobijjdnbaa
open Go
namespace D
theorem cpy_putN {v : List Int} {o n : Nat} {s : ByteArray} (h1 : o + s.size ≤ n) (h2 : n ≤ v.length) : cpy v o n (bytesOf s) = putN v o s s.size := by
  have hb := bytesOf_len s
  have hm : Nat.min (bytesOf s).length (n - o) = s.size := by rw [hb]; exact Nat.min_eq_left (by omega)
  unfold cpy putN
  rw [hm, Nat.zero_add, List.drop_zero, List.drop_zero, List.take_of_length_le (l := v.drop (o + s.size)) (by simp)]
theorem cpy_all {α : Type} {v y : List α} {n : Nat} (h1 : v.length = n) (h2 : y.length = n) : cpy v 0 n y = y := by
  unfold cpy
  have hm : Nat.min y.length (n - 0) = n := by rw [h2]; exact Nat.min_self n
  rw [hm]
  subst h1
  rw [← h2]
  simp
theorem part_all {v : List Int} {n : Int} (h : v.length = n.toNat) : part v n = v := by
  unfold part
  rw [List.drop_zero, ← h, List.take_length]
theorem fs_fit {w : Ty.den wt} {n : Int} (hn : 0 ≤ n) : 0 ≤ fo (wO w) n ∧ fo (wO w) n + ((fs (wS w) (wO w) n).size : Int) ≤ n := by
  have h1 := fo_in (o := wO w) hn
  have h2 := fs_size (s := wS w) (o := wO w) hn
  omega
theorem vis_b {b : List Int} {n : Int} {w : Ty.den wt} (hn : 0 ≤ n) (hb : b.length = n.toNat) : visW b n w = bW b n w := by
  have h := fs_fit (w := w) hn
  unfold visW bW
  exact cpy_putN (by omega) (by omega)
theorem bW_len {b : List Int} {n : Int} {w : Ty.den wt} (hn : 0 ≤ n) (hb : b.length = n.toNat) : (bW b n w).length = n.toNat := by
  have h := fs_fit (w := w) hn
  unfold bW
  rw [putN_len (by omega) (Nat.le_refl _), hb]
theorem cW_true {dur b : List Int} {m : Nat} {n : Int} {w : Ty.den wt} (hn : 0 ≤ n) (hn2 : n ≤ 300) (hd : dur.length = n.toNat) (hb : b.length = n.toNat) (hm : m ≤ 60) : cW dur b m n (fo (wO w) n) (fs (wS w) (wO w) n) = [true, true] := by
  obtain ⟨h1, h2⟩ := fs_fit (w := w) hn
  have hw : IntKind.i64.wrap (((dur.length : Nat) : Int) - fo (wO w) n) = dur.length - fo (wO w) n := wrap_in (by omega) (by omega)
  have a1 : decide (fo (wO w) n ≥ 0) = true := decide_eq_true h1
  have a2 : decide (((fs (wS w) (wO w) n).size : Int) ≥ 0) = true := decide_eq_true (by omega)
  have a3 : decide (fo (wO w) n ≤ (dur.length : Int)) = true := decide_eq_true (by omega)
  have a4 : decide (((fs (wS w) (wO w) n).size : Int) ≤ dur.length - fo (wO w) n) = true := decide_eq_true (by omega)
  have a5 : decide ((m + 1) * 2 * 24 ≤ 281474976710656) = true := decide_eq_true (by omega)
  have a6 : decide (0 ≤ fo (wO w) n ∧ fo (wO w) n + ((fs (wS w) (wO w) n).size : Int) ≤ (n.toNat : Int) ∧ n.toNat ≤ b.length ∧ n.toNat ≤ 4194304) = true := decide_eq_true ⟨h1, by omega, by omega, by omega⟩
  have a7 : decide (0 ≤ fo (wO w) n ∧ fo (wO w) n ≤ Bd.hi none n.toNat ∧ Bd.hi none n.toNat ≤ (n.toNat : Int)) = true := decide_eq_true ⟨h1, by simp only [Bd.hi]; omega, by simp only [Bd.hi]; omega⟩
  unfold cW
  rw [part_all hd, hw, a1, a2, a3, a4, a5, a6, a7]
  rfl
theorem cR_ok {dur b : List Int} {n : Int} (hn : 0 ≤ n) (hn2 : n ≤ 300) (hd : dur.length = n.toNat) (hb : b.length = n.toNat) : cR dur b b n = [true, false, false] := by
  unfold cR
  rw [part_all hd, part_all hb, ← hb, List.take_length]
  have a1 : decide (0 ≤ n ∧ n ≤ ((dur.length : Nat) : Int) ∧ n ≤ ((b.length : Nat) : Int) ∧ dur.length ≤ 4194304) = true := decide_eq_true ⟨hn, by omega, by omega, by omega⟩
  rw [a1]
  simp
theorem body6 : Try.f6.body = some (root 6) := by kernel_rfl
theorem lp6 : (loops (root 6))[0]? = some (lp 6 0) := by kernel_rfl
theorem lies6 : Lies (root 6) 1 (lp 6 0) := Lies.of_take (n := 0) (by kernel_rfl)
structure RS where
  i : Nat
  dur : List Int
  b : List Int
  q : List (Ty.den wp)
  m : Nat
theorem rb_loop (n : Int) (h1 : 1 ≤ n) (h2 : n ≤ 300) (l : List (Ty.den wt)) (hl : ∀ w ∈ l, inr (wO w) = true) : ∀ a : RS, (a.i ≤ 60 ∧ a.i ≤ l.length ∧ a.dur.length = n.toNat ∧ a.b.length = n.toNat ∧ a.m ≤ a.i) →
    SemL Try.prog G0 (lp 6 0) (hd n a.i a.dur a.b a.b a.q a.m l) (Ex.exit 0).to (St.of 79 [5] [.b true] [] []) :=
  SemL.ind (P := Try.prog) (Γ := G0) (b := lp 6 0) (fun a : RS => hd n a.i a.dur a.b a.b a.q a.m l) (fun a => l.length - a.i) (fun _ => (.exit 0, St.of 79 [5] [.b true] [] [])) (fun a => a.i ≤ 60 ∧ a.i ≤ l.length ∧ a.dur.length = n.toNat ∧ a.b.length = n.toNat ∧ a.m ≤ a.i) (fun a ⟨i1, i2, i3, i4, i5⟩ => by
    obtain ⟨i, dur, b, q, m⟩ := a
    simp only at i1 i2 i3 i4 i5
    have hC := cfgR_ok wy6
    by_cases hlt : i < l.length
    · by_cases h60 : i < 60
      · refine .inl ?_
        have hget : l.getD i wt.dflt = l[i] := by simp [List.getD, hlt]
        have hw := hl l[i] (List.getElem_mem hlt)
        generalize hW : l[i] = w at *
        have e0 : decide ((i : Int) < (l.length : Int)) = true := decide_eq_true (by omega)
        have e1 : decide ((i : Int) < 60) = true := decide_eq_true (by omega)
        have e2 : decide (0 ≤ (i : Int) ∧ (i : Int) < (l.length : Int)) = true := decide_eq_true ⟨by omega, by omega⟩
        have e3 : decide (0 ≤ n ∧ n ≤ 4194304) = true := decide_eq_true ⟨by omega, by omega⟩
        have hc := cW_true (w := w) (m := m) (by omega) h2 i3 i4 (by omega)
        have hv := vis_b (w := w) (by omega) i4
        have hbl := bW_len (w := w) (by omega) i4
        have hwi : IntKind.i64.wrap ((i : Int) + 1) = ((i + 1 : Nat) : Int) := by rw [wrap_in (by omega) (by omega)]; rfl
        cases hy : wY w with
        | false =>
          have hr := Tr.run_path _ _ _ (rnd_A n i dur b b q m l) (by
            rw [rnd_AC, Int.toNat_natCast, hget, hc, hv, cR_ok (by omega) h2 i3 hbl, e0, e1, e2, e3, hw, hy]; rfl)
          rw [Int.toNat_natCast, hget, hv, hwi] at hr
          exact ⟨⟨i + 1, dur, bW b n w, qW q m n w, m + 1⟩, SemC.of_evM hC Try.func6 body6 lies6 hr, ⟨by show i + 1 ≤ 60; omega, by show i + 1 ≤ l.length; omega, i3, hbl, by show m + 1 ≤ i + 1; omega⟩, by show l.length - (i + 1) < l.length - i; omega, rfl⟩
        | true =>
          have hds : durS dur (bW b n w) n = bW b n w := by
            unfold durS
            rw [part_all hbl]
            exact cpy_all i3 hbl
          have e4 : (decide ((0 : Int) ≤ 0 ∧ 0 ≤ Bd.hi (some (IntKind.i64, 0, false)) (m + 1) ∧ Bd.hi (some (IntKind.i64, 0, false)) (m + 1) ≤ ((m + 1 : Nat) : Int)) && true && true) = true := by
            rw [decide_eq_true (by simp only [Bd.hi]; omega)]; rfl
          have hr := Tr.run_path _ _ _ (rnd_B n i dur b b q m l) (by
            rw [rnd_BC, Int.toNat_natCast, hget, hc, hv, hds, cR_ok (by omega) h2 hbl hbl, e0, e1, e2, e3, hw, hy, e4]; rfl)
          rw [Int.toNat_natCast, hget, hv, hds, hwi] at hr
          exact ⟨⟨i + 1, bW b n w, bW b n w, qS (qW q m n w) (m + 1), 0⟩, SemC.of_evM hC Try.func6 body6 lies6 hr, ⟨by show i + 1 ≤ 60; omega, by show i + 1 ≤ l.length; omega, hbl, hbl, Nat.zero_le _⟩, by show l.length - (i + 1) < l.length - i; omega, rfl⟩
      · refine .inr ⟨by simp [Ex.to], ?_⟩
        have hr := Tr.run_path _ _ _ (rnd_F n i dur b b q m l) (by rw [rnd_FC, decide_eq_true (by omega), decide_eq_false (by omega)])
        exact SemC.of_evM hC Try.func6 body6 lies6 hr
    · refine .inr ⟨by simp [Ex.to], ?_⟩
      have hr := Tr.run_path _ _ _ (rnd_E n i dur b b q m l) (by rw [rnd_EC, decide_eq_false (by omega)])
      exact SemC.of_evM hC Try.func6 body6 lies6 hr)
end D
end Go.Proofs.Ytnjjkobijjdnbaa
