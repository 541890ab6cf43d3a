/- Package disk: a round of the loop of DiskSynced, reckoned; the loop. -/
import Derived.Test.YtnjjkobijjdnbaaK11
set_option linter.unusedVariables false
set_option linter.unusedSimpArgs false
set_option maxRecDepth 100000
set_option maxHeartbeats 8000000
namespace Go.Proofs.Ytnjjkobijjdnbaa
open Go
/-- A loop by induction; where it ends is told by what holds there. -/
theorem SemL.indE {P : Program} {Γ : Nat → Option V} {A Z : Type} {b : Code} (emb : A → St) (m : A → Nat) (e : Exit) (he : e ≠ .normal) (outs : Z → St) (Inv : A → Prop) (Post : Z → Prop)
    (h : ∀ a, Inv a → (∃ a', SemC P Γ b (emb a) .normal (emb a') ∧ Inv a' ∧ m a' < m a) ∨ ∃ z, Post z ∧ SemC P Γ b (emb a) e (outs z)) : ∀ a, Inv a → ∃ z, Post z ∧ SemL P Γ b (emb a) e (outs z) := by
  have key : ∀ (k : Nat) a, m a ≤ k → Inv a → ∃ z, Post z ∧ SemL P Γ b (emb a) e (outs z) := by
    intro k
    induction k with
    | zero =>
      intro a hm hi
      rcases h a hi with ⟨a', h1, h2, h3⟩ | ⟨z, h1, h2⟩
      · omega
      · exact ⟨z, h1, SemL.out he h2⟩
    | succ k ih =>
      intro a hm hi
      rcases h a hi with ⟨a', h1, h2, h3⟩ | ⟨z, h1, h2⟩
      · obtain ⟨z, z1, z2⟩ := ih a' (by omega) h2
        exact ⟨z, z1, SemL.next h1 z2⟩
      · exact ⟨z, h1, SemL.out he h2⟩
  exact fun a hi => key _ a (Nat.le_refl _) hi
namespace D
noncomputable def hdS (n i torn : Int) (sure : ByteArray) (dur vis b : List Int) (q : List (Ty.den wp)) (m : Nat) (l : List (Ty.den wt)) : St := St.of 102 [0, 1, 2, 7, 8, 10, 11, 12] [.si .i64 n, .slst .ro wt l, .si .i64 torn, .b true, .ptr 0 0, .bs true 0 0 n.toNat, .ss sure, .si .i64 i]
  [some [.b false, .i .i64 0, .bs true 1 0 n.toNat, .bs true 2 0 n.toNat, .bs true 3 0 m]] [some (.live (.arr (.int .u8) b)), some (.live (.arr (.int .u8) dur)), some (.live (.arr (.int .u8) vis)), some (.live (.arr wp q))]
def lveS : Ex → List Nat | .normal => [0, 1, 2, 7, 8, 10, 11, 12] | _ => [0, 2, 7, 8, 11]
noncomputable def rndS (n i torn : Int) (sure : ByteArray) (dur vis b : List Int) (q : List (Ty.den wp)) (m : Nat) (l : List (Ty.den wt)) := outa lveS (evCK Try.prog G0 (cfM Try.prog G0 (cfgR wy6) 30) ((cfgR wy6).lo 7) [] 60 1 (lp 7 0) (hdS n i torn sure dur vis b q m l))
def dsC : List Bool := [true, true, true, true, true, true, false, false]
def dsD : List Bool := [true, true, true, true, true, true, true, true, true]
/-- What a round asks for up to the write. -/
def cA (dur b : List Int) (m : Nat) (n i : Int) (l : List (Ty.den wt)) (w : Ty.den wt) : List Bool := [decide (i < (l.length : Int)), decide (i < 60), decide (0 ≤ i ∧ i < (l.length : Int)), inr (wO w) && decide (0 ≤ n ∧ n ≤ 4194304)] ++ cW dur b m n (fo (wO w) n) (fs (wS w) (wO w) n)
def cS (m : Nat) : Bool := decide ((0 : Int) ≤ 0 ∧ 0 ≤ Bd.hi (some (IntKind.i64, 0, false)) (m + 1) ∧ Bd.hi (some (IntKind.i64, 0, false)) (m + 1) ≤ ((m + 1 : Nat) : Int)) && true && true
theorem cS_true (m : Nat) : cS m = true := by
  unfold cS
  rw [decide_eq_true (by simp only [Bd.hi]; omega)]; rfl
section
variable (n i torn : Int) (sure : ByteArray) (dur vis b : List Int) (q : List (Ty.den wp)) (m : Nat) (l : List (Ty.den wt))
theorem rndS_A : (rndS n i torn sure dur vis b q m l).path dsC = some (.normal, [.si .i64 n, .slst .ro wt l, .si .i64 torn, .b true, .ptr 0 0, .bs true 0 0 n.toNat, .ss sure, .si .i64 (IntKind.i64.wrap (i + 1))],
  [some [.b false, .i .i64 0, .bs true 1 0 n.toNat, .bs true 2 0 n.toNat, .bs true 3 0 (m + 1)]], [some (.live (.arr (.int .u8) (bW b n (l.getD i.toNat wt.dflt)))), some (.live (.arr (.int .u8) dur)), some (.live (.arr (.int .u8) (visW vis n (l.getD i.toNat wt.dflt)))), some (.live (.arr wp (qW q m n (l.getD i.toNat wt.dflt))))], 102, 0, 0) := by kernel_rfl
theorem rndS_B : (rndS n i torn sure dur vis b q m l).path dsD = some (.normal, [.si .i64 n, .slst .ro wt l, .si .i64 torn, .b true, .ptr 0 0, .bs true 0 0 n.toNat, .ss (strOfNums (part (bW b n (l.getD i.toNat wt.dflt)) n)), .si .i64 (IntKind.i64.wrap (i + 1))],
  [some [.b false, .i .i64 0, .bs true 1 0 n.toNat, .bs true 2 0 n.toNat, .bs true 3 0 0]], [some (.live (.arr (.int .u8) (bW b n (l.getD i.toNat wt.dflt)))), some (.live (.arr (.int .u8) (durS dur (visW vis n (l.getD i.toNat wt.dflt)) n))), some (.live (.arr (.int .u8) (visW vis n (l.getD i.toNat wt.dflt)))), some (.live (.arr wp (qS (qW q m n (l.getD i.toNat wt.dflt)) (m + 1))))], 102, 0, 0) := by kernel_rfl
theorem rndS_E : (rndS n i torn sure dur vis b q m l).path [false] = some (.exit 0, [.si .i64 n, .si .i64 torn, .b true, .ptr 0 0, .ss sure], [some [.b false, .i .i64 0, .bs true 0 0 n.toNat, .bs true 1 0 n.toNat, .bs true 2 0 m]], [some (.live (.arr (.int .u8) dur)), some (.live (.arr (.int .u8) vis)), some (.live (.arr wp q))], 102, 0, 0) := by kernel_rfl
theorem rndS_F : (rndS n i torn sure dur vis b q m l).path [true, false] = some (.exit 0, [.si .i64 n, .si .i64 torn, .b true, .ptr 0 0, .ss sure], [some [.b false, .i .i64 0, .bs true 0 0 n.toNat, .bs true 1 0 n.toNat, .bs true 2 0 m]], [some (.live (.arr (.int .u8) dur)), some (.live (.arr (.int .u8) vis)), some (.live (.arr wp q))], 102, 0, 0) := by kernel_rfl
theorem rndS_EC : (rndS n i torn sure dur vis b q m l).conds [false] = [decide (i < (l.length : Int))] := by kernel_rfl
theorem rndS_FC : (rndS n i torn sure dur vis b q m l).conds [true, false] = [decide (i < (l.length : Int)), decide (i < 60)] := by kernel_rfl
theorem rndS_AC : (rndS n i torn sure dur vis b q m l).conds dsC = cA dur b m n i l (l.getD i.toNat wt.dflt) ++ [wY (l.getD i.toNat wt.dflt), wY (l.getD i.toNat wt.dflt)] := by kernel_rfl
theorem rndS_BC : (rndS n i torn sure dur vis b q m l).conds dsD = cA dur b m n i l (l.getD i.toNat wt.dflt) ++ [wY (l.getD i.toNat wt.dflt), cS m, wY (l.getD i.toNat wt.dflt)] := by kernel_rfl
end
theorem body7 : Try.f7.body = some (root 7) := by kernel_rfl
theorem lp7 : (loops (root 7))[0]? = some (lp 7 0) := by kernel_rfl
theorem lies7 : Lies (root 7) 1 (lp 7 0) := Lies.of_take (n := 0) (by kernel_rfl)
theorem cA_true {dur b : List Int} {m i : Nat} {n : Int} {l : List (Ty.den wt)} {w : Ty.den wt} (hn : 0 ≤ n) (hn2 : n ≤ 300) (hd : dur.length = n.toNat) (hb : b.length = n.toNat) (hm : m ≤ 60) (hi : i < l.length) (h60 : i < 60) (hw : inr (wO w) = true) : cA dur b m n i l w = [true, true, true, true, true, true] := by
  unfold cA
  rw [cW_true hn hn2 hd hb hm, decide_eq_true (show (i : Int) < (l.length : Int) by omega), decide_eq_true (show (i : Int) < 60 by omega), decide_eq_true (show 0 ≤ (i : Int) ∧ (i : Int) < (l.length : Int) from ⟨by omega, by omega⟩), hw, decide_eq_true (show 0 ≤ n ∧ n ≤ 4194304 from ⟨hn, by omega⟩)]
  rfl
structure ZS where
  dur : List Int
  vis : List Int
  q : List (Ty.den wp)
  m : Nat
noncomputable def outS (n torn : Int) (z : ZS) : St := St.of 102 [0, 2, 7, 8, 11] [.si .i64 n, .si .i64 torn, .b true, .ptr 0 0, .ss (strOfNums z.dur)] [some [.b false, .i .i64 0, .bs true 0 0 n.toNat, .bs true 1 0 n.toNat, .bs true 2 0 z.m]] [some (.live (.arr (.int .u8) z.dur)), some (.live (.arr (.int .u8) z.vis)), some (.live (.arr wp z.q))] 0 0
theorem s_loop (n torn : Int) (h1 : 1 ≤ n) (h2 : n ≤ 300) (l : List (Ty.den wt)) (hl : ∀ w ∈ l, inr (wO w) = true) : ∀ a : RS, (a.i ≤ 60 ∧ a.i ≤ l.length ∧ a.dur.length = n.toNat ∧ a.b.length = n.toNat ∧ a.m ≤ a.i) →
    ∃ z : ZS, (z.dur.length = n.toNat ∧ z.vis.length = n.toNat ∧ z.m ≤ 60) ∧ SemL Try.prog G0 (lp 7 0) (hdS n a.i torn (strOfNums a.dur) a.dur a.b a.b a.q a.m l) (.exit 0) (outS n torn z) :=
  SemL.indE (P := Try.prog) (Γ := G0) (b := lp 7 0) (fun a : RS => hdS n a.i torn (strOfNums a.dur) a.dur a.b a.b a.q a.m l) (fun a => l.length - a.i) (.exit 0) (by simp) (outS n torn) (fun a => a.i ≤ 60 ∧ a.i ≤ l.length ∧ a.dur.length = n.toNat ∧ a.b.length = n.toNat ∧ a.m ≤ a.i) (fun z => z.dur.length = n.toNat ∧ z.vis.length = n.toNat ∧ z.m ≤ 60) (fun a ⟨i1, i2, i3, i4, i5⟩ => by
    obtain ⟨i, dur, b, q, m⟩ := a
    simp only at i1 i2 i3 i4 i5
    have hC := cfgR_ok wy6
    by_cases hlt : i < l.length
    · by_cases h60 : i < 60
      · refine .inl ?_
        have hget : l.getD i wt.dflt = l[i] := by simp [List.getD, hlt]
        have hw := hl l[i] (List.getElem_mem hlt)
        generalize hW : l[i] = w at *
        have hc := cA_true (w := w) (m := m) (l := l) (by omega) h2 i3 i4 (by omega) hlt h60 hw
        have hv := vis_b (w := w) (by omega) i4
        have hbl := bW_len (w := w) (by omega) i4
        have hwi : IntKind.i64.wrap ((i : Int) + 1) = ((i + 1 : Nat) : Int) := by rw [wrap_in (by omega) (by omega)]; rfl
        cases hy : wY w with
        | false =>
          have hr := Tr.run_path _ _ _ (rndS_A n i torn (strOfNums dur) dur b b q m l) (by
            rw [rndS_AC, Int.toNat_natCast, hget, hc, hy]; rfl)
          rw [Int.toNat_natCast, hget, hv, hwi] at hr
          exact ⟨⟨i + 1, dur, bW b n w, qW q m n w, m + 1⟩, SemC.of_evM hC Try.func7 body7 lies7 hr, ⟨by show i + 1 ≤ 60; omega, by show i + 1 ≤ l.length; omega, i3, hbl, by show m + 1 ≤ i + 1; omega⟩, by show l.length - (i + 1) < l.length - i; omega⟩
        | true =>
          have hds : durS dur (bW b n w) n = bW b n w := by
            unfold durS
            rw [part_all hbl]
            exact cpy_all i3 hbl
          have hr := Tr.run_path _ _ _ (rndS_B n i torn (strOfNums dur) dur b b q m l) (by
            rw [rndS_BC, Int.toNat_natCast, hget, hc, cS_true, hy]; rfl)
          rw [Int.toNat_natCast, hget, hv, hds, hwi, part_all hbl] at hr
          exact ⟨⟨i + 1, bW b n w, bW b n w, qS (qW q m n w) (m + 1), 0⟩, SemC.of_evM hC Try.func7 body7 lies7 hr, ⟨by show i + 1 ≤ 60; omega, by show i + 1 ≤ l.length; omega, hbl, hbl, Nat.zero_le _⟩, by show l.length - (i + 1) < l.length - i; omega⟩
      · refine .inr ⟨⟨dur, b, q, m⟩, ⟨i3, i4, by show m ≤ 60; omega⟩, ?_⟩
        have hr := Tr.run_path _ _ _ (rndS_F n i torn (strOfNums dur) dur b b q m l) (by rw [rndS_FC, decide_eq_true (by omega), decide_eq_false (by omega)])
        exact SemC.of_evM hC Try.func7 body7 lies7 hr
    · refine .inr ⟨⟨dur, b, q, m⟩, ⟨i3, i4, by show m ≤ 60; omega⟩, ?_⟩
      have hr := Tr.run_path _ _ _ (rndS_E n i torn (strOfNums dur) dur b b q m l) (by rw [rndS_EC, decide_eq_false (by omega)])
      exact SemC.of_evM hC Try.func7 body7 lies7 hr)
end D
end Go.Proofs.Ytnjjkobijjdnbaa
