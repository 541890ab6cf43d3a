/- Parts of the library of texts, one after the other: K23, K24, K25. -/
import Derived.Test.YtnjjkobijjdnbaaM10k
import Derived.Test.YtnjjkobijjdnbaaK19d
/- Package disk: a crash that the first writes survive, as an effect that is told. -/
set_option linter.unusedVariables false
set_option linter.unusedSimpArgs false
set_option maxRecDepth 100000
set_option maxHeartbeats 4000000
namespace Go.Proofs.Ytnjjkobijjdnbaa
open Go
theorem SemL.post {P : Program} {Γ : Nat → Option V} {c : Code} {x y y' : St} {e : Exit} (h : SemL P Γ c x e y) (i : St.imp Γ y y') : SemL P Γ c x e y' := by
  obtain ⟨m, h⟩ := h
  refine ⟨m, fun ro G a w hr ho => rounds_mono ?_ m a w (h ro G a w hr ho)⟩
  rintro e a' w' ⟨rfl, G1, h1, r1⟩
  exact ⟨rfl, G1, h1, i _ _ _ r1⟩
/-- A contract from a memory of which more is known, to one of which less is. -/
theorem SemF.mem {P : Program} {Γ : Nat → Option V} {f : FuncId} {args args' : List V} {ob ob2 ob1 ob3 : Ob} {nm nm2 nm1 nm3 : Nm} {v : V} (h : SemF P Γ f args ob nm v ob1 nm1)
    (ha : ∀ (G : Gh) (c : List Value), Rels G args' c → Rels G args c) (hp : ∀ (G : Gh) (w : World), WRel Γ G ob2 nm2 w → WRel Γ G ob nm w) (hq : ∀ (G : Gh) (w : World), WRel Γ G ob1 nm1 w → WRel Γ G ob3 nm3 w) : SemF P Γ f args' ob2 nm2 v ob3 nm3 := fun G w cargs hw hr =>
  CallsX.mono (h G w cargs (hp G w hw) (ha G _ hr)) fun e w' ⟨cv, G', h1, h2, h3, h4⟩ => ⟨cv, G', h1, h2, h3, hq _ _ h4⟩
namespace D
theorem ks_range (m : Nat) : ks m = (rangeL m).map fun n => V.i .i64 n := by simp [ks, rangeL]
theorem flat_i (l : List Int) : flat (l.map fun n => V.i .i64 n) = l.map fun n => V.i .i64 n := by
  induction l with
  | nil => rfl
  | cons x xs ih => simp only [flat, List.map_cons, List.flatMap_cons] at ih ⊢; rw [ih]; rfl
theorem flat_si (l : List Int) : flat (l.map fun n => V.si .i64 n) = l.map fun n => V.si .i64 n := by
  induction l with
  | nil => rfl
  | cons x xs ih => simp only [flat, List.map_cons, List.flatMap_cons] at ih ⊢; rw [ih]; rfl
theorem rel_i (G : Gh) (l : List Int) (cvs : List Value) : Rels G (l.map fun n => V.si .i64 n) cvs ↔ Rels G (l.map fun n => V.i .i64 n) cvs := by
  constructor
  · refine fun h => ⟨by rw [h.1]; simp, fun j v cv h1 h2 => ?_⟩
    rw [List.getElem?_map, Option.map_eq_some_iff] at h1
    obtain ⟨z, hz, rfl⟩ := h1
    have := h.2 j (.si .i64 z) cv (by rw [List.getElem?_map, hz]; rfl) h2
    cases this; exact .i _ _
  · refine fun h => ⟨by rw [h.1]; simp, fun j v cv h1 h2 => ?_⟩
    rw [List.getElem?_map, Option.map_eq_some_iff] at h1
    obtain ⟨z, hz, rfl⟩ := h1
    have := h.2 j (.i .i64 z) cv (by rw [List.getElem?_map, hz]; rfl) h2
    cases this; exact .si _ _
theorem ks_arr (m : Nat) : BCw (.cs 1 (ks m)) (.arr (.int .i64) (rangeL m)) := by
  rw [ks_range]
  refine ⟨rfl, (by simp only [BC.len, List.length_map]; try rfl), fun _ v hv => ?_, ?_, fun G cvs h => ?_⟩
  · obtain ⟨z, _, rfl⟩ := List.mem_map.1 (show v ∈ (rangeL m).map fun n => V.si .i64 n from hv); rfl
  · show (flat ((rangeL m).map fun n => V.si .i64 n)).length = (flat ((rangeL m).map fun n => V.i .i64 n)).length
    rw [flat_i, flat_si, List.length_map, List.length_map]
  · show Rels G (flat ((rangeL m).map fun n => V.si .i64 n)) cvs
    have h : Rels G (flat ((rangeL m).map fun n => V.i .i64 n)) cvs := h
    rw [flat_i] at h
    rw [flat_si]; exact (rel_i G _ _).2 h
theorem arr_ks (m : Nat) : BCw (.arr (.int .i64) (rangeL m)) (.cs 1 (ks m)) := by
  rw [ks_range]
  refine ⟨rfl, (by simp only [BC.len, List.length_map]; try rfl), fun _ v hv => ?_, ?_, fun G cvs h => ?_⟩
  · obtain ⟨z, _, rfl⟩ := List.mem_map.1 (show v ∈ (rangeL m).map fun n => V.i .i64 n from hv); rfl
  · show (flat ((rangeL m).map fun n => V.i .i64 n)).length = (flat ((rangeL m).map fun n => V.si .i64 n)).length
    rw [flat_i, flat_si, List.length_map, List.length_map]
  · show Rels G (flat ((rangeL m).map fun n => V.i .i64 n)) cvs
    have h : Rels G (flat ((rangeL m).map fun n => V.si .i64 n)) cvs := h
    rw [flat_si] at h
    rw [flat_i]; exact (rel_i G _ _).1 h
/-- One buffer in other words. -/
theorem WRel.reNm1 {Γ : Nat → Option V} {G : Gh} {ob : Ob} {w : World} {n0 n2 n3 n4 : BC} {c c' : BC} (hc : BCw c c') (h : WRel Γ G ob [some (.live n0), some (.live c), some (.live n2), some (.live n3), some (.live n4)] w) : WRel Γ G ob [some (.live n0), some (.live c'), some (.live n2), some (.live n3), some (.live n4)] w :=
  WRel.weakNm h rfl (fun n d hd => by
    match n, hd with
    | 0, hd => cases hd; exact ⟨_, rfl, BCw.refl _⟩
    | 1, hd => cases hd; exact ⟨_, rfl, hc⟩
    | 2, hd => cases hd; exact ⟨_, rfl, BCw.refl _⟩
    | 3, hd => cases hd; exact ⟨_, rfl, BCw.refl _⟩
    | 4, hd => cases hd; exact ⟨_, rfl, BCw.refl _⟩
    | n + 5, hd => simp at hd) (fun n hd => by
    match n, hd with
    | 0, hd => cases hd
    | 1, hd => cases hd
    | 2, hd => cases hd
    | 3, hd => cases hd
    | 4, hd => cases hd
    | n + 5, hd => simp at hd)
theorem bs_sy {G : Gh} {a b : Bool} {n o l : Nat} {cv : Value} (h : VRel G (.bs a n o l) cv) : VRel G (.bs b n o l) cv := by
  cases h with
  | bs0 => exact .bs0 _ _ _
  | bs1 => exact .bs1 _ _ _ _ _
  | bs h1 h2 => exact .bs h1 h2
theorem crash_ok (m : Nat) (hm : m < 20) (n lf : Int) (dur vis b : List Int) (q : List (Ty.den wp)) (hc : (cC q n 0 m).getD true = true) :
    SemF Try.prog G0 25 [.ptr 0 0, .bs true 1 0 m, .i .i64 (-1)] [some [.b true, .si .i64 lf, .bs true 2 0 n.toNat, .bs true 3 0 n.toNat, .bs true 4 0 m]] [u8 b, il (rangeL m), u8 dur, u8 vis, pq q]
      (.i .i64 0) [some [.b false, .i .i64 0, .bs true 2 0 n.toNat, .bs true 3 0 n.toNat, .bs true 4 0 0]] [u8 b, il (rangeL m), u8 (durC q n 0 m dur), u8 (durS vis (durC q n 0 m dur) n), pq (qS q m)] := by
  have e : crash m n lf dur vis b q = crashE m n lf dur vis b q := crash_all n lf dur vis b q m hm
  have k : SemF Try.prog G0 25 [.ptr 0 0, .bs false 1 0 m, .i .i64 (-1)] [some [.b true, .si .i64 lf, .bs true 2 0 n.toNat, .bs true 3 0 n.toNat, .bs false 4 0 m]] [u8 b, some (.live (.cs 1 (ks m))), u8 dur, u8 vis, pq q]
      (.i .i64 0) [some [.b false, .i .i64 0, .bs true 2 0 n.toNat, .bs true 3 0 n.toNat, .bs false 4 0 0]] [u8 b, some (.live (.cs 1 (ks m))), u8 (durC q n 0 m dur), u8 (durS vis (durC q n 0 m dur) n), pq (qS q m)] :=
    mergeM_ok _ (fun v s hr => evFK_sound (cfM_fit cfgK_ok 30).1 (cfM_fit cfgK_ok 30).2 cfgK_ok.mixed cfgK_ok.lo hr) _ _ _ _ e hc
  refine k.mem (fun G c h => ?_) (fun G w h => ?_) (fun G w h => ?_)
  · exact ⟨by rw [h.1]; rfl, fun j v cv h1 h2 => by
      match j, h1 with
      | 0, h1 => cases h1; exact h.2 0 _ cv rfl h2
      | 1, h1 => cases h1; exact bs_sy (h.2 1 _ cv rfl h2)
      | 2, h1 => cases h1; exact h.2 2 _ cv rfl h2
      | j + 3, h1 => simp at h1⟩
  · have h' := WRel.reNm1 (arr_ks m) h
    exact h'.reOb (o := 0) (cs' := [.b true, .si .i64 lf, .bs true 2 0 n.toNat, .bs true 3 0 n.toNat, .bs false 4 0 m]) rfl rfl fun cvs g => ⟨by rw [g.1]; rfl, fun j v cv h1 h2 => by
      match j, h1 with
      | 0, h1 => cases h1; exact g.2 0 _ cv rfl h2
      | 1, h1 => cases h1; exact g.2 1 _ cv rfl h2
      | 2, h1 => cases h1; exact g.2 2 _ cv rfl h2
      | 3, h1 => cases h1; exact g.2 3 _ cv rfl h2
      | 4, h1 => cases h1; exact bs_sy (g.2 4 _ cv rfl h2)
      | j + 5, h1 => simp at h1⟩
  · have h' := WRel.reNm1 (ks_arr m) h
    exact h'.reOb (o := 0) (cs' := [.b false, .i .i64 0, .bs true 2 0 n.toNat, .bs true 3 0 n.toNat, .bs true 4 0 0]) rfl rfl fun cvs g => ⟨by rw [g.1]; rfl, fun j v cv h1 h2 => by
      match j, h1 with
      | 0, h1 => cases h1; exact g.2 0 _ cv rfl h2
      | 1, h1 => cases h1; exact g.2 1 _ cv rfl h2
      | 2, h1 => cases h1; exact g.2 2 _ cv rfl h2
      | 3, h1 => cases h1; exact g.2 3 _ cv rfl h2
      | 4, h1 => cases h1; exact bs_sy (g.2 4 _ cv rfl h2)
      | j + 5, h1 => simp at h1⟩
/-- What a crash asks for. -/
def cCr (j m n2 n3 : Nat) (al : List Int) (q : List (Ty.den wp)) : Bool := decide (j < 20 ∧ m = j ∧ n3 = n2) && eqL al (rangeL j) && (cC q n2 0 j).getD true
def crB (j n2 : Nat) (b al dur vis : List Int) (q : List (Ty.den wp)) : Ob × Nm :=
  ([some [.b false, .i .i64 0, .bs true 2 0 n2, .bs true 3 0 n2, .bs true 4 0 0]], [u8 b, il al, u8 (durC q n2 0 j dur), u8 (durS vis (durC q n2 0 j dur) n2), pq (qS q j)])
def om25 : CallF := fun f args ob nm =>
  match Nat.beq f 25 with
  | true =>
    match args, ob, nm with
    | [.ptr 0 0, .bs true 1 0 j, .i .i64 z], [some [.b true, .si .i64 lf, .bs true 2 0 n2, .bs true 3 0 n3, .bs true 4 0 m]], [some (.live (.arr (.int .u8) b)), some (.live (.arr (.int .i64) al)), some (.live (.arr (.int .u8) dur)), some (.live (.arr (.int .u8) vis)), some (.live (.arr (.agg [.int .i64, .str]) q))] =>
      match decide (z = -1) with
      | true => some ⟨cCr j m n2 n3 al q, true, .i .i64 0, { blk := some (crB j n2 b al dur vis q) }⟩
      | false => none
    | _, _, _ => none
  | false => none
theorem om25_ok : CallsOk Try.prog G0 om25 := fun f args ob nm out h hchk => by
  unfold om25 at h
  split at h
  · rename_i hf
    obtain rfl := Nat.eq_of_beq_eq_true hf
    split at h
    · rename_i j z lf n2 n3 m b al dur vis q
      split at h
      · rename_i hz
        obtain rfl := of_decide_eq_true hz
        cases h
        have hchk : cCr j m n2 n3 al q = true := hchk
        unfold cCr at hchk
        rw [Bool.and_eq_true, Bool.and_eq_true, decide_eq_true_eq] at hchk
        obtain ⟨⟨⟨h1, rfl, rfl⟩, h3⟩, h2⟩ := hchk
        have h3 : al = rangeL m := eqL_eq h3
        subst h3
        exact ⟨crash_ok m h1 n3 lf dur vis b q h2, .inr ⟨by decide, Try.f25, Try.func25, by kernel_rfl, by kernel_rfl⟩⟩
      · cases h
    · cases h
  · cases h
theorem om25_fit : CallsFit om25 where
  eff := fun f args ob nm out h => by
    unfold om25 at h
    split at h
    · split at h
      · split at h
        · cases h
          refine ⟨(fun p hp => by cases hp), (fun p hp => by cases hp), (fun p hp => ?_)⟩
          cases hp
          refine ⟨fun s hs => ?_, fun s hs => ?_, (fun o ho => absurd ho (Nat.not_lt_zero _)), (fun o ho => absurd ho (Nat.not_lt_zero _))⟩
          · match s, hs with
            | 0, hs => cases hs
            | s + 1, hs => simp at hs
          · match s, hs with
            | 0, hs => cases hs
            | 1, hs => cases hs
            | 2, hs => cases hs
            | 3, hs => cases hs
            | 4, hs => cases hs
            | s + 5, hs => simp at hs
        · cases h
      · cases h
    · cases h
  frame := fun f args ob nm out h ob' nm' hs => by
    have hl : out.eff.lays = true := by
      unfold om25 at h
      split at h
      · split at h
        · split at h
          · cases h; rfl
          · cases h
        · cases h
      · cases h
    obtain ⟨rfl, rfl⟩ := hs.2.2 hl
    exact h
end D
end Go.Proofs.Ytnjjkobijjdnbaa

/- Package disk: the entry of the loop of DiskCut. -/
set_option linter.unusedVariables false
set_option linter.unusedSimpArgs false
set_option maxRecDepth 100000
set_option maxHeartbeats 4000000
namespace Go.Proofs.Ytnjjkobijjdnbaa
open Go
namespace D
def st0 (k : Int) (x : List Int) : CS := ⟨k == 0, k, x, x, x, [], 0, [], 0⟩
def PostC0 (n : Int) (K : Nat) (l : List (Ty.den wt)) (x : List Int) (z : CS) : Prop := PostC n K x z ∧ SemL Try.prog G0 (lp 10 0) (hdC n K 0 (st0 K x) l) (.exit 0) (outC' n K z)
open Classical in
/-- Where the loop ends. -/
noncomputable def zC (n : Int) (K : Nat) (l : List (Ty.den wt)) (x : List Int) : CS := if h : ∃ z, PostC0 n K l x z then Classical.choose h else st0 K x
theorem zC_ok {n : Int} {K : Nat} {l : List (Ty.den wt)} {x : List Int} (h1 : 1 ≤ n) (h2 : n ≤ 300) (hK : K < 20) (hl : ∀ w ∈ l, inr (wO w) = true) (a1 : x.length = n.toNat) : PostC0 n K l x (zC n K l x) := by
  have h : ∃ z, PostC0 n K l x z := by
    obtain ⟨z, h3, h4⟩ := cut_loop n K h1 h2 hK x a1 l hl ⟨0, st0 K x⟩ ⟨Nat.zero_le _, Nat.zero_le _, by show 0 = min 0 K; omega, by
      show ((K : Int) == 0) = decide (K ≤ 0)
      by_cases hk : K ≤ 0
      · rw [decide_eq_true hk]; simp; omega
      · rw [decide_eq_false hk]; simp; omega, ⟨rfl, rfl, a1, Nat.zero_le _, rfl, rfl, rfl, by show (K : Int) = K - (0 : Nat); omega, fun t ht => absurd ht (Nat.not_lt_zero _), rfl⟩⟩
    exact ⟨z, h3, h4⟩
  unfold zC
  rw [dif_pos h]
  exact Classical.choose_spec h
noncomputable def outCb (n : Int) (K : Nat) (off : Bool) (z : CS) : St := St.of 170 [0, 1, 7, 8, 10, 11] [.si .i64 n, .si .i64 (K : Int), .b true, .ptr 0 0, .bs true 0 0 n.toNat, .bs true 1 0 z.j] [some [.b off, .si .i64 z.lf, .bs true 2 0 n.toNat, .bs true 3 0 n.toNat, .bs true 4 0 z.m]] (cnm z) 0 0
theorem outC_b {n : Int} {K : Nat} {z : CS} {off : Bool} (h : z.off = off) : St.imp G0 (outC' n K z) (outCb n K off z) := fun G a w hr =>
  ⟨hr.tm, (show WRel G0 G [cob n z] (cnm z) w from hr.wr).reOb (o := 0) (cs' := [.b off, .si .i64 z.lf, .bs true 2 0 n.toNat, .bs true 3 0 n.toNat, .bs true 4 0 z.m]) rfl rfl fun cvs g => ⟨by rw [g.1]; rfl, fun j v cv h1 h2 => by
    match j, h1 with
    | 0, h1 =>
      cases h1
      have := g.2 0 _ cv rfl h2
      rw [h] at this
      cases this; exact .b _
    | 1, h1 => cases h1; exact g.2 1 _ cv rfl h2
    | 2, h1 => cases h1; exact g.2 2 _ cv rfl h2
    | 3, h1 => cases h1; exact g.2 3 _ cv rfl h2
    | 4, h1 => cases h1; exact g.2 4 _ cv rfl h2
    | j + 5, h1 => simp at h1⟩, hr.df, hr.kh, hr.kt⟩
def svC (n : Int) (K : Nat) (l : List (Ty.den wt)) (s i : V) : List V := [.si .i64 n, .si .i64 (K : Int), .slst .ro wt l, .b true, .ptr 0 0, .bs true 0 0 n.toNat, s, i]
def nbC (n k : Int) (o d v : Nat) (p : V) : Option (List V) := some [.sb (k == 0), .si .i64 k, .bs true d 0 n.toNat, .bs true v 0 n.toNat, p]
/-- The head's state with its lists born. -/
theorem c_head {n : Int} {K : Nat} {l : List (Ty.den wt)} {x : List Int} {e : Exit} {y : St} (h : SemL Try.prog G0 (lp 10 0) (hdC n K 0 (st0 K x) l) e y) :
    SemL Try.prog G0 (lp 10 0) (St.of 170 [0, 1, 2, 7, 8, 10, 11, 12] (svC n K l (.lst .full []) (.i .i64 0)) [nbC n K 0 1 2 (.lst .full [])] [u8 x, u8 x, u8 x] 0 0) e y := by
  have e1 : SemL Try.prog G0 (lp 10 0) (St.of 170 [0, 1, 2, 7, 8, 10, 11, 12] (svC n K l (.bs true 3 0 0) (.si .i64 0)) [nbC n K 0 1 2 (.bs true 4 0 0)] [u8 x, u8 x, u8 x, il [], pq []] 0 0) e y :=
    SemL.preRen (n := 170) (po := [0]) (pn := [0, 3, 1, 2, 4]) (lv := [0, 1, 2, 7, 8, 10, 11, 12]) (by kernel_rfl) (show _ = some (svC n K l (.bs true 1 0 0) (.si .i64 0), [cob n (st0 K x)], cnm (st0 K x)) by kernel_rfl) h
  have e2 : SemL Try.prog G0 (lp 10 0) (St.of 170 [0, 1, 2, 7, 8, 10, 11, 12] (svC n K l (.bs true 3 0 0) (.i .i64 0)) [nbC n K 0 1 2 (.bs true 4 0 0)] [u8 x, u8 x, u8 x, il [], pq []] 0 0) e y := by
    refine e1.pre (St.of_imp rfl ?_)
    intro G j v v' a b cv hv
    match j, a, b with
    | 0, a, b => simp [svC] at a b; subst a; subst b; exact hv
    | 1, a, b => simp [svC] at a b; subst a; subst b; exact hv
    | 2, a, b => simp [svC] at a b; subst a; subst b; exact hv
    | 3, a, b => simp [svC] at a b; subst a; subst b; exact hv
    | 4, a, b => simp [svC] at a b; subst a; subst b; exact hv
    | 5, a, b => simp [svC] at a b; subst a; subst b; exact hv
    | 6, a, b => simp [svC] at a b; subst a; subst b; exact hv
    | 7, a, b => simp [svC] at a b; subst a; subst b; cases hv; exact .si _ _
    | n + 8, a, b => simp [svC] at a
  have e3 := e2.pre (St.birthO (Γ := G0) (kh := 0) (kt := 0) (n := 170) (lv := [0, 1, 2, 7, 8, 10, 11, 12]) (vs := svC n K l (.bs true 3 0 0) (.i .i64 0)) (ob := [nbC n K 0 1 2 (.lst .full [])]) (nm := [u8 x, u8 x, u8 x, il []]) (c := .arr wp []) 0 4 rfl rfl rfl)
  exact e3.pre (St.birth (Γ := G0) (kh := 0) (kt := 0) (n := 170) (lv := [0, 1, 2, 7, 8, 10, 11, 12]) (vs := svC n K l (.lst .full []) (.i .i64 0)) (vs' := svC n K l (.bs true 3 0 0) (.i .i64 0)) (ob := [nbC n K 0 1 2 (.lst .full [])]) (nm := [u8 x, u8 x, u8 x]) 6 rfl rfl (c := .arr (.int .i64) []) rfl rfl rfl)
def preC (n k lf : Int) (off : Bool) (n0 n1 n2 : Nat) (b x v : List Int) (l : List (Ty.den wt)) : Bool :=
  decide (n0 = n.toNat ∧ n1 = n.toNat ∧ n2 = n.toNat ∧ 1 ≤ n ∧ n ≤ 300 ∧ 0 ≤ k ∧ k < 20 ∧ x.length = n.toNat) && (decide (lf = k) && (decide (off = (k == 0)) && (eqL b x && (eqL v x && l.all fun w => inr (wO w)))))
/-- The entry of the law's loop. -/
noncomputable def cE : LEnt := ⟨170, [0, 1, 2, 7, 8, 10, 11, 12], fun kh kt vs ob nm =>
  match vs, ob, nm with
  | [.si .i64 n, .si .i64 k, .slst .ro (.agg [.int .i64, .str, .bool]) l, .b true, .ptr 0 0, .bs true 0 0 n0, .lst .full [], .i .i64 z], [some [.sb off, .si .i64 lf, .bs true 1 0 n1, .bs true 2 0 n2, .lst .full []]], [some (.live (.arr (.int .u8) b)), some (.live (.arr (.int .u8) x)), some (.live (.arr (.int .u8) v))] =>
    match Nat.beq kh 0, Nat.beq kt 0, decide (z = 0) with
    | true, true, true => some (.br (preC n k lf off n0 n1 n2 b x v l) (.br (decide ((zC n k.toNat l x).j < k.toNat)) (.leaf (some (.exit 0, outCb n k.toNat false (zC n k.toNat l x)))) (.leaf (some (.exit 0, outCb n k.toNat true (zC n k.toNat l x))))) (.leaf none))
    | _, _, _ => none
  | _, _, _ => none⟩
theorem cE_ok {kh kt : Nat} {vs : List V} {ob : Ob} {nm : Nm} {t : Tr (Ex × St)} {ex : Ex} {x : St} (h : cE.go kh kt vs ob nm = some t) (ht : t.run = some (ex, x)) : SemL Try.prog G0 (lp 10 0) (St.of cE.n cE.lv vs ob nm kh kt) ex.to x := by
  simp only [cE] at h
  split at h
  · rename_i n k l n0 z off lf n1 n2 b x v
    split at h
    · rename_i e1 e2 e3
      obtain rfl := Nat.eq_of_beq_eq_true e1
      obtain rfl := Nat.eq_of_beq_eq_true e2
      obtain rfl := of_decide_eq_true e3
      cases h
      simp only [Tr.run] at ht
      split at ht
      · rename_i hc
        unfold preC at hc
        rw [Bool.and_eq_true, Bool.and_eq_true, Bool.and_eq_true, Bool.and_eq_true, Bool.and_eq_true, decide_eq_true_eq, decide_eq_true_eq, decide_eq_true_eq] at hc
        obtain ⟨⟨rfl, rfl, rfl, h1, h2, h3, h4, h5⟩, rfl, rfl, h7, h8, h9⟩ := hc
        have h7 : b = x := eqL_eq h7
        have h8 : v = x := eqL_eq h8
        subst h7
        subst h8
        obtain ⟨K, rfl⟩ : ∃ K : Nat, lf = (K : Int) := ⟨lf.toNat, by omega⟩
        simp only [Int.toNat_natCast] at ht
        have hl : ∀ w ∈ (show List (Ty.den wt) from l), inr (wO w) = true := fun w hw => List.all_eq_true.1 h9 w hw
        obtain ⟨g1, g2⟩ := zC_ok (K := K) (l := l) h1 h2 (by omega) hl h5
        split at ht
        · rename_i hj
          cases ht
          exact (c_head g2).post (outC_b (by rw [g1.1]; exact decide_eq_false (by have := of_decide_eq_true hj; omega)))
        · rename_i hj
          cases ht
          exact (c_head g2).post (outC_b (by rw [g1.1]; exact decide_eq_true (by have := of_decide_eq_false hj; omega)))
      · cases ht
    · cases h
  · cases h
noncomputable def lo5 : LOrc := fun f i => match Nat.beq f 10, i with | true, 0 => some cE | _, _ => loG f i
theorem lo5_ok : LOrcOk Try.prog G0 lo5 := fun f i e h => by
  simp only [lo5] at h
  split at h
  · rename_i hf
    obtain rfl := Nat.eq_of_beq_eq_true hf
    cases h
    exact ⟨Try.f10, root 10, lp 10 0, Try.func10, body10, lp10, fun kh kt vs ob nm t ex s h1 h2 => cE_ok h1 h2⟩
  · exact loG_ok _ _ _ h
def wyL : FuncId → List V → Option (List Bool) := fun f args => match Nat.beq f 13, Nat.beq f 24, args with | true, _, _ => some [false, false, true, true] | _, true, [_, .si _ _] => some [false, false] | _, _, _ => none
def wyW : FuncId → List V → Option (List Bool) := fun f _ => match Nat.beq f 21 with | true => some [false, true, true] | _ => none
/-- Write, its arguments taken as not known. -/
noncomputable def om6 : CallF := fun f args ob nm => match Nat.beq f 21 with | true => cfM Try.prog G0 (cfgG wyW) 30 21 (V.syL args) ob nm | false => om25 f args ob nm
theorem om6_ok : CallsOk Try.prog G0 om6 := fun f args ob nm out h hc => by
  unfold om6 at h
  split at h
  · rename_i hf
    obtain rfl := Nat.eq_of_beq_eq_true hf
    obtain ⟨h1, h2⟩ := (cfM_fit (cfgG_ok wyW) 30).1 _ _ _ _ _ h hc
    exact ⟨h1.of_sy, h2⟩
  · exact om25_ok f args ob nm out h hc
theorem om6_fit : CallsFit om6 where
  eff := fun f args ob nm out h => by
    unfold om6 at h
    split at h
    · exact (cfM_fit (cfgG_ok wyW) 30).2.eff _ _ _ _ _ h
    · exact om25_fit.eff f args ob nm out h
  frame := fun f args ob nm out h ob' nm' hs => by
    unfold om6 at h ⊢
    split at h
    · exact (cfM_fit (cfgG_ok wyW) 30).2.frame _ _ _ _ _ h ob' nm' hs
    · exact om25_fit.frame f args ob nm out h ob' nm' hs
noncomputable def cfgC : Cfg := { cfgG wyL with lo := lo5, om := om6, omd := fun f => Nat.beq f 25 || Nat.beq f 21 }
theorem cfgC_ok : CfgOk Try.prog G0 cfgC := { cfgG_ok wyL with lo := lo5_ok, om := om6_ok, fit := om6_fit }
end D
end Go.Proofs.Ytnjjkobijjdnbaa

/- Package disk: DiskCut answers true. -/
set_option linter.unusedVariables false
set_option linter.unusedSimpArgs false
set_option maxRecDepth 100000
set_option maxHeartbeats 4000000
namespace Go.Proofs.Ytnjjkobijjdnbaa
open Go
namespace D
noncomputable def zz10 (N K : Int) (l : List (Ty.den wt)) : CS := zC N K.toNat l (rep N)
def insOk (d : List Int) (N s : Int) : Bool := bif decide (0 ≤ ((part d N).length : Int)) then decide (s ≤ IntKind.i64.wrap (((part d N).length : Int) - 0)) else false
/-- What the way that never comes asks for. -/
def cNo (Z : CS) (N : Int) : Bool :=
  ((!insOk Z.dur N 0) || decide ((0 : Int) ≤ 0 ∧ 0 ≤ Bd.hi none (part Z.vis N).length ∧ Bd.hi none (part Z.vis N).length ≤ ((part Z.vis N).length : Int)) && decide ((0 : Int) ≤ 0 ∧ 0 ≤ Bd.hi (some (IntKind.i64, 0, false)) (List.drop 0 (List.take (Bd.hi none (part Z.vis N).length).toNat (part Z.vis N))).length ∧ Bd.hi (some (IntKind.i64, 0, false)) (List.drop 0 (List.take (Bd.hi none (part Z.vis N).length).toNat (part Z.vis N))).length ≤ ((List.drop 0 (List.take (Bd.hi none (part Z.vis N).length).toNat (part Z.vis N))).length : Int))) &&
    ((bif !insOk Z.dur N 0 then (330 : Int) else 0) != 331 || cSl Z.m)
def dcZ (Z : CS) (N : Int) : List Int := durC Z.q (N.toNat : Int) 0 Z.j Z.dur
def vcZ (Z : CS) (N : Int) : List Int := durS Z.vis (dcZ Z N) (N.toNat : Int)
def eqZ (Z : CS) (N : Int) : Bool := (strOfNums (List.take N.toNat (part (vcZ Z N) N))).toList == (strOfNums (part Z.b N)).toList
def wrZ (Z : CS) (N : Int) : Bool := (!!bif true then bif true then insOk (dcZ Z N) N 1 else false else false) && (some (decide (48 ≤ 281474976710656) && (some (decide ((0 : Int) ≤ 0 ∧ 0 ≤ Bd.hi none N.toNat ∧ Bd.hi none N.toNat ≤ (N.toNat : Int)) && true && true)).getD true)).getD true
def cYes (Z : CS) (N K : Int) : Bool :=
  decide ((Z.j : Int) < (K.toNat : Int)) || (((List.take Z.m (List.drop 0 Z.q)).length : Int) != (K.toNat : Int) || (((part Z.dur N).length : Int) != N || cCr Z.j Z.m N.toNat N.toNat Z.al Z.q && (rdOk (dcZ Z N) (vcZ Z N) N && (false || (!eqZ Z N || wrZ Z N && cSl 1)))))
def ansZ (Z : CS) (N K : Int) : Bool :=
  bif decide (Z.j < K.toNat) then bif decide ((Z.j : Int) < (K.toNat : Int)) then true else false else bif decide ((Z.j : Int) < (K.toNat : Int)) then false else bif ((List.take Z.m (List.drop 0 Z.q)).length : Int) != (K.toNat : Int) then false else bif ((part Z.dur N).length : Int) != N then false else bif true then bif eqZ Z N then true else false else false
def condZ (Z : CS) (N K : Int) : Bool := bif decide (Z.j < K.toNat) then bif decide ((Z.j : Int) < (K.toNat : Int)) then cSl Z.m else cNo Z N else cYes Z N K
def cutOk (K : Int) : Bool := !decide (IntKind.i64.wrap (K + 5) < 0) && true
def cutOk2 (K : Int) : Bool := !(bif IntKind.i64.wrap (K + 5) == 0 then (331 : Int) else 0) != 0 && (some (!decide (K < 0) && true)).getD true
theorem c_run (n k : Int) (l : List (Ty.den wt)) : run cfgC 10 [.si .i64 n, .si .i64 k, .slst .ro wt l] =
  .ok (some (inr n && decide ((100 : Int) ≠ 0) && (inr k && decide ((20 : Int) ≠ 0) && (newOk (sz n 100) && (cutOk (pickD k 20) && (cutOk2 (pickD k 20) && (mkOk (sz n 100) && (preC (sz n 100) (pickD k 20) (pickD k 20) (pickD k 20 == 0) (sz n 100).toNat (sz n 100).toNat (sz n 100).toNat (rep (sz n 100)) (rep (sz n 100)) (rep (sz n 100)) l && condZ (zz10 (sz n 100) (pickD k 20) l) (sz n 100) (pickD k 20)))))))))
    (.sb (ansZ (zz10 (sz n 100) (pickD k 20) l) (sz n 100) (pickD k 20))) := by kernel_rfl
theorem cC_true {q : List (Ty.den wp)} {n : Int} (hn : 0 ≤ n) : ∀ (r i : Nat), i + r ≤ q.length → (∀ t, t < q.length → 0 ≤ pO q t ∧ pO q t ≤ n) → (cC q n i r).getD true = true
  | 0, i, _, _ => rfl
  | r + 1, i, h, hq => by
    obtain ⟨h1, h2⟩ := hq i (by omega)
    simp only [cC, Option.getD_some]
    rw [decide_eq_true (show i < q.length by omega), cC_true hn r (i + 1) (by omega) hq, decide_eq_true ⟨h1, by simp only [Bd.hi]; omega, by simp only [Bd.hi]; omega⟩]
    rfl
theorem insOk_true {d : List Int} {N s : Int} (h1 : 1 ≤ N) (h2 : N ≤ 1000) (hs : s ≤ 1) (hd : d.length = N.toNat) : insOk d N s = true := by
  unfold insOk
  rw [part_all hd, decide_eq_true (by omega), cond_true, wrap_in (by omega) (by omega)]
  exact decide_eq_true (by omega)
theorem wrZ_true {Z : CS} {N : Int} (h1 : 1 ≤ N) (h2 : N ≤ 1000) (hd : (dcZ Z N).length = N.toNat) : wrZ Z N = true := by
  unfold wrZ
  rw [insOk_true h1 h2 (by decide) hd, show decide ((0 : Int) ≤ 0 ∧ 0 ≤ Bd.hi none N.toNat ∧ Bd.hi none N.toNat ≤ (N.toNat : Int)) = true from decide_eq_true ⟨by omega, by simp only [Bd.hi]; omega, by simp only [Bd.hi]; omega⟩]
  rfl
theorem law10 (n k : Int) (l : List (Ty.den wt)) (hn : inr n = true) (hk : inr k = true) (hl : ∀ w ∈ l, inr (wO w) = true) : SemF Try.prog G0 10 [.si .i64 n, .si .i64 k, .slst .ro wt l] [] [] (.sb true) [] [] := by
  obtain ⟨h1, h2⟩ := sz_in (n := n) (m := 100) (by decide) (by decide)
  obtain ⟨k1, k2⟩ := pickD_lt (k := k) (n := 20) (by decide)
  have e4 : (show List (Ty.den wt) from l).all (fun w => inr (wO w)) = true := List.all_eq_true.2 hl
  have run := c_run n k l
  generalize sz n 100 = N at *
  generalize pickD k 20 = K at *
  obtain ⟨z1, z2⟩ := (zC_ok (l := l) (x := rep N) (K := K.toNat) h1 (by omega) (by omega) hl (rep_len _)).1
  have ez : zC N K.toNat l (rep N) = zz10 N K l := rfl
  rw [ez] at z1 z2
  generalize zz10 N K l = Z at *
  have main : condZ Z N K = true ∧ ansZ Z N K = true := by
    unfold condZ ansZ
    by_cases hj : Z.j < K.toNat
    · rw [decide_eq_true hj, decide_eq_true (show (Z.j : Int) < (K.toNat : Int) by omega), cSl_true]
      exact ⟨rfl, rfl⟩
    · have hjk : Z.j = K.toNat := by have := z2.jk; omega
      have hdl : Z.dur.length = N.toNat := by rw [z2.dur]; exact rep_len _
      have hvl : Z.vis.length = N.toNat := by rw [z2.vb]; exact z2.len
      have hN : (N.toNat : Int) = N := by omega
      have hDC : dcZ Z N = Z.vis := by unfold dcZ; rw [hN, z2.dur, ← z2.vd]
      have hVC : vcZ Z N = Z.b := by unfold vcZ; rw [hDC, hN, durS_eq hvl hvl, z2.vb]
      have hq : ((List.take Z.m (List.drop 0 Z.q)).length : Int) = (K.toNat : Int) := by
        rw [List.drop_zero, List.length_take, z2.m, z2.ql]; omega
      have hpd : ((part Z.dur N).length : Int) = N := by rw [part_all hdl]; omega
      have heq : eqZ Z N = true := by
        unfold eqZ
        rw [hVC, part_all z2.len, ← z2.len, List.take_length]
        simp
      have hcr : cCr Z.j Z.m N.toNat N.toNat Z.al Z.q = true := by
        unfold cCr
        rw [decide_eq_true ⟨by omega, z2.m, rfl⟩, z2.al, show eqL (rangeL Z.j) (rangeL Z.j) = true from decide_eq_true rfl, cC_true (by omega) _ _ (by rw [z2.ql]; omega) (fun t ht => by rw [hN]; exact z2.fit t (by rw [← z2.ql]; exact ht))]
        rfl
      rw [decide_eq_false hj, decide_eq_false (show ¬ (Z.j : Int) < (K.toNat : Int) by omega)]
      unfold cYes
      rw [hq, hpd, hcr, heq, hDC, hVC, rdOk_true (by omega) (by omega) hvl z2.len, wrZ_true h1 (by omega) (by rw [hDC]; exact hvl), cSl_true Z.m, cSl_true 1, decide_eq_false (show ¬ (Z.j : Int) < (K.toNat : Int) by omega)]
      simp
  refine of_run cfgC_ok run ?_ ?_
  · have c1 : cutOk K = true := by
      unfold cutOk
      rw [wrap_in (by omega) (by omega), decide_eq_false (by omega)]; rfl
    have c2 : cutOk2 K = true := by
      unfold cutOk2
      rw [wrap_in (by omega) (by omega), show (K + 5 == 0) = false by simp; omega, decide_eq_false (show ¬ K < 0 by omega)]; rfl
    have c3 : preC N K K (K == 0) N.toNat N.toNat N.toNat (rep N) (rep N) (rep N) l = true := by
      unfold preC
      rw [decide_eq_true ⟨rfl, rfl, rfl, h1, by omega, k1, by omega, rep_len _⟩, e4, show eqL (rep N) (rep N) = true from decide_eq_true rfl]
      simp
    rw [hn, hk, newOk_true h1 (by omega), mkOk_true h1 (by omega), c1, c2, c3, main.1]
    rfl
  · rw [main.2]
end D
end Go.Proofs.Ytnjjkobijjdnbaa

