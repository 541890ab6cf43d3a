/- Parts of the library of texts, one after the other: L40, L41, L42, L43, Ev34, L46, L47, L48. -/
import Derived.Test.YthjiodeaepigmaaDoorLsm
import Derived.Test.YthjiodeaepigmaaDoorLsh
/- Package label: labels as a lattice, in plain terms. -/
set_option linter.unusedVariables false
set_option linter.unusedSimpArgs false
set_option maxRecDepth 100000
set_option maxHeartbeats 4000000
namespace Go.Proofs.YthjiodeaepigmaaDoor
open Go
namespace L
theorem valid_of {x : Ty.den labT} (h1 : 0 ≤ aU x ∧ aU x ≤ 50000000) (h2 : 0 ≤ aT x ∧ aT x ≤ 255) (h3 : 0 ≤ aK x ∧ aK x ≤ 255) (h4 : (aL x).length ≤ 4) (h5 : locksD (aL x) = true) (h6 : risingD (aE x) 19 = true) (h7 : countsD (aC x) 1 = true) : vX x = true := by
  unfold vX validE
  rw [inR_of h1.1 h1.2, inR_of h2.1 h2.2, inR_of h3.1 h3.2, h5, h6, h7, decide_eq_false (by omega)]; rfl
theorem locks_iff {l : List (Ty.den lockT)} : locksD l = true ↔ (∀ q ∈ l, risingD (kK q) 19 = true ∧ 1 ≤ kN q ∧ kN q ≤ (kK q).length) ∧ l.Pairwise fun x y => cmpL x y < 0 := by
  constructor
  · intro h
    refine ⟨locks_out h, ?_⟩
    have hb : ∀ j (hj : j + 1 < l.length), cmpL l[j] l[j + 1] < 0 := fun j hj => by
      have := allI_true.1 h (j + 1) hj
      unfold lkB at this
      have e0 : l.getD (j + 1 - 1) lockT.dflt = l[j] := getD_eq (show j < l.length by omega) _
      have e1 : l.getD (j + 1) lockT.dflt = l[j + 1] := getD_eq hj _
      rw [e0, e1] at this
      simp only [Bool.and_eq_true, Bool.or_eq_true, Bool.not_eq_true', decide_eq_true_eq, decide_eq_false_iff_not] at this
      rcases this.2 with k | k
      · omega
      · exact k
    rw [List.pairwise_iff_getElem]
    intro i j hi hj hij
    induction j with
    | zero => omega
    | succ j ih =>
      by_cases e : i = j
      · subst e; exact hb i hj
      · exact ordL.tr (ih (by omega) (by omega)) (hb j hj)
  · rintro ⟨h1, h2⟩
    refine allI_true.2 fun i hi => ?_
    unfold lkB
    have e1 : l.getD i lockT.dflt = l[i] := getD_eq hi _
    obtain ⟨a, b, c⟩ := h1 l[i] (List.getElem_mem hi)
    rw [e1, a, decide_eq_true (show kN l[i] ≥ 1 from b), decide_eq_true c]
    rw [List.pairwise_iff_getElem] at h2
    match i, hi, e1 with
    | 0, _, _ => rfl
    | i + 1, hi, _ =>
      have e0 : l.getD (i + 1 - 1) lockT.dflt = l[i] := getD_eq (show i < l.length by omega) _
      rw [e0, decide_eq_true (h2 i (i + 1) (by omega) hi (by omega)), Bool.or_true]
      rfl
theorem andI_nat {a b : Nat} (ha : a ≤ 255) : andI (a : Int) (b : Int) = ((a &&& b : Nat) : Int) ∧ a &&& b ≤ a := by
  have h0 : a &&& b ≤ a := Nat.and_le_left
  refine ⟨?_, h0⟩
  unfold andI
  have h : (BitVec.ofInt 64 (a : Int) &&& BitVec.ofInt 64 (b : Int)).toNat = a &&& b := by
    rw [BitVec.ofInt_natCast, BitVec.ofInt_natCast, BitVec.toNat_and, BitVec.toNat_ofNat, BitVec.toNat_ofNat, Nat.mod_eq_of_lt (by omega)]
    apply Nat.eq_of_testBit_eq
    intro i
    rw [Nat.testBit_and, Nat.testBit_and, Nat.testBit_mod_two_pow]
    by_cases hi : i < 64
    · simp [hi]
    · have : a.testBit i = false := Nat.testBit_lt_two_pow (by have : 2 ^ 64 ≤ 2 ^ i := Nat.pow_le_pow_right (by decide) (by omega); omega)
      simp [this]
  rw [h]
  exact wrap_in (by omega) (by omega)
theorem noBit_nat {a k : Nat} (ha : a ≤ 255) (hk : k ≤ 7) : noBit (a : Int) (k : Int) = !a.testBit k := by
  have e1 : (a : Int).fdiv (2 ^ min (k : Int).toNat 64) = ((a / 2 ^ k : Nat) : Int) := by
    rw [Int.toNat_natCast, Nat.min_eq_left (by omega), Int.fdiv_eq_ediv_of_nonneg _ (by exact Int.le_of_lt (Int.pow_pos (by decide)))]
    rw [Int.natCast_ediv, Int.natCast_pow]; rfl
  have e2 : a / 2 ^ k ≤ 255 := Nat.le_trans (Nat.div_le_self _ _) ha
  have e3 := (andI_nat (b := 1) e2).1
  unfold noBit
  rw [e1]
  have e4 : IntKind.i64.wrap (((BitVec.ofInt 64 ((a / 2 ^ k : Nat) : Int) &&& BitVec.ofInt 64 (1 : Int)).toNat : Nat) : Int) = andI ((a / 2 ^ k : Nat) : Int) ((1 : Nat) : Int) := rfl
  rw [e4, e3, Nat.and_one_is_mod, Nat.testBit_eq_decide_div_mod_eq]
  have : a / 2 ^ k % 2 < 2 := Nat.mod_lt _ (by decide)
  rcases (show a / 2 ^ k % 2 = 0 ∨ a / 2 ^ k % 2 = 1 by omega) with h | h <;> rw [h] <;> rfl
theorem noBit_and {a b r : Int} (ha : 0 ≤ a ∧ a ≤ 255) (hb : 0 ≤ b ∧ b ≤ 255) (hr : 0 ≤ r ∧ r ≤ 7) : noBit (andI a b) r = (noBit a r || noBit b r) := by
  obtain ⟨a, rfl⟩ := Int.eq_ofNat_of_zero_le ha.1
  obtain ⟨b, rfl⟩ := Int.eq_ofNat_of_zero_le hb.1
  obtain ⟨r, rfl⟩ := Int.eq_ofNat_of_zero_le hr.1
  obtain ⟨e1, e2⟩ := andI_nat (a := a) (b := b) (by omega)
  rw [e1, noBit_nat (by omega) (by omega), noBit_nat (by omega) (by omega), noBit_nat (by omega) (by omega), Nat.testBit_and, Bool.not_and]
theorem maxI_le {a b c : Int} : maxI a b ≤ c ↔ a ≤ c ∧ b ≤ c := by unfold maxI; split <;> omega
theorem pw_sgn {l : List Int} : l.Pairwise (fun x y => sgn x y < 0) ↔ l.Pairwise (· < ·) := by
  have : (fun x y => sgn x y < 0) = fun x y : Int => x < y := by funext x y; exact propext (sgn_cases x y).1
  rw [this]
theorem pw_cmpC {l : List (Ty.den conf)} : l.Pairwise (fun x y => cmpC x y < 0) ↔ l.Pairwise fun x y => cF x < cF y := by
  have : (fun x y => cmpC x y < 0) = fun x y : Ty.den conf => cF x < cF y := by funext x y; exact propext (sgn_cases (cF x) (cF y)).1
  rw [this]
theorem cbC_c {x y : Ty.den conf} : cC x ≤ cC (cbC x y) ∧ cC y ≤ cC (cbC x y) ∧ (cC (cbC x y) = cC x ∨ cC (cbC x y) = cC y) := by
  show cC x ≤ (if cC y > cC x then cC y else cC x) ∧ cC y ≤ (if cC y > cC x then cC y else cC x) ∧ ((if cC y > cC x then cC y else cC x) = cC x ∨ (if cC y > cC x then cC y else cC x) = cC y)
  split <;> omega
theorem join_b {x y : Ty.den labT} (hx : vX x = true) (hy : vX y = true) (h : (unL x y).length ≤ 4) : joinV x y = joinT x y ∧ joinN x y = 0 := by
  have : joinB x y = true := by unfold joinB; rw [hx, hy, decide_eq_true h]; rfl
  unfold joinV joinN
  rw [this]
  exact ⟨rfl, rfl⟩
/-- The join is open exactly if both are. -/
theorem open_join {x y : Ty.den labT} (hx : vX x = true) (hy : vX y = true) (hj : vX (joinT x y) = true) {rt rc now dr : Int} {me : List Int} {mc : List (Ty.den conf)} {mk : List Int} (hr : 0 ≤ rt ∧ rt ≤ 7) (hc : 0 ≤ rc ∧ rc ≤ 7) (hm : validM now dr me mc mk = true) :
    rsn (joinT x y) rt rc now dr me mc mk = 0 ↔ rsn x rt rc now dr me mc mk = 0 ∧ rsn y rt rc now dr me mc mk = 0 := by
  obtain ⟨x1, x2, x3, x4, x5, x6, x7⟩ := valid_all hx
  obtain ⟨y1, y2, y3, y4, y5, y6, y7⟩ := valid_all hy
  have p1 := proper_of hx hm hr hc
  have p2 := proper_of hy hm hr hc
  have p3 := proper_of hj hm hr hc
  rw [rsn_open, rsn_open, rsn_open, p1, p2, p3]
  have eT : noBit (aT (joinT x y)) rt = false ↔ noBit (aT x) rt = false ∧ noBit (aT y) rt = false := by
    rw [show aT (joinT x y) = andI (aT x) (aT y) from rfl, noBit_and x2 y2 hr, Bool.or_eq_false_iff]
  have eK : noBit (aK (joinT x y)) rc = false ↔ noBit (aK x) rc = false ∧ noBit (aK y) rc = false := by
    rw [show aK (joinT x y) = andI (aK x) (aK y) from rfl, noBit_and x3 y3 hc, Bool.or_eq_false_iff]
  have eU : ¬ IntKind.i64.wrap (now - dr) < aU (joinT x y) ↔ ¬ IntKind.i64.wrap (now - dr) < aU x ∧ ¬ IntKind.i64.wrap (now - dr) < aU y := by
    rw [show aU (joinT x y) = maxI (aU x) (aU y) from rfl, Int.not_lt, Int.not_lt, Int.not_lt, maxI_le]
  have eE : (∀ w ∈ aE (joinT x y), w ∈ me) ↔ (∀ w ∈ aE x, w ∈ me) ∧ ∀ w ∈ aE y, w ∈ me :=
    ordI.all (p := fun w => w ∈ me) (fun u v e => by rw [sgn_zero.1 e]; simp [cbI]) _ (aE x) (aE y) (Nat.le_refl _)
  have eC : (∀ w ∈ aC (joinT x y), ∃ z ∈ mc, cF z = cF w ∧ cC w ≤ cC z) ↔ (∀ w ∈ aC x, ∃ z ∈ mc, cF z = cF w ∧ cC w ≤ cC z) ∧ ∀ w ∈ aC y, ∃ z ∈ mc, cF z = cF w ∧ cC w ≤ cC z :=
    ordC.all (p := fun w => ∃ z ∈ mc, cF z = cF w ∧ cC w ≤ cC z) (fun u v e => by
      have e : cF u = cF v := sgn_zero.1 e
      have ef : cF (cbC u v) = cF u := rfl
      have ec := cbC_c (x := u) (y := v)
      constructor
      · rintro ⟨z, hz, z1, z2⟩
        exact ⟨⟨z, hz, by omega, by omega⟩, z, hz, by omega, by omega⟩
      · rintro ⟨⟨z, hz, z1, z2⟩, w, hw, w1, w2⟩
        rcases ec.2.2 with k | k
        · exact ⟨z, hz, by omega, by omega⟩
        · exact ⟨w, hw, by omega, by omega⟩) _ (aC x) (aC y) (Nat.le_refl _)
  have eL : (∀ q ∈ aL (joinT x y), kN q ≤ (((kK q).filter (hasD mk)).length : Int)) ↔ (∀ q ∈ aL x, kN q ≤ (((kK q).filter (hasD mk)).length : Int)) ∧ ∀ q ∈ aL y, kN q ≤ (((kK q).filter (hasD mk)).length : Int) :=
    ordL.all (p := fun q => kN q ≤ (((kK q).filter (hasD mk)).length : Int)) (fun u v e => by rw [cmpL_zero.1 e]; simp [cbL]) _ (aL x) (aL y) (Nat.le_refl _)
  rw [eT, eK, eU, eE, eC, eL]
  constructor
  · rintro ⟨_, ⟨a, a'⟩, ⟨b, b'⟩, ⟨c, c'⟩, ⟨d, d'⟩, ⟨e, e'⟩, f, f'⟩
    exact ⟨⟨rfl, a, b, c, d, e, f⟩, rfl, a', b', c', d', e', f'⟩
  · rintro ⟨⟨_, a, b, c, d, e, f⟩, _, a', b', c', d', e', f'⟩
    exact ⟨rfl, ⟨a, a'⟩, ⟨b, b'⟩, ⟨c, c'⟩, ⟨d, d'⟩, ⟨e, e'⟩, f, f'⟩
theorem hasQ_iff {l : List (Ty.den lockT)} {q : Ty.den lockT} : hasQ l q = true ↔ q ∈ l := by
  unfold hasQ
  rw [decide_eq_true_eq, List.findIdx_lt_length]
  constructor
  · rintro ⟨p, hp, e⟩; rw [← beqL_iff.1 e]; exact hp
  · intro h; exact ⟨q, h, beqL_iff.2 rfl⟩
theorem noL_valid {x : Ty.den labT} (hx : vX x = true) : vX (noL x) = true := by
  obtain ⟨x1, x2, x3, x4, x5, x6, x7⟩ := valid_all hx
  exact valid_of (x := noL x) x1 x2 x3 (Nat.zero_le _) (locks_iff.2 ⟨(fun q hq => nomatch hq), List.Pairwise.nil⟩) x6 x7
theorem noL_un (x y : Ty.den labT) : unL (noL x) y = aL y := un_nil _
theorem below_iff {x y : Ty.den labT} (hx : vX x = true) (hy : vX y = true) : belowB x y = true ↔ joinT x y = y := by
  obtain ⟨x1, x2, x3, x4, x5, x6, x7⟩ := valid_all hx
  obtain ⟨y1, y2, y3, y4, y5, y6, y7⟩ := valid_all hy
  have hl : (unL (noL x) y).length ≤ 4 := by rw [noL_un]; exact y4
  have hL : unL x y = aL y ↔ (aL x).all (hasQ (aL y)) = true := by
    rw [List.all_eq_true]
    constructor
    · intro e q hq
      have := (ordL.all (p := fun q => q ∈ unL x y) (fun u v e => by rw [cmpL_zero.1 e]; simp [cbL]) _ (aL x) (aL y) (Nat.le_refl _)).1 (fun w hw => hw)
      rw [hasQ_iff, ← e]
      exact this.1 q hq
    · intro h
      exact ordL.absorb (fun u v e => cmpL_zero.1 e) _ (aL x) (aL y) (Nat.le_refl _) (locks_iff.1 x5).2 (locks_iff.1 y5).2 fun q hq => hasQ_iff.1 (h q hq)
  unfold belowB
  rw [hx, hy, (join_b (noL_valid hx) hy hl).1, Bool.true_and, Bool.true_and, Bool.and_eq_true]
  unfold sameB
  rw [decide_eq_true_eq, ← hL, lab_ext, lab_ext]
  have e : aL (joinT (noL x) y) = aL y := noL_un x y
  constructor
  · rintro ⟨a, b1, b2, b3, b4, b5, _⟩
    exact ⟨b1, b2, b3, b4, b5, a⟩
  · rintro ⟨b1, b2, b3, b4, b5, a⟩
    exact ⟨a, b1, b2, b3, b4, b5, e⟩
/-- What is below something open is open. -/
theorem open_below {x y : Ty.den labT} (hx : vX x = true) (hy : vX y = true) (hb : belowB x y = true) {rt rc now dr : Int} {me : List Int} {mc : List (Ty.den conf)} {mk : List Int} (hr : 0 ≤ rt ∧ rt ≤ 7) (hc : 0 ≤ rc ∧ rc ≤ 7) (hm : validM now dr me mc mk = true) (h : rsn y rt rc now dr me mc mk = 0) : rsn x rt rc now dr me mc mk = 0 := by
  have e := (below_iff hx hy).1 hb
  exact ((open_join hx hy (by rw [e]; exact hy) hr hc hm).1 (by rw [e]; exact h)).1
end L
end Go.Proofs.YthjiodeaepigmaaDoor





/- Slots that say less: a known truth value, or number, as any one. -/
set_option linter.unusedVariables false
namespace Go.Proofs.YthjiodeaepigmaaDoor
open Go
inductive VLe : V → V → Prop
  | rfl (v : V) : VLe v v
  | b (x : Bool) : VLe (.b x) (.sb x)
  | i (k : IntKind) (n : Int) : VLe (.i k n) (.si k n)
inductive VLes : List V → List V → Prop
  | nil : VLes [] []
  | cons {v v' : V} {l l' : List V} (h : VLe v v') (t : VLes l l') : VLes (v :: l) (v' :: l')
theorem VLe.rel {G : Gh} {v v' : V} {cv : Value} (h : VLe v v') (r : VRel G v cv) : VRel G v' cv := by
  cases h with
  | rfl => exact r
  | b x => cases r; exact .sb _
  | i k n => cases r; exact .si _ _
theorem VLes.len {l l' : List V} (h : VLes l l') : l.length = l'.length := by
  induction h with
  | nil => rfl
  | cons _ _ ih => simp only [List.length_cons, ih]
theorem VLes.get {l l' : List V} (h : VLes l l') : ∀ {j : Nat} {v v' : V}, l[j]? = some v → l'[j]? = some v' → VLe v v' := by
  induction h with
  | nil => intro j v v' h1; simp at h1
  | cons h t ih =>
    intro j v v' h1 h2
    match j with
    | 0 =>
      simp only [List.getElem?_cons_zero, Option.some.injEq] at h1 h2
      subst h1; subst h2
      exact h
    | j + 1 => exact ih (by simpa using h1) (by simpa using h2)
theorem VLes.imp {Γ : Nat → Option V} {n : Nat} {lv : List Nat} {vs vs' : List V} {ob : Ob} {nm : Nm} {kh kt : Nat} (h : VLes vs vs') : St.imp Γ (St.of n lv vs ob nm kh kt) (St.of n lv vs' ob nm kh kt) :=
  St.of_imps h.len fun _ _ _ _ h1 h2 _ hr => (h.get h1 h2).rel hr
theorem SemC.les {P : Program} {Γ : Nat → Option V} {c : Code} {x : St} {e : Exit} {n : Nat} {lv : List Nat} {vs vs' : List V} {ob : Ob} {nm : Nm} {kh kt : Nat} (h : SemC P Γ c x e (St.of n lv vs ob nm kh kt)) (l : VLes vs vs') : SemC P Γ c x e (St.of n lv vs' ob nm kh kt) := h.post l.imp
end Go.Proofs.YthjiodeaepigmaaDoor


/- Package label: LabelSeparates' loops, printed. -/
set_option linter.unusedVariables false
set_option linter.unusedSimpArgs false
set_option maxRecDepth 100000
set_option maxHeartbeats 4000000
namespace Go.Proofs.YthjiodeaepigmaaDoor
open Go
namespace L
def hp_sp0 : HP := { n := 79, lv := [5, 6, 7, 8], sp := [.ptr 0 0, .ptr 1 0, .ptr 2 0, .ty ity], op := [.cells [.ty ity, .ty (.slice ity), .ty (.slice conf), .ty ity, .ty ity, .ty (.slice lockT)], .cells [.ty ity, .ty (.slice ity), .ty (.slice conf), .ty ity, .ty ity, .ty (.slice lockT)], .cells [.ty ity, .ty ity, .ty (.slice ity), .ty (.slice conf), .bz 0]], bp := [.arr ity], bo := [(2, 4, ity)] }
def lve_sp0 : Ex → List Nat
  | .normal => [5, 6, 7, 8]
  | .exit 0 => [5, 6, 7]
  | _ => []
theorem bd_sp0 : Tryd.f7.body = some (root 7) := by kernel_rfl
theorem le_sp0 : (loops (root 7))[0]? = some (lp 7 0) := by kernel_rfl
theorem li_sp0 : Lies (root 7) 1 (lp 7 0) := Lies.of_take (n := 0) (by kernel_rfl)
def st_sp0 (i : Int) (au : Int) (ae : List Int) (ac : List (Ty.den conf)) (at' ak : Int) (al : List (Ty.den lockT)) (bu : Int) (be : List Int) (bc : List (Ty.den conf)) (bt bk : Int) (bl : List (Ty.den lockT)) (now dr : Int) (me : List Int) (mc : List (Ty.den conf)) (j : Nat) (ks : List Int) : St := hp_sp0.st ⟨((), (), (), i, ()), ((au, ae, ac, at', ak, al, ()), (bu, be, bc, bt, bk, bl, ()), (now, dr, me, mc, j, ()), ()), (ks, ())⟩
noncomputable def rn_sp0 (i : Int) (au : Int) (ae : List Int) (ac : List (Ty.den conf)) (at' ak : Int) (al : List (Ty.den lockT)) (bu : Int) (be : List Int) (bc : List (Ty.den conf)) (bt bk : Int) (bl : List (Ty.den lockT)) (now dr : Int) (me : List Int) (mc : List (Ty.den conf)) (j : Nat) (ks : List Int) := outa lve_sp0 (evCK Tryd.prog Γ (cfM Tryd.prog Γ cfg38 30) (cfg38.lo 7) [] 60 1 (lp 7 0) (st_sp0 i au ae ac at' ak al bu be bc bt bk bl now dr me mc j ks))
theorem rn_sp0_eq (i : Int) (au : Int) (ae : List Int) (ac : List (Ty.den conf)) (at' ak : Int) (al : List (Ty.den lockT)) (bu : Int) (be : List Int) (bc : List (Ty.den conf)) (bt bk : Int) (bl : List (Ty.den lockT)) (now dr : Int) (me : List Int) (mc : List (Ty.den conf)) (j : Nat) (ks : List Int) : (rn_sp0 i au ae ac at' ak al bu be bc bt bk bl now dr me mc j ks).run = (bif decide (i < (20 : Int)) then (bif decide ((j + 1) * 2 * 8 ≤ 281474976710656) then (some ((Ex.normal, [V.ptr (0 : Nat) (0 : Nat), V.ptr (1 : Nat) (0 : Nat), V.ptr (2 : Nat) (0 : Nat), V.si IntKind.i64 (IntKind.i64.wrap (i + (1 : Int)))], [some [V.si IntKind.i64 au, V.slst Tag.ro ity ae, V.slst Tag.ro conf ac, V.si IntKind.i64 at', V.si IntKind.i64 ak, V.slst Tag.ro lockT al], some [V.si IntKind.i64 bu, V.slst Tag.ro ity be, V.slst Tag.ro conf bc, V.si IntKind.i64 bt, V.si IntKind.i64 bk, V.slst Tag.ro lockT bl], some [V.si IntKind.i64 now, V.si IntKind.i64 dr, V.slst Tag.ro ity me, V.slst Tag.ro conf mc, V.bs true (0 : Nat) (0 : Nat) (j + (1 : Nat))]], [some (Bf.live (BC.arr ity (List.take j (List.drop (0) ks) ++ [i])))], (79 : Nat), (0 : Nat), (0 : Nat)))) else none) else (some ((Ex.exit (0 : Nat), [V.ptr (0 : Nat) (0 : Nat), V.ptr (1 : Nat) (0 : Nat), V.ptr (2 : Nat) (0 : Nat)], [some [V.si IntKind.i64 au, V.slst Tag.ro ity ae, V.slst Tag.ro conf ac, V.si IntKind.i64 at', V.si IntKind.i64 ak, V.slst Tag.ro lockT al], some [V.si IntKind.i64 bu, V.slst Tag.ro ity be, V.slst Tag.ro conf bc, V.si IntKind.i64 bt, V.si IntKind.i64 bk, V.slst Tag.ro lockT bl], some [V.si IntKind.i64 now, V.si IntKind.i64 dr, V.slst Tag.ro ity me, V.slst Tag.ro conf mc, V.bs true (0 : Nat) (0 : Nat) j]], [some (Bf.live (BC.arr ity ks))], (79 : Nat), (0 : Nat), (0 : Nat))))) := by kernel_rfl
theorem rn_sp0_c (i : Int) (au : Int) (ae : List Int) (ac : List (Ty.den conf)) (at' ak : Int) (al : List (Ty.den lockT)) (bu : Int) (be : List Int) (bc : List (Ty.den conf)) (bt bk : Int) (bl : List (Ty.den lockT)) (now dr : Int) (me : List Int) (mc : List (Ty.den conf)) (j : Nat) (ks : List Int) {e : Ex} {vs : List V} {ob : Ob} {nm : Nm} {n' kh kt : Nat} (h : (rn_sp0 i au ae ac at' ak al bu be bc bt bk bl now dr me mc j ks).run = some (e, vs, ob, nm, n', kh, kt)) : SemC Tryd.prog Γ (lp 7 0) (st_sp0 i au ae ac at' ak al bu be bc bt bk bl now dr me mc j ks) e.to (St.of n' (lve_sp0 e) vs ob nm kh kt) := SemC.of_evM cfg38_ok Tryd.func7 bd_sp0 li_sp0 h
def hp_sp2 : HP := { n := 79, lv := [5, 6, 7, 9, 10, 11, 12], sp := [.ptr 0 0, .ptr 1 0, .ptr 2 0, .ty .bool, .ty .bool, .ty ity, .ty ity], op := [.cells [.ty ity, .ty (.slice ity), .ty (.slice conf), .ty ity, .ty ity, .ty (.slice lockT)], .cells [.ty ity, .ty (.slice ity), .ty (.slice conf), .ty ity, .ty ity, .ty (.slice lockT)], .cells [.ty ity, .ty ity, .ty (.slice ity), .ty (.slice conf), .bz 0]], bp := [.arr ity] }
def lve_sp2 : Ex → List Nat
  | .normal => [5, 6, 7, 9, 10, 11, 12]
  | .exit 4 => [5, 6, 7, 9, 10, 11]
  | _ => []
theorem bd_sp2 : Tryd.f7.body = some (root 7) := by kernel_rfl
theorem le_sp2 : (loops (root 7))[2]? = some (lp 7 2) := by kernel_rfl
theorem li_sp2 : Lies (root 7) 3 (lp 7 2) := Lies.of_take (n := 0) (by kernel_rfl)
def st_sp2 (p q : Bool) (t c : Int) (au : Int) (ae : List Int) (ac : List (Ty.den conf)) (at' ak : Int) (al : List (Ty.den lockT)) (bu : Int) (be : List Int) (bc : List (Ty.den conf)) (bt bk : Int) (bl : List (Ty.den lockT)) (now dr : Int) (me : List Int) (mc : List (Ty.den conf)) (j : Nat) (ks : List Int) : St := hp_sp2.st ⟨((), (), (), p, q, t, c, ()), ((au, ae, ac, at', ak, al, ()), (bu, be, bc, bt, bk, bl, ()), (now, dr, me, mc, j, ()), ()), (ks, ())⟩
noncomputable def rn_sp2 (p q : Bool) (t c : Int) (au : Int) (ae : List Int) (ac : List (Ty.den conf)) (at' ak : Int) (al : List (Ty.den lockT)) (bu : Int) (be : List Int) (bc : List (Ty.den conf)) (bt bk : Int) (bl : List (Ty.den lockT)) (now dr : Int) (me : List Int) (mc : List (Ty.den conf)) (j : Nat) (ks : List Int) := outa lve_sp2 (evCK Tryd.prog Γ (cfM Tryd.prog Γ cfg38 30) (cfg38.lo 7) [] 60 3 (lp 7 2) (st_sp2 p q t c au ae ac at' ak al bu be bc bt bk bl now dr me mc j ks))
theorem rn_sp2_eq (p q : Bool) (t c : Int) (au : Int) (ae : List Int) (ac : List (Ty.den conf)) (at' ak : Int) (al : List (Ty.den lockT)) (bu : Int) (be : List Int) (bc : List (Ty.den conf)) (bt bk : Int) (bl : List (Ty.den lockT)) (now dr : Int) (me : List Int) (mc : List (Ty.den conf)) (j : Nat) (ks : List Int) : (rn_sp2 p q t c au ae ac at' ak al bu be bc bt bk bl now dr me mc j ks).run = (bif decide (c < (8 : Int)) then (bif p then (bif q then (some ((Ex.normal, [V.ptr (0 : Nat) (0 : Nat), V.ptr (1 : Nat) (0 : Nat), V.ptr (2 : Nat) (0 : Nat), V.b true, V.b true, V.si IntKind.i64 t, V.si IntKind.i64 (IntKind.i64.wrap (c + (1 : Int)))], [some [V.si IntKind.i64 au, V.slst Tag.ro ity ae, V.slst Tag.ro conf ac, V.si IntKind.i64 at', V.si IntKind.i64 ak, V.slst Tag.ro lockT al], some [V.si IntKind.i64 bu, V.slst Tag.ro ity be, V.slst Tag.ro conf bc, V.si IntKind.i64 bt, V.si IntKind.i64 bk, V.slst Tag.ro lockT bl], some [V.si IntKind.i64 now, V.si IntKind.i64 dr, V.slst Tag.ro ity me, V.slst Tag.ro conf mc, V.bs true (0 : Nat) (0 : Nat) j]], [some (Bf.live (BC.arr ity ks))], (79 : Nat), (0 : Nat), (0 : Nat)))) else (bif decide (szE be bc bl ∧ szM me mc (List.take j (List.drop (0) ks))) then (bif reasonE bu be bc bt bk bl t c now dr me mc (List.take j (List.drop (0) ks)) == (0 : Int) then (bif decide (szE ae ac al ∧ szM me mc (List.take j (List.drop (0) ks))) then (some ((Ex.normal, [V.ptr (0 : Nat) (0 : Nat), V.ptr (1 : Nat) (0 : Nat), V.ptr (2 : Nat) (0 : Nat), V.b true, V.sb !reasonE au (ae, ac, at', ak, al, ()).fst (ac, at', ak, al, ()).fst at' ak al t c now dr me mc (List.take j (List.drop (0) ks)) == (0 : Int), V.si IntKind.i64 t, V.si IntKind.i64 (IntKind.i64.wrap (c + (1 : Int)))], [some [V.si IntKind.i64 au, V.slst Tag.ro ity ae, V.slst Tag.ro conf ac, V.si IntKind.i64 at', V.si IntKind.i64 ak, V.slst Tag.ro lockT al], some [V.si IntKind.i64 bu, V.slst Tag.ro ity be, V.slst Tag.ro conf bc, V.si IntKind.i64 bt, V.si IntKind.i64 bk, V.slst Tag.ro lockT bl], some [V.si IntKind.i64 now, V.si IntKind.i64 dr, V.slst Tag.ro ity me, V.slst Tag.ro conf mc, V.bs true (0 : Nat) (0 : Nat) j]], [some (Bf.live (BC.arr ity ks))], (79 : Nat), (0 : Nat), (0 : Nat)))) else none) else (some ((Ex.normal, [V.ptr (0 : Nat) (0 : Nat), V.ptr (1 : Nat) (0 : Nat), V.ptr (2 : Nat) (0 : Nat), V.b true, V.b false, V.si IntKind.i64 t, V.si IntKind.i64 (IntKind.i64.wrap (c + (1 : Int)))], [some [V.si IntKind.i64 au, V.slst Tag.ro ity ae, V.slst Tag.ro conf ac, V.si IntKind.i64 at', V.si IntKind.i64 ak, V.slst Tag.ro lockT al], some [V.si IntKind.i64 bu, V.slst Tag.ro ity be, V.slst Tag.ro conf bc, V.si IntKind.i64 bt, V.si IntKind.i64 bk, V.slst Tag.ro lockT bl], some [V.si IntKind.i64 now, V.si IntKind.i64 dr, V.slst Tag.ro ity me, V.slst Tag.ro conf mc, V.bs true (0 : Nat) (0 : Nat) j]], [some (Bf.live (BC.arr ity ks))], (79 : Nat), (0 : Nat), (0 : Nat))))) else none)) else (bif decide (szE be bc bl ∧ szM me mc (List.take j (List.drop (0) ks))) then (bif q then (some ((Ex.normal, [V.ptr (0 : Nat) (0 : Nat), V.ptr (1 : Nat) (0 : Nat), V.ptr (2 : Nat) (0 : Nat), V.sb (reasonE bu be bc bt bk bl t c now dr me mc (List.take j (List.drop (0) ks)) == (0 : Int)), V.b true, V.si IntKind.i64 t, V.si IntKind.i64 (IntKind.i64.wrap (c + (1 : Int)))], [some [V.si IntKind.i64 au, V.slst Tag.ro ity ae, V.slst Tag.ro conf ac, V.si IntKind.i64 at', V.si IntKind.i64 ak, V.slst Tag.ro lockT al], some [V.si IntKind.i64 bu, V.slst Tag.ro ity be, V.slst Tag.ro conf bc, V.si IntKind.i64 bt, V.si IntKind.i64 bk, V.slst Tag.ro lockT bl], some [V.si IntKind.i64 now, V.si IntKind.i64 dr, V.slst Tag.ro ity me, V.slst Tag.ro conf mc, V.bs true (0 : Nat) (0 : Nat) j]], [some (Bf.live (BC.arr ity ks))], (79 : Nat), (0 : Nat), (0 : Nat)))) else (bif decide (szE be bc bl ∧ szM me mc (List.take j (List.drop (0) ks))) then (bif reasonE bu be bc bt bk bl t c now dr me mc (List.take j (List.drop (0) ks)) == (0 : Int) then (bif decide (szE ae ac al ∧ szM me mc (List.take j (List.drop (0) ks))) then (some ((Ex.normal, [V.ptr (0 : Nat) (0 : Nat), V.ptr (1 : Nat) (0 : Nat), V.ptr (2 : Nat) (0 : Nat), V.sb (reasonE bu be bc bt bk bl t c now dr me mc (List.take j (List.drop (0) ks)) == (0 : Int)), V.sb !reasonE au (ae, ac, at', ak, al, ()).fst (ac, at', ak, al, ()).fst at' ak al t c now dr me mc (List.take j (List.drop (0) ks)) == (0 : Int), V.si IntKind.i64 t, V.si IntKind.i64 (IntKind.i64.wrap (c + (1 : Int)))], [some [V.si IntKind.i64 au, V.slst Tag.ro ity ae, V.slst Tag.ro conf ac, V.si IntKind.i64 at', V.si IntKind.i64 ak, V.slst Tag.ro lockT al], some [V.si IntKind.i64 bu, V.slst Tag.ro ity be, V.slst Tag.ro conf bc, V.si IntKind.i64 bt, V.si IntKind.i64 bk, V.slst Tag.ro lockT bl], some [V.si IntKind.i64 now, V.si IntKind.i64 dr, V.slst Tag.ro ity me, V.slst Tag.ro conf mc, V.bs true (0 : Nat) (0 : Nat) j]], [some (Bf.live (BC.arr ity ks))], (79 : Nat), (0 : Nat), (0 : Nat)))) else none) else (some ((Ex.normal, [V.ptr (0 : Nat) (0 : Nat), V.ptr (1 : Nat) (0 : Nat), V.ptr (2 : Nat) (0 : Nat), V.sb (reasonE bu be bc bt bk bl t c now dr me mc (List.take j (List.drop (0) ks)) == (0 : Int)), V.b false, V.si IntKind.i64 t, V.si IntKind.i64 (IntKind.i64.wrap (c + (1 : Int)))], [some [V.si IntKind.i64 au, V.slst Tag.ro ity ae, V.slst Tag.ro conf ac, V.si IntKind.i64 at', V.si IntKind.i64 ak, V.slst Tag.ro lockT al], some [V.si IntKind.i64 bu, V.slst Tag.ro ity be, V.slst Tag.ro conf bc, V.si IntKind.i64 bt, V.si IntKind.i64 bk, V.slst Tag.ro lockT bl], some [V.si IntKind.i64 now, V.si IntKind.i64 dr, V.slst Tag.ro ity me, V.slst Tag.ro conf mc, V.bs true (0 : Nat) (0 : Nat) j]], [some (Bf.live (BC.arr ity ks))], (79 : Nat), (0 : Nat), (0 : Nat))))) else none)) else none)) else (some ((Ex.exit (4 : Nat), [V.ptr (0 : Nat) (0 : Nat), V.ptr (1 : Nat) (0 : Nat), V.ptr (2 : Nat) (0 : Nat), V.sb p, V.sb q, V.si IntKind.i64 t], [some [V.si IntKind.i64 au, V.slst Tag.ro ity ae, V.slst Tag.ro conf ac, V.si IntKind.i64 at', V.si IntKind.i64 ak, V.slst Tag.ro lockT al], some [V.si IntKind.i64 bu, V.slst Tag.ro ity be, V.slst Tag.ro conf bc, V.si IntKind.i64 bt, V.si IntKind.i64 bk, V.slst Tag.ro lockT bl], some [V.si IntKind.i64 now, V.si IntKind.i64 dr, V.slst Tag.ro ity me, V.slst Tag.ro conf mc, V.bs true (0 : Nat) (0 : Nat) j]], [some (Bf.live (BC.arr ity ks))], (79 : Nat), (0 : Nat), (0 : Nat))))) := by kernel_rfl
theorem rn_sp2_c (p q : Bool) (t c : Int) (au : Int) (ae : List Int) (ac : List (Ty.den conf)) (at' ak : Int) (al : List (Ty.den lockT)) (bu : Int) (be : List Int) (bc : List (Ty.den conf)) (bt bk : Int) (bl : List (Ty.den lockT)) (now dr : Int) (me : List Int) (mc : List (Ty.den conf)) (j : Nat) (ks : List Int) {e : Ex} {vs : List V} {ob : Ob} {nm : Nm} {n' kh kt : Nat} (h : (rn_sp2 p q t c au ae ac at' ak al bu be bc bt bk bl now dr me mc j ks).run = some (e, vs, ob, nm, n', kh, kt)) : SemC Tryd.prog Γ (lp 7 2) (st_sp2 p q t c au ae ac at' ak al bu be bc bt bk bl now dr me mc j ks) e.to (St.of n' (lve_sp2 e) vs ob nm kh kt) := SemC.of_evM cfg38_ok Tryd.func7 bd_sp2 li_sp2 h
def keysN (n : Nat) : List Int := (List.range n).map fun i : Nat => (i : Int)
theorem keysN_succ (n : Nat) : keysN (n + 1) = keysN n ++ [(n : Int)] := by unfold keysN; rw [List.range_succ, List.map_append]; rfl
theorem keysN_len (n : Nat) : (keysN n).length = n := by unfold keysN; rw [List.length_map, List.length_range]
def anyI (n : Nat) (f : Nat → Bool) : Bool := (List.range n).any f
theorem anyI_succ (n : Nat) (f : Nat → Bool) : anyI (n + 1) f = (anyI n f || f n) := by unfold anyI; rw [List.range_succ, List.any_append]; simp
def opn (u : Int) (ev : List Int) (co : List (Ty.den conf)) (t c : Int) (l : List (Ty.den lockT)) (rt rc now dr : Int) (me : List Int) (mc : List (Ty.den conf)) (mk : List Int) : Bool := reasonE u ev co t c l rt rc now dr me mc mk == (0 : Int)
abbrev pre_sp0 (i : Int) (au : Int) (ae : List Int) (ac : List (Ty.den conf)) (at' ak : Int) (al : List (Ty.den lockT)) (bu : Int) (be : List Int) (bc : List (Ty.den conf)) (bt bk : Int) (bl : List (Ty.den lockT)) (now dr : Int) (me : List Int) (mc : List (Ty.den conf)) (j : Nat) (ks : List Int) : Prop := i = 0 ∧ j = 0 ∧ ks = []
def rs_sp0 (i : Int) (au : Int) (ae : List Int) (ac : List (Ty.den conf)) (at' ak : Int) (al : List (Ty.den lockT)) (bu : Int) (be : List Int) (bc : List (Ty.den conf)) (bt bk : Int) (bl : List (Ty.den lockT)) (now dr : Int) (me : List Int) (mc : List (Ty.den conf)) (j : Nat) (ks : List Int) : Ex × St := (.exit 0, St.of 79 (lve_sp0 (.exit 0)) [.ptr 0 0, .ptr 1 0, .ptr 2 0] [some [.si .i64 au, .slst .ro ity ae, .slst .ro conf ac, .si .i64 at', .si .i64 ak, .slst .ro lockT al], some [.si .i64 bu, .slst .ro ity be, .slst .ro conf bc, .si .i64 bt, .si .i64 bk, .slst .ro lockT bl], some [.si .i64 now, .si .i64 dr, .slst .ro ity me, .slst .ro conf mc, .bs true 0 0 20]] [some (.live (.arr ity (keysN 20)))] hp_sp0.kh hp_sp0.kt)
def res_sp0 (i : Int) (au : Int) (ae : List Int) (ac : List (Ty.den conf)) (at' ak : Int) (al : List (Ty.den lockT)) (bu : Int) (be : List Int) (bc : List (Ty.den conf)) (bt bk : Int) (bl : List (Ty.den lockT)) (now dr : Int) (me : List Int) (mc : List (Ty.den conf)) (j : Nat) (ks : List Int) : Tr (Ex × St) := .br (decide (pre_sp0 i au ae ac at' ak al bu be bc bt bk bl now dr me mc j ks)) (.leaf (some (.exit 0, St.of 79 (lve_sp0 (.exit 0)) [.ptr 0 0, .ptr 1 0, .ptr 2 0] [some [.si .i64 au, .slst .ro ity ae, .slst .ro conf ac, .si .i64 at', .si .i64 ak, .slst .ro lockT al], some [.si .i64 bu, .slst .ro ity be, .slst .ro conf bc, .si .i64 bt, .si .i64 bk, .slst .ro lockT bl], some [.si .i64 now, .si .i64 dr, .slst .ro ity me, .slst .ro conf mc, .bs true 0 0 20]] [some (.live (.arr ity (keysN 20)))] hp_sp0.kh hp_sp0.kt))) (.leaf none)
theorem res_sp0_run (i : Int) (au : Int) (ae : List Int) (ac : List (Ty.den conf)) (at' ak : Int) (al : List (Ty.den lockT)) (bu : Int) (be : List Int) (bc : List (Ty.den conf)) (bt bk : Int) (bl : List (Ty.den lockT)) (now dr : Int) (me : List Int) (mc : List (Ty.den conf)) (j : Nat) (ks : List Int) (h : pre_sp0 i au ae ac at' ak al bu be bc bt bk bl now dr me mc j ks) : (res_sp0 i au ae ac at' ak al bu be bc bt bk bl now dr me mc j ks).run = some (rs_sp0 i au ae ac at' ak al bu be bc bt bk bl now dr me mc j ks) := by
  unfold res_sp0 rs_sp0
  rw [decide_eq_true h]
  exact rfl
theorem res_sp0_no (i : Int) (au : Int) (ae : List Int) (ac : List (Ty.den conf)) (at' ak : Int) (al : List (Ty.den lockT)) (bu : Int) (be : List Int) (bc : List (Ty.den conf)) (bt bk : Int) (bl : List (Ty.den lockT)) (now dr : Int) (me : List Int) (mc : List (Ty.den conf)) (j : Nat) (ks : List Int) (h : ¬ pre_sp0 i au ae ac at' ak al bu be bc bt bk bl now dr me mc j ks) : (res_sp0 i au ae ac at' ak al bu be bc bt bk bl now dr me mc j ks).run = none := Tr.run_no h
def ent_sp0 : LEnt := LEnt.by hp_sp0 fun ⟨(_, _, _, i, _), ((au, ae, ac, at', ak, al, _), (bu, be, bc, bt, bk, bl, _), (now, dr, me, mc, j, _), _), (ks, _)⟩ => res_sp0 i au ae ac at' ak al bu be bc bt bk bl now dr me mc j ks
theorem ent_sp0_ok (hgo : ∀ (i : Int) (au : Int) (ae : List Int) (ac : List (Ty.den conf)) (at' ak : Int) (al : List (Ty.den lockT)) (bu : Int) (be : List Int) (bc : List (Ty.den conf)) (bt bk : Int) (bl : List (Ty.den lockT)) (now dr : Int) (me : List Int) (mc : List (Ty.den conf)) (j : Nat) (ks : List Int), pre_sp0 i au ae ac at' ak al bu be bc bt bk bl now dr me mc j ks → SemL Tryd.prog Γ (lp 7 0) (st_sp0 i au ae ac at' ak al bu be bc bt bk bl now dr me mc j ks) (rs_sp0 i au ae ac at' ak al bu be bc bt bk bl now dr me mc j ks).1.to (rs_sp0 i au ae ac at' ak al bu be bc bt bk bl now dr me mc j ks).2) : EntOk Tryd.prog Γ (lp 7 0) ent_sp0 := LEnt.by_ok fun ⟨(_, _, _, i, _), ((au, ae, ac, at', ak, al, _), (bu, be, bc, bt, bk, bl, _), (now, dr, me, mc, j, _), _), (ks, _)⟩ ex_ s_ h_ => by
  have h_ : (res_sp0 i au ae ac at' ak al bu be bc bt bk bl now dr me mc j ks).run = some (ex_, s_) := h_
  by_cases hp_ : pre_sp0 i au ae ac at' ak al bu be bc bt bk bl now dr me mc j ks
  · rw [res_sp0_run i au ae ac at' ak al bu be bc bt bk bl now dr me mc j ks hp_] at h_
    obtain ⟨rfl, rfl⟩ := Prod.mk.inj (Option.some.inj h_)
    exact hgo i au ae ac at' ak al bu be bc bt bk bl now dr me mc j ks hp_
  · rw [res_sp0_no i au ae ac at' ak al bu be bc bt bk bl now dr me mc j ks hp_] at h_
    cases h_
theorem sp0_go (i : Int) (au : Int) (ae : List Int) (ac : List (Ty.den conf)) (at' ak : Int) (al : List (Ty.den lockT)) (bu : Int) (be : List Int) (bc : List (Ty.den conf)) (bt bk : Int) (bl : List (Ty.den lockT)) (now dr : Int) (me : List Int) (mc : List (Ty.den conf)) (j : Nat) (ks : List Int) (h : pre_sp0 i au ae ac at' ak al bu be bc bt bk bl now dr me mc j ks) : SemL Tryd.prog Γ (lp 7 0) (st_sp0 i au ae ac at' ak al bu be bc bt bk bl now dr me mc j ks) (rs_sp0 i au ae ac at' ak al bu be bc bt bk bl now dr me mc j ks).1.to (rs_sp0 i au ae ac at' ak al bu be bc bt bk bl now dr me mc j ks).2 := by
  obtain ⟨rfl, rfl, rfl⟩ := h
  refine SemL.scan 20 0 (Nat.zero_le _) (fun i => st_sp0 (i : Nat) au ae ac at' ak al bu be bc bt bk bl now dr me mc i (keysN i)) (fun _ => true) _ ?_ ?_ ?_
  · intro i _ hi _ _
    have hw : IntKind.i64.wrap ((i : Int) + 1) = ((i + 1 : Nat) : Int) := by rw [wrap_in (by omega) (by omega)]; rfl
    have eq := rn_sp0_eq i au ae ac at' ak al bu be bc bt bk bl now dr me mc i (keysN i)
    have e : List.take i (List.drop 0 (keysN i)) = keysN i := by rw [List.drop_zero]; exact List.take_of_length_le (by rw [keysN_len]; exact Nat.le_refl _)
    rw [hw, decide_eq_true (by omega : (i : Int) < (20 : Int)), decide_eq_true (by omega : (i + 1) * 2 * 8 ≤ 281474976710656), e, ← keysN_succ] at eq
    exact rn_sp0_c i au ae ac at' ak al bu be bc bt bk bl now dr me mc i (keysN i) (eq.trans rfl)
  · intro i _ _ _ h; cases h
  · intro _
    refine ⟨by simp [rs_sp0, Ex.to], ?_⟩
    have eq := rn_sp0_eq (20 : Nat) au ae ac at' ak al bu be bc bt bk bl now dr me mc 20 (keysN 20)
    rw [decide_eq_false (by decide)] at eq
    exact rn_sp0_c (20 : Nat) au ae ac at' ak al bu be bc bt bk bl now dr me mc 20 (keysN 20) (eq.trans rfl)
abbrev fB (t : Int) (au : Int) (ae : List Int) (ac : List (Ty.den conf)) (at' ak : Int) (al : List (Ty.den lockT)) (bu : Int) (be : List Int) (bc : List (Ty.den conf)) (bt bk : Int) (bl : List (Ty.den lockT)) (now dr : Int) (me : List Int) (mc : List (Ty.den conf)) (ks : List Int) (c : Nat) : Bool := opn bu be bc bt bk bl t (c : Int) now dr me mc ks
abbrev fQ (t : Int) (au : Int) (ae : List Int) (ac : List (Ty.den conf)) (at' ak : Int) (al : List (Ty.den lockT)) (bu : Int) (be : List Int) (bc : List (Ty.den conf)) (bt bk : Int) (bl : List (Ty.den lockT)) (now dr : Int) (me : List Int) (mc : List (Ty.den conf)) (ks : List Int) (c : Nat) : Bool := opn bu be bc bt bk bl t (c : Int) now dr me mc ks && !opn au ae ac at' ak al t (c : Int) now dr me mc ks
abbrev pre_sp2 (p q : Bool) (t c : Int) (au : Int) (ae : List Int) (ac : List (Ty.den conf)) (at' ak : Int) (al : List (Ty.den lockT)) (bu : Int) (be : List Int) (bc : List (Ty.den conf)) (bt bk : Int) (bl : List (Ty.den lockT)) (now dr : Int) (me : List Int) (mc : List (Ty.den conf)) (j : Nat) (ks : List Int) : Prop := c = 0 ∧ j = ks.length ∧ szE ae ac al ∧ szE be bc bl ∧ szM me mc ks
def rs_sp2 (p q : Bool) (t c : Int) (au : Int) (ae : List Int) (ac : List (Ty.den conf)) (at' ak : Int) (al : List (Ty.den lockT)) (bu : Int) (be : List Int) (bc : List (Ty.den conf)) (bt bk : Int) (bl : List (Ty.den lockT)) (now dr : Int) (me : List Int) (mc : List (Ty.den conf)) (j : Nat) (ks : List Int) : Ex × St := (.exit 4, St.of 79 (lve_sp2 (.exit 4)) [.ptr 0 0, .ptr 1 0, .ptr 2 0, .sb (Bool.or p (anyI 8 (fB t au ae ac at' ak al bu be bc bt bk bl now dr me mc ks))), .sb (Bool.or q (anyI 8 (fQ t au ae ac at' ak al bu be bc bt bk bl now dr me mc ks))), .si .i64 t] [some [.si .i64 au, .slst .ro ity ae, .slst .ro conf ac, .si .i64 at', .si .i64 ak, .slst .ro lockT al], some [.si .i64 bu, .slst .ro ity be, .slst .ro conf bc, .si .i64 bt, .si .i64 bk, .slst .ro lockT bl], some [.si .i64 now, .si .i64 dr, .slst .ro ity me, .slst .ro conf mc, .bs true 0 0 j]] [some (.live (.arr ity ks))] hp_sp2.kh hp_sp2.kt)
def res_sp2 (p q : Bool) (t c : Int) (au : Int) (ae : List Int) (ac : List (Ty.den conf)) (at' ak : Int) (al : List (Ty.den lockT)) (bu : Int) (be : List Int) (bc : List (Ty.den conf)) (bt bk : Int) (bl : List (Ty.den lockT)) (now dr : Int) (me : List Int) (mc : List (Ty.den conf)) (j : Nat) (ks : List Int) : Tr (Ex × St) := .br (decide (pre_sp2 p q t c au ae ac at' ak al bu be bc bt bk bl now dr me mc j ks)) (.leaf (some (.exit 4, St.of 79 (lve_sp2 (.exit 4)) [.ptr 0 0, .ptr 1 0, .ptr 2 0, .sb (Bool.or p (anyI 8 (fB t au ae ac at' ak al bu be bc bt bk bl now dr me mc ks))), .sb (Bool.or q (anyI 8 (fQ t au ae ac at' ak al bu be bc bt bk bl now dr me mc ks))), .si .i64 t] [some [.si .i64 au, .slst .ro ity ae, .slst .ro conf ac, .si .i64 at', .si .i64 ak, .slst .ro lockT al], some [.si .i64 bu, .slst .ro ity be, .slst .ro conf bc, .si .i64 bt, .si .i64 bk, .slst .ro lockT bl], some [.si .i64 now, .si .i64 dr, .slst .ro ity me, .slst .ro conf mc, .bs true 0 0 j]] [some (.live (.arr ity ks))] hp_sp2.kh hp_sp2.kt))) (.leaf none)
theorem res_sp2_run (p q : Bool) (t c : Int) (au : Int) (ae : List Int) (ac : List (Ty.den conf)) (at' ak : Int) (al : List (Ty.den lockT)) (bu : Int) (be : List Int) (bc : List (Ty.den conf)) (bt bk : Int) (bl : List (Ty.den lockT)) (now dr : Int) (me : List Int) (mc : List (Ty.den conf)) (j : Nat) (ks : List Int) (h : pre_sp2 p q t c au ae ac at' ak al bu be bc bt bk bl now dr me mc j ks) : (res_sp2 p q t c au ae ac at' ak al bu be bc bt bk bl now dr me mc j ks).run = some (rs_sp2 p q t c au ae ac at' ak al bu be bc bt bk bl now dr me mc j ks) := by
  unfold res_sp2 rs_sp2
  rw [decide_eq_true h]
  exact rfl
theorem res_sp2_no (p q : Bool) (t c : Int) (au : Int) (ae : List Int) (ac : List (Ty.den conf)) (at' ak : Int) (al : List (Ty.den lockT)) (bu : Int) (be : List Int) (bc : List (Ty.den conf)) (bt bk : Int) (bl : List (Ty.den lockT)) (now dr : Int) (me : List Int) (mc : List (Ty.den conf)) (j : Nat) (ks : List Int) (h : ¬ pre_sp2 p q t c au ae ac at' ak al bu be bc bt bk bl now dr me mc j ks) : (res_sp2 p q t c au ae ac at' ak al bu be bc bt bk bl now dr me mc j ks).run = none := Tr.run_no h
def ent_sp2 : LEnt := LEnt.by hp_sp2 fun ⟨(_, _, _, p, q, t, c, _), ((au, ae, ac, at', ak, al, _), (bu, be, bc, bt, bk, bl, _), (now, dr, me, mc, j, _), _), (ks, _)⟩ => res_sp2 p q t c au ae ac at' ak al bu be bc bt bk bl now dr me mc j ks
theorem ent_sp2_ok (hgo : ∀ (p q : Bool) (t c : Int) (au : Int) (ae : List Int) (ac : List (Ty.den conf)) (at' ak : Int) (al : List (Ty.den lockT)) (bu : Int) (be : List Int) (bc : List (Ty.den conf)) (bt bk : Int) (bl : List (Ty.den lockT)) (now dr : Int) (me : List Int) (mc : List (Ty.den conf)) (j : Nat) (ks : List Int), pre_sp2 p q t c au ae ac at' ak al bu be bc bt bk bl now dr me mc j ks → SemL Tryd.prog Γ (lp 7 2) (st_sp2 p q t c au ae ac at' ak al bu be bc bt bk bl now dr me mc j ks) (rs_sp2 p q t c au ae ac at' ak al bu be bc bt bk bl now dr me mc j ks).1.to (rs_sp2 p q t c au ae ac at' ak al bu be bc bt bk bl now dr me mc j ks).2) : EntOk Tryd.prog Γ (lp 7 2) ent_sp2 := LEnt.by_ok fun ⟨(_, _, _, p, q, t, c, _), ((au, ae, ac, at', ak, al, _), (bu, be, bc, bt, bk, bl, _), (now, dr, me, mc, j, _), _), (ks, _)⟩ ex_ s_ h_ => by
  have h_ : (res_sp2 p q t c au ae ac at' ak al bu be bc bt bk bl now dr me mc j ks).run = some (ex_, s_) := h_
  by_cases hp_ : pre_sp2 p q t c au ae ac at' ak al bu be bc bt bk bl now dr me mc j ks
  · rw [res_sp2_run p q t c au ae ac at' ak al bu be bc bt bk bl now dr me mc j ks hp_] at h_
    obtain ⟨rfl, rfl⟩ := Prod.mk.inj (Option.some.inj h_)
    exact hgo p q t c au ae ac at' ak al bu be bc bt bk bl now dr me mc j ks hp_
  · rw [res_sp2_no p q t c au ae ac at' ak al bu be bc bt bk bl now dr me mc j ks hp_] at h_
    cases h_
theorem sp2_go (p q : Bool) (t c : Int) (au : Int) (ae : List Int) (ac : List (Ty.den conf)) (at' ak : Int) (al : List (Ty.den lockT)) (bu : Int) (be : List Int) (bc : List (Ty.den conf)) (bt bk : Int) (bl : List (Ty.den lockT)) (now dr : Int) (me : List Int) (mc : List (Ty.den conf)) (j : Nat) (ks : List Int) (h : pre_sp2 p q t c au ae ac at' ak al bu be bc bt bk bl now dr me mc j ks) : SemL Tryd.prog Γ (lp 7 2) (st_sp2 p q t c au ae ac at' ak al bu be bc bt bk bl now dr me mc j ks) (rs_sp2 p q t c au ae ac at' ak al bu be bc bt bk bl now dr me mc j ks).1.to (rs_sp2 p q t c au ae ac at' ak al bu be bc bt bk bl now dr me mc j ks).2 := by
  obtain ⟨rfl, rfl, ha, hb, hm⟩ := h
  have hst : ∀ P Q, P = p → Q = q → st_sp2 p q t 0 au ae ac at' ak al bu be bc bt bk bl now dr me mc ks.length ks = st_sp2 P Q t ((0 : Nat) : Int) au ae ac at' ak al bu be bc bt bk bl now dr me mc ks.length ks := fun P Q e1 e2 => by rw [e1, e2]; rfl
  rw [hst (p || anyI 0 (fB t au ae ac at' ak al bu be bc bt bk bl now dr me mc ks)) (q || anyI 0 (fQ t au ae ac at' ak al bu be bc bt bk bl now dr me mc ks)) (by simp [anyI]) (by simp [anyI])]
  refine SemL.scan 8 0 (Nat.zero_le _) (fun c => st_sp2 (p || anyI c (fB t au ae ac at' ak al bu be bc bt bk bl now dr me mc ks)) (q || anyI c (fQ t au ae ac at' ak al bu be bc bt bk bl now dr me mc ks)) t (c : Nat) au ae ac at' ak al bu be bc bt bk bl now dr me mc ks.length ks) (fun _ => true) _ ?_ ?_ ?_
  · intro c _ hc _ _
    have hw : IntKind.i64.wrap ((c : Int) + 1) = ((c + 1 : Nat) : Int) := by rw [wrap_in (by omega) (by omega)]; rfl
    show SemC Tryd.prog Γ (lp 7 2) (st_sp2 (p || anyI c (fB t au ae ac at' ak al bu be bc bt bk bl now dr me mc ks)) (q || anyI c (fQ t au ae ac at' ak al bu be bc bt bk bl now dr me mc ks)) t (c : Nat) au ae ac at' ak al bu be bc bt bk bl now dr me mc ks.length ks) .normal (st_sp2 (p || anyI (c + 1) (fB t au ae ac at' ak al bu be bc bt bk bl now dr me mc ks)) (q || anyI (c + 1) (fQ t au ae ac at' ak al bu be bc bt bk bl now dr me mc ks)) t ((c + 1 : Nat) : Int) au ae ac at' ak al bu be bc bt bk bl now dr me mc ks.length ks)
    rw [anyI_succ, anyI_succ, ← Bool.or_assoc, ← Bool.or_assoc]
    generalize (p || anyI c (fB t au ae ac at' ak al bu be bc bt bk bl now dr me mc ks)) = P
    generalize (q || anyI c (fQ t au ae ac at' ak al bu be bc bt bk bl now dr me mc ks)) = Q
    have eq := rn_sp2_eq P Q t c au ae ac at' ak al bu be bc bt bk bl now dr me mc ks.length ks
    rw [List.drop_zero, List.take_length, hw, decide_eq_true (by omega : (c : Int) < (8 : Int)), decide_eq_true (And.intro hb hm), decide_eq_true (And.intro ha hm)] at eq
    have eb : (reasonE bu be bc bt bk bl t (c : Int) now dr me mc ks == (0 : Int)) = opn bu be bc bt bk bl t (c : Int) now dr me mc ks := rfl
    have ea : (reasonE au ae ac at' ak al t (c : Int) now dr me mc ks == (0 : Int)) = opn au ae ac at' ak al t (c : Int) now dr me mc ks := rfl
    rw [eb, ea] at eq
    show SemC Tryd.prog Γ (lp 7 2) _ .normal (st_sp2 (P || opn bu be bc bt bk bl t (c : Int) now dr me mc ks) (Q || (opn bu be bc bt bk bl t (c : Int) now dr me mc ks && !opn au ae ac at' ak al t (c : Int) now dr me mc ks)) t ((c + 1 : Nat) : Int) au ae ac at' ak al bu be bc bt bk bl now dr me mc ks.length ks)
    generalize opn bu be bc bt bk bl t (c : Int) now dr me mc ks = ob at eq ⊢
    generalize opn au ae ac at' ak al t (c : Int) now dr me mc ks = oa at eq ⊢
    cases P <;> cases Q <;> cases ob <;> cases oa <;> exact (rn_sp2_c _ _ t c au ae ac at' ak al bu be bc bt bk bl now dr me mc ks.length ks (eq.trans rfl)).les (by repeat (first | exact .nil | refine .cons (.rfl _) ?_ | refine .cons (.b _) ?_))
  · intro i _ _ _ h; cases h
  · intro _
    refine ⟨by simp [rs_sp2, Ex.to], ?_⟩
    have eq := rn_sp2_eq (p || anyI 8 (fB t au ae ac at' ak al bu be bc bt bk bl now dr me mc ks)) (q || anyI 8 (fQ t au ae ac at' ak al bu be bc bt bk bl now dr me mc ks)) t (8 : Nat) au ae ac at' ak al bu be bc bt bk bl now dr me mc ks.length ks
    rw [decide_eq_false (by decide)] at eq
    exact rn_sp2_c _ _ t (8 : Nat) au ae ac at' ak al bu be bc bt bk bl now dr me mc ks.length ks (eq.trans rfl)
def lo46 : LOrc := (LOrc.add (LOrc.add lo35 7 0 ent_sp0) 7 2 ent_sp2)
theorem lo46_ok : LOrcOk Tryd.prog Γ lo46 := (LOrcOk.add (LOrcOk.add lo35_ok 7 0 Tryd.func7 bd_sp0 le_sp0 (ent_sp0_ok sp0_go)) 7 2 Tryd.func7 bd_sp2 le_sp2 (ent_sp2_ok sp2_go))
noncomputable def cfg46 : Cfg := cfgT T36 isT36 orc38 lo46
theorem cfg46_ok : CfgOk Tryd.prog Γ cfg46 := cfgT_ok T36_ok orc38_ok lo46_ok
end L
end Go.Proofs.YthjiodeaepigmaaDoor


/- Package label: LabelSeparates' outer loop, and LabelSeparates, reckoned. -/
set_option linter.unusedVariables false
set_option linter.unusedSimpArgs false
set_option maxRecDepth 100000
set_option maxHeartbeats 4000000
namespace Go.Proofs.YthjiodeaepigmaaDoor
open Go
namespace L
def hp_sp1 : HP := { n := 79, lv := [5, 6, 7, 9, 10, 11], sp := [.ptr 0 0, .ptr 1 0, .ptr 2 0, .ty .bool, .ty .bool, .ty ity], op := [.cells [.ty ity, .ty (.slice ity), .ty (.slice conf), .ty ity, .ty ity, .ty (.slice lockT)], .cells [.ty ity, .ty (.slice ity), .ty (.slice conf), .ty ity, .ty ity, .ty (.slice lockT)], .cells [.ty ity, .ty ity, .ty (.slice ity), .ty (.slice conf), .bz 0]], bp := [.arr ity] }
def lve_sp1 : Ex → List Nat
  | .normal => [5, 6, 7, 9, 10, 11]
  | .exit 2 => [5, 6, 9, 10]
  | _ => []
theorem bd_sp1 : Tryd.f7.body = some (root 7) := by kernel_rfl
theorem le_sp1 : (loops (root 7))[1]? = some (lp 7 1) := by kernel_rfl
theorem li_sp1 : Lies (root 7) 2 (lp 7 1) := Lies.of_take (n := 1) (by kernel_rfl)
def st_sp1 (p q : Bool) (t : Int) (au : Int) (ae : List Int) (ac : List (Ty.den conf)) (at' ak : Int) (al : List (Ty.den lockT)) (bu : Int) (be : List Int) (bc : List (Ty.den conf)) (bt bk : Int) (bl : List (Ty.den lockT)) (now dr : Int) (me : List Int) (mc : List (Ty.den conf)) (j : Nat) (ks : List Int) : St := hp_sp1.st ⟨((), (), (), p, q, t, ()), ((au, ae, ac, at', ak, al, ()), (bu, be, bc, bt, bk, bl, ()), (now, dr, me, mc, j, ()), ()), (ks, ())⟩
noncomputable def rn_sp1 (p q : Bool) (t : Int) (au : Int) (ae : List Int) (ac : List (Ty.den conf)) (at' ak : Int) (al : List (Ty.den lockT)) (bu : Int) (be : List Int) (bc : List (Ty.den conf)) (bt bk : Int) (bl : List (Ty.den lockT)) (now dr : Int) (me : List Int) (mc : List (Ty.den conf)) (j : Nat) (ks : List Int) := outa lve_sp1 (evCK Tryd.prog Γ (cfM Tryd.prog Γ cfg46 30) (cfg46.lo 7) [] 60 2 (lp 7 1) (st_sp1 p q t au ae ac at' ak al bu be bc bt bk bl now dr me mc j ks))
theorem rn_sp1_eq (p q : Bool) (t : Int) (au : Int) (ae : List Int) (ac : List (Ty.den conf)) (at' ak : Int) (al : List (Ty.den lockT)) (bu : Int) (be : List Int) (bc : List (Ty.den conf)) (bt bk : Int) (bl : List (Ty.den lockT)) (now dr : Int) (me : List Int) (mc : List (Ty.den conf)) (j : Nat) (ks : List Int) : (rn_sp1 p q t au ae ac at' ak al bu be bc bt bk bl now dr me mc j ks).run = (bif decide (t < (8 : Int)) then (bif decide (pre_sp2 p q t (0 : Int) au ae ac at' ak al bu be bc bt bk bl now dr me mc j ks) then (some ((Ex.normal, [V.ptr (0 : Nat) (0 : Nat), V.ptr (1 : Nat) (0 : Nat), V.ptr (2 : Nat) (0 : Nat), V.sb (p || anyI (8) (fB t au (ae, ac, at', ak, al, ()).fst (ac, at', ak, al, ()).fst at' ak al bu be bc bt bk bl now dr me mc ks)), V.sb (q || anyI (8) (fQ t au (ae, ac, at', ak, al, ()).fst (ac, at', ak, al, ()).fst at' ak al bu be bc bt bk bl now dr me mc ks)), V.si IntKind.i64 (IntKind.i64.wrap (t + (1 : Int)))], [some [V.si IntKind.i64 au, V.slst Tag.ro ity ae, V.slst Tag.ro conf ac, V.si IntKind.i64 at', V.si IntKind.i64 ak, V.slst Tag.ro lockT al], some [V.si IntKind.i64 bu, V.slst Tag.ro ity be, V.slst Tag.ro conf bc, V.si IntKind.i64 bt, V.si IntKind.i64 bk, V.slst Tag.ro lockT bl], some [V.si IntKind.i64 now, V.si IntKind.i64 dr, V.slst Tag.ro ity me, V.slst Tag.ro conf mc, V.bs true (0 : Nat) (0 : Nat) j]], [some (Bf.live (BC.arr ity ks))], (79 : Nat), (0 : Nat), (0 : Nat)))) else none) else (some ((Ex.exit (2 : Nat), [V.ptr (0 : Nat) (0 : Nat), V.ptr (1 : Nat) (0 : Nat), V.sb p, V.sb q], [some [V.si IntKind.i64 au, V.slst Tag.ro ity ae, V.slst Tag.ro conf ac, V.si IntKind.i64 at', V.si IntKind.i64 ak, V.slst Tag.ro lockT al], some [V.si IntKind.i64 bu, V.slst Tag.ro ity be, V.slst Tag.ro conf bc, V.si IntKind.i64 bt, V.si IntKind.i64 bk, V.slst Tag.ro lockT bl]], [], (79 : Nat), (0 : Nat), (0 : Nat))))) := by kernel_rfl
theorem rn_sp1_c (p q : Bool) (t : Int) (au : Int) (ae : List Int) (ac : List (Ty.den conf)) (at' ak : Int) (al : List (Ty.den lockT)) (bu : Int) (be : List Int) (bc : List (Ty.den conf)) (bt bk : Int) (bl : List (Ty.den lockT)) (now dr : Int) (me : List Int) (mc : List (Ty.den conf)) (j : Nat) (ks : List Int) {e : Ex} {vs : List V} {ob : Ob} {nm : Nm} {n' kh kt : Nat} (h : (rn_sp1 p q t au ae ac at' ak al bu be bc bt bk bl now dr me mc j ks).run = some (e, vs, ob, nm, n', kh, kt)) : SemC Tryd.prog Γ (lp 7 1) (st_sp1 p q t au ae ac at' ak al bu be bc bt bk bl now dr me mc j ks) e.to (St.of n' (lve_sp1 e) vs ob nm kh kt) := SemC.of_evM cfg46_ok Tryd.func7 bd_sp1 li_sp1 h
abbrev gB (au : Int) (ae : List Int) (ac : List (Ty.den conf)) (at' ak : Int) (al : List (Ty.den lockT)) (bu : Int) (be : List Int) (bc : List (Ty.den conf)) (bt bk : Int) (bl : List (Ty.den lockT)) (now dr : Int) (me : List Int) (mc : List (Ty.den conf)) (ks : List Int) (t : Nat) : Bool := anyI 8 (fB (t : Int) au ae ac at' ak al bu be bc bt bk bl now dr me mc ks)
abbrev gQ (au : Int) (ae : List Int) (ac : List (Ty.den conf)) (at' ak : Int) (al : List (Ty.den lockT)) (bu : Int) (be : List Int) (bc : List (Ty.den conf)) (bt bk : Int) (bl : List (Ty.den lockT)) (now dr : Int) (me : List Int) (mc : List (Ty.den conf)) (ks : List Int) (t : Nat) : Bool := anyI 8 (fQ (t : Int) au ae ac at' ak al bu be bc bt bk bl now dr me mc ks)
abbrev pre_sp1 (p q : Bool) (t : Int) (au : Int) (ae : List Int) (ac : List (Ty.den conf)) (at' ak : Int) (al : List (Ty.den lockT)) (bu : Int) (be : List Int) (bc : List (Ty.den conf)) (bt bk : Int) (bl : List (Ty.den lockT)) (now dr : Int) (me : List Int) (mc : List (Ty.den conf)) (j : Nat) (ks : List Int) : Prop := t = 0 ∧ j = ks.length ∧ szE ae ac al ∧ szE be bc bl ∧ szM me mc ks
def rs_sp1 (p q : Bool) (t : Int) (au : Int) (ae : List Int) (ac : List (Ty.den conf)) (at' ak : Int) (al : List (Ty.den lockT)) (bu : Int) (be : List Int) (bc : List (Ty.den conf)) (bt bk : Int) (bl : List (Ty.den lockT)) (now dr : Int) (me : List Int) (mc : List (Ty.den conf)) (j : Nat) (ks : List Int) : Ex × St := (.exit 2, St.of 79 (lve_sp1 (.exit 2)) [.ptr 0 0, .ptr 1 0, .sb (Bool.or p (anyI 8 (gB au ae ac at' ak al bu be bc bt bk bl now dr me mc ks))), .sb (Bool.or q (anyI 8 (gQ au ae ac at' ak al bu be bc bt bk bl now dr me mc ks)))] [some [.si .i64 au, .slst .ro ity ae, .slst .ro conf ac, .si .i64 at', .si .i64 ak, .slst .ro lockT al], some [.si .i64 bu, .slst .ro ity be, .slst .ro conf bc, .si .i64 bt, .si .i64 bk, .slst .ro lockT bl]] [] hp_sp1.kh hp_sp1.kt)
def res_sp1 (p q : Bool) (t : Int) (au : Int) (ae : List Int) (ac : List (Ty.den conf)) (at' ak : Int) (al : List (Ty.den lockT)) (bu : Int) (be : List Int) (bc : List (Ty.den conf)) (bt bk : Int) (bl : List (Ty.den lockT)) (now dr : Int) (me : List Int) (mc : List (Ty.den conf)) (j : Nat) (ks : List Int) : Tr (Ex × St) := .br (decide (pre_sp1 p q t au ae ac at' ak al bu be bc bt bk bl now dr me mc j ks)) (.leaf (some (.exit 2, St.of 79 (lve_sp1 (.exit 2)) [.ptr 0 0, .ptr 1 0, .sb (Bool.or p (anyI 8 (gB au ae ac at' ak al bu be bc bt bk bl now dr me mc ks))), .sb (Bool.or q (anyI 8 (gQ au ae ac at' ak al bu be bc bt bk bl now dr me mc ks)))] [some [.si .i64 au, .slst .ro ity ae, .slst .ro conf ac, .si .i64 at', .si .i64 ak, .slst .ro lockT al], some [.si .i64 bu, .slst .ro ity be, .slst .ro conf bc, .si .i64 bt, .si .i64 bk, .slst .ro lockT bl]] [] hp_sp1.kh hp_sp1.kt))) (.leaf none)
theorem res_sp1_run (p q : Bool) (t : Int) (au : Int) (ae : List Int) (ac : List (Ty.den conf)) (at' ak : Int) (al : List (Ty.den lockT)) (bu : Int) (be : List Int) (bc : List (Ty.den conf)) (bt bk : Int) (bl : List (Ty.den lockT)) (now dr : Int) (me : List Int) (mc : List (Ty.den conf)) (j : Nat) (ks : List Int) (h : pre_sp1 p q t au ae ac at' ak al bu be bc bt bk bl now dr me mc j ks) : (res_sp1 p q t au ae ac at' ak al bu be bc bt bk bl now dr me mc j ks).run = some (rs_sp1 p q t au ae ac at' ak al bu be bc bt bk bl now dr me mc j ks) := by
  unfold res_sp1 rs_sp1
  rw [decide_eq_true h]
  exact rfl
theorem res_sp1_no (p q : Bool) (t : Int) (au : Int) (ae : List Int) (ac : List (Ty.den conf)) (at' ak : Int) (al : List (Ty.den lockT)) (bu : Int) (be : List Int) (bc : List (Ty.den conf)) (bt bk : Int) (bl : List (Ty.den lockT)) (now dr : Int) (me : List Int) (mc : List (Ty.den conf)) (j : Nat) (ks : List Int) (h : ¬ pre_sp1 p q t au ae ac at' ak al bu be bc bt bk bl now dr me mc j ks) : (res_sp1 p q t au ae ac at' ak al bu be bc bt bk bl now dr me mc j ks).run = none := Tr.run_no h
def ent_sp1 : LEnt := LEnt.by hp_sp1 fun ⟨(_, _, _, p, q, t, _), ((au, ae, ac, at', ak, al, _), (bu, be, bc, bt, bk, bl, _), (now, dr, me, mc, j, _), _), (ks, _)⟩ => res_sp1 p q t au ae ac at' ak al bu be bc bt bk bl now dr me mc j ks
theorem ent_sp1_ok (hgo : ∀ (p q : Bool) (t : Int) (au : Int) (ae : List Int) (ac : List (Ty.den conf)) (at' ak : Int) (al : List (Ty.den lockT)) (bu : Int) (be : List Int) (bc : List (Ty.den conf)) (bt bk : Int) (bl : List (Ty.den lockT)) (now dr : Int) (me : List Int) (mc : List (Ty.den conf)) (j : Nat) (ks : List Int), pre_sp1 p q t au ae ac at' ak al bu be bc bt bk bl now dr me mc j ks → SemL Tryd.prog Γ (lp 7 1) (st_sp1 p q t au ae ac at' ak al bu be bc bt bk bl now dr me mc j ks) (rs_sp1 p q t au ae ac at' ak al bu be bc bt bk bl now dr me mc j ks).1.to (rs_sp1 p q t au ae ac at' ak al bu be bc bt bk bl now dr me mc j ks).2) : EntOk Tryd.prog Γ (lp 7 1) ent_sp1 := LEnt.by_ok fun ⟨(_, _, _, p, q, t, _), ((au, ae, ac, at', ak, al, _), (bu, be, bc, bt, bk, bl, _), (now, dr, me, mc, j, _), _), (ks, _)⟩ ex_ s_ h_ => by
  have h_ : (res_sp1 p q t au ae ac at' ak al bu be bc bt bk bl now dr me mc j ks).run = some (ex_, s_) := h_
  by_cases hp_ : pre_sp1 p q t au ae ac at' ak al bu be bc bt bk bl now dr me mc j ks
  · rw [res_sp1_run p q t au ae ac at' ak al bu be bc bt bk bl now dr me mc j ks hp_] at h_
    obtain ⟨rfl, rfl⟩ := Prod.mk.inj (Option.some.inj h_)
    exact hgo p q t au ae ac at' ak al bu be bc bt bk bl now dr me mc j ks hp_
  · rw [res_sp1_no p q t au ae ac at' ak al bu be bc bt bk bl now dr me mc j ks hp_] at h_
    cases h_
theorem sp1_go (p q : Bool) (t : Int) (au : Int) (ae : List Int) (ac : List (Ty.den conf)) (at' ak : Int) (al : List (Ty.den lockT)) (bu : Int) (be : List Int) (bc : List (Ty.den conf)) (bt bk : Int) (bl : List (Ty.den lockT)) (now dr : Int) (me : List Int) (mc : List (Ty.den conf)) (j : Nat) (ks : List Int) (h : pre_sp1 p q t au ae ac at' ak al bu be bc bt bk bl now dr me mc j ks) : SemL Tryd.prog Γ (lp 7 1) (st_sp1 p q t au ae ac at' ak al bu be bc bt bk bl now dr me mc j ks) (rs_sp1 p q t au ae ac at' ak al bu be bc bt bk bl now dr me mc j ks).1.to (rs_sp1 p q t au ae ac at' ak al bu be bc bt bk bl now dr me mc j ks).2 := by
  obtain ⟨rfl, rfl, ha, hb, hm⟩ := h
  have hst : ∀ P Q, P = p → Q = q → st_sp1 p q 0 au ae ac at' ak al bu be bc bt bk bl now dr me mc ks.length ks = st_sp1 P Q ((0 : Nat) : Int) au ae ac at' ak al bu be bc bt bk bl now dr me mc ks.length ks := fun P Q e1 e2 => by rw [e1, e2]; rfl
  rw [hst (p || anyI 0 (gB au ae ac at' ak al bu be bc bt bk bl now dr me mc ks)) (q || anyI 0 (gQ au ae ac at' ak al bu be bc bt bk bl now dr me mc ks)) (by simp [anyI]) (by simp [anyI])]
  refine SemL.scan 8 0 (Nat.zero_le _) (fun t => st_sp1 (p || anyI t (gB au ae ac at' ak al bu be bc bt bk bl now dr me mc ks)) (q || anyI t (gQ au ae ac at' ak al bu be bc bt bk bl now dr me mc ks)) (t : Nat) au ae ac at' ak al bu be bc bt bk bl now dr me mc ks.length ks) (fun _ => true) _ ?_ ?_ ?_
  · intro t _ ht _ _
    have hw : IntKind.i64.wrap ((t : Int) + 1) = ((t + 1 : Nat) : Int) := by rw [wrap_in (by omega) (by omega)]; rfl
    show SemC Tryd.prog Γ (lp 7 1) (st_sp1 (p || anyI t (gB au ae ac at' ak al bu be bc bt bk bl now dr me mc ks)) (q || anyI t (gQ au ae ac at' ak al bu be bc bt bk bl now dr me mc ks)) (t : Nat) au ae ac at' ak al bu be bc bt bk bl now dr me mc ks.length ks) .normal (st_sp1 (p || anyI (t + 1) (gB au ae ac at' ak al bu be bc bt bk bl now dr me mc ks)) (q || anyI (t + 1) (gQ au ae ac at' ak al bu be bc bt bk bl now dr me mc ks)) ((t + 1 : Nat) : Int) au ae ac at' ak al bu be bc bt bk bl now dr me mc ks.length ks)
    rw [anyI_succ, anyI_succ, ← Bool.or_assoc, ← Bool.or_assoc]
    generalize (p || anyI t (gB au ae ac at' ak al bu be bc bt bk bl now dr me mc ks)) = P
    generalize (q || anyI t (gQ au ae ac at' ak al bu be bc bt bk bl now dr me mc ks)) = Q
    have eq := rn_sp1_eq P Q t au ae ac at' ak al bu be bc bt bk bl now dr me mc ks.length ks
    rw [hw, decide_eq_true (by omega : (t : Int) < (8 : Int)), decide_eq_true (show pre_sp2 P Q t 0 au ae ac at' ak al bu be bc bt bk bl now dr me mc ks.length ks from ⟨rfl, rfl, ha, hb, hm⟩)] at eq
    exact rn_sp1_c P Q t au ae ac at' ak al bu be bc bt bk bl now dr me mc ks.length ks (eq.trans rfl)
  · intro i _ _ _ h; cases h
  · intro _
    refine ⟨by simp [rs_sp1, Ex.to], ?_⟩
    have eq := rn_sp1_eq (p || anyI 8 (gB au ae ac at' ak al bu be bc bt bk bl now dr me mc ks)) (q || anyI 8 (gQ au ae ac at' ak al bu be bc bt bk bl now dr me mc ks)) (8 : Nat) au ae ac at' ak al bu be bc bt bk bl now dr me mc ks.length ks
    rw [decide_eq_false (by decide)] at eq
    exact rn_sp1_c _ _ (8 : Nat) au ae ac at' ak al bu be bc bt bk bl now dr me mc ks.length ks (eq.trans rfl)
def lo47 : LOrc := (LOrc.add lo46 7 1 ent_sp1)
theorem lo47_ok : LOrcOk Tryd.prog Γ lo47 := (LOrcOk.add lo46_ok 7 1 Tryd.func7 bd_sp1 le_sp1 (ent_sp1_ok sp1_go))
noncomputable def cfg47 : Cfg := cfgT T36 isT36 orc38 lo47
theorem cfg47_ok : CfgOk Tryd.prog Γ cfg47 := cfgT_ok T36_ok orc38_ok lo47_ok
theorem c7_run (x0 x1 x2 x3 x4 x5 x6 y0 y1 y2 y3 y4 y5 y6 : Int) : runL cfg47 7 [.agg [.si .i64 x0, .si .i64 x1, .si .i64 x2, .si .i64 x3, .si .i64 x4, .si .i64 x5, .si .i64 x6], .agg [.si .i64 y0, .si .i64 y1, .si .i64 y2, .si .i64 y3, .si .i64 y4, .si .i64 y5, .si .i64 y6]] = .ok (some (inr x0 && inr x1 && inr x2 && inr x3 && inr x4 && inr x5 && inr x6 && (inr y0 && inr y1 && inr y2 && inr y3 && inr y4 && inr y5 && inr y6 && (decide (pre_sp0 (0 : Int) (aU (madeD x0 x1 x2 x3 x4 x5 x6)) (aE (madeD x0 x1 x2 x3 x4 x5 x6)) (aC (madeD x0 x1 x2 x3 x4 x5 x6)) (aT (madeD x0 x1 x2 x3 x4 x5 x6)) (aK (madeD x0 x1 x2 x3 x4 x5 x6)) [] (aU (madeD y0 y1 y2 y3 y4 y5 y6)) (aE (madeD y0 y1 y2 y3 y4 y5 y6)) (aC (madeD y0 y1 y2 y3 y4 y5 y6)) (aT (madeD y0 y1 y2 y3 y4 y5 y6)) (aK (madeD y0 y1 y2 y3 y4 y5 y6)) (aL (madeD y0 y1 y2 y3 y4 y5 y6)) (aU (madeD y0 y1 y2 y3 y4 y5 y6)) (0 : Int) (aE (madeD y0 y1 y2 y3 y4 y5 y6)) (aC (madeD y0 y1 y2 y3 y4 y5 y6)) (0) []) && (decide (pre_sp1 false false (0 : Int) (aU (madeD x0 x1 x2 x3 x4 x5 x6)) ((aE (madeD x0 x1 x2 x3 x4 x5 x6))) ((aC (madeD x0 x1 x2 x3 x4 x5 x6))) (aT (madeD x0 x1 x2 x3 x4 x5 x6)) (aK (madeD x0 x1 x2 x3 x4 x5 x6)) [] (aU (madeD y0 y1 y2 y3 y4 y5 y6)) ((aE (madeD y0 y1 y2 y3 y4 y5 y6))) ((aC (madeD y0 y1 y2 y3 y4 y5 y6))) (aT (madeD y0 y1 y2 y3 y4 y5 y6)) (aK (madeD y0 y1 y2 y3 y4 y5 y6)) ((aL (madeD y0 y1 y2 y3 y4 y5 y6))) (aU (madeD y0 y1 y2 y3 y4 y5 y6)) (0 : Int) ((aE (madeD y0 y1 y2 y3 y4 y5 y6))) ((aC (madeD y0 y1 y2 y3 y4 y5 y6))) (20) (keysN (20))) && (some (!(false || anyI (8) (gB (aU (madeD x0 x1 x2 x3 x4 x5 x6)) ((aE (madeD x0 x1 x2 x3 x4 x5 x6))) ((aC (madeD x0 x1 x2 x3 x4 x5 x6))) (aT (madeD x0 x1 x2 x3 x4 x5 x6)) (aK (madeD x0 x1 x2 x3 x4 x5 x6)) [] (aU (madeD y0 y1 y2 y3 y4 y5 y6)) ((aE (madeD y0 y1 y2 y3 y4 y5 y6))) ((aC (madeD y0 y1 y2 y3 y4 y5 y6))) (aT (madeD y0 y1 y2 y3 y4 y5 y6)) (aK (madeD y0 y1 y2 y3 y4 y5 y6)) ((aL (madeD y0 y1 y2 y3 y4 y5 y6))) (aU (madeD y0 y1 y2 y3 y4 y5 y6)) (0 : Int) ((aE (madeD y0 y1 y2 y3 y4 y5 y6))) ((aC (madeD y0 y1 y2 y3 y4 y5 y6))) (keysN (20)))) || decide (szX (noL (madeD x0 x1 x2 x3 x4 x5 x6)) ∧ szX (madeD y0 y1 y2 y3 y4 y5 y6)))).getD true))))) (V.sb (bif !(false || anyI (8) (gB (aU (madeD x0 x1 x2 x3 x4 x5 x6)) ((aE (madeD x0 x1 x2 x3 x4 x5 x6))) ((aC (madeD x0 x1 x2 x3 x4 x5 x6))) (aT (madeD x0 x1 x2 x3 x4 x5 x6)) (aK (madeD x0 x1 x2 x3 x4 x5 x6)) [] (aU (madeD y0 y1 y2 y3 y4 y5 y6)) ((aE (madeD y0 y1 y2 y3 y4 y5 y6))) ((aC (madeD y0 y1 y2 y3 y4 y5 y6))) (aT (madeD y0 y1 y2 y3 y4 y5 y6)) (aK (madeD y0 y1 y2 y3 y4 y5 y6)) ((aL (madeD y0 y1 y2 y3 y4 y5 y6))) (aU (madeD y0 y1 y2 y3 y4 y5 y6)) (0 : Int) ((aE (madeD y0 y1 y2 y3 y4 y5 y6))) ((aC (madeD y0 y1 y2 y3 y4 y5 y6))) (keysN (20)))) then true else !(false || anyI (8) (gQ (aU (madeD x0 x1 x2 x3 x4 x5 x6)) ((aE (madeD x0 x1 x2 x3 x4 x5 x6))) ((aC (madeD x0 x1 x2 x3 x4 x5 x6))) (aT (madeD x0 x1 x2 x3 x4 x5 x6)) (aK (madeD x0 x1 x2 x3 x4 x5 x6)) [] (aU (madeD y0 y1 y2 y3 y4 y5 y6)) ((aE (madeD y0 y1 y2 y3 y4 y5 y6))) ((aC (madeD y0 y1 y2 y3 y4 y5 y6))) (aT (madeD y0 y1 y2 y3 y4 y5 y6)) (aK (madeD y0 y1 y2 y3 y4 y5 y6)) ((aL (madeD y0 y1 y2 y3 y4 y5 y6))) (aU (madeD y0 y1 y2 y3 y4 y5 y6)) (0 : Int) ((aE (madeD y0 y1 y2 y3 y4 y5 y6))) ((aC (madeD y0 y1 y2 y3 y4 y5 y6))) (keysN (20)))) == belowB (noL (madeD x0 x1 x2 x3 x4 x5 x6)) (madeD y0 y1 y2 y3 y4 y5 y6))) := by kernel_rfl
end L
end Go.Proofs.YthjiodeaepigmaaDoor


/- Package label: LabelSeparates, in plain terms. -/
set_option linter.unusedVariables false
set_option linter.unusedSimpArgs false
set_option maxRecDepth 100000
set_option maxHeartbeats 4000000
namespace Go.Proofs.YthjiodeaepigmaaDoor
open Go
namespace L
theorem Ord.absorbD {α : Type} {cmp : α → α → Int} {cb : α → α → α} (h : Ord cmp cb) : ∀ (n : Nat) (a b : List α), a.length + b.length ≤ n → a.Pairwise (fun x y => cmp x y < 0) → b.Pairwise (fun x y => cmp x y < 0) → (∀ x ∈ a, ∃ z ∈ b, cmp x z = 0 ∧ cb x z = z) → unD cmp cb a b = b
  | _, [], b, _, _, _, _ => un_nil _
  | _, x :: a, [], _, _, _, hs => by obtain ⟨z, hz, _⟩ := hs x (List.mem_cons_self ..); cases hz
  | 0, x :: a, y :: b, hn, _, _, _ => by simp at hn
  | n + 1, x :: a, y :: b, hn, ha, hb, hs => by
    simp only [List.length_cons] at hn
    obtain ⟨a1, a2⟩ := List.pairwise_cons.1 ha
    obtain ⟨b1, b2⟩ := List.pairwise_cons.1 hb
    rw [un_cons]
    obtain ⟨z, hz, e1, e2⟩ := hs x (List.mem_cons_self ..)
    rcases List.mem_cons.1 hz with e | hx
    · subst e
      rw [if_neg (by omega), if_neg (by omega), e2, absorbD h n a b (by omega) a2 b2 fun w hw => ?_]
      obtain ⟨u, hu, u1, u2⟩ := hs w (List.mem_cons_of_mem _ hw)
      rcases List.mem_cons.1 hu with e | hm
      · subst e
        have k1 := a1 w hw
        have k2 := h.zl w e1
        have k3 := h.z0 u1
        omega
      · exact ⟨u, hm, u1, u2⟩
    · have k := (h.zr y e1).1.1 (b1 z hx)
      have c := h.sy.2 k
      rw [if_neg (by omega), if_pos c, absorbD h n (x :: a) b (by simp only [List.length_cons]; omega) ha b2 fun w hw => ?_]
      obtain ⟨u, hu, u1, u2⟩ := hs w hw
      rcases List.mem_cons.1 hu with e | hm
      · subst e
        have k3 := h.z0 u1
        rcases List.mem_cons.1 hw with e | hm2
        · subst e; omega
        · have := h.tr k (a1 w hm2)
          omega
      · exact ⟨u, hm, u1, u2⟩
theorem andI_sub {a b : Int} (ha : 0 ≤ a ∧ a ≤ 255) (hb : 0 ≤ b ∧ b ≤ 255) (h : ∀ r : Nat, r ≤ 7 → noBit b r = false → noBit a r = false) : andI a b = b := by
  obtain ⟨a, rfl⟩ := Int.eq_ofNat_of_zero_le ha.1
  obtain ⟨b, rfl⟩ := Int.eq_ofNat_of_zero_le hb.1
  rw [(andI_nat (by omega)).1]
  congr 1
  apply Nat.eq_of_testBit_eq
  intro i
  rw [Nat.testBit_and]
  by_cases hi : i ≤ 7
  · have := h i hi
    rw [noBit_nat (by omega) hi, noBit_nat (by omega) hi] at this
    cases e : b.testBit i with
    | false => simp
    | true => rw [e] at this; have := this rfl; simpa using this
  · have : b.testBit i = false := Nat.testBit_lt_two_pow (by have : 2 ^ 8 ≤ 2 ^ i := Nat.pow_le_pow_right (by decide) (by omega); omega)
    rw [this, Bool.and_false]
theorem any_iff {n : Nat} {f : Nat → Bool} : anyI n f = true ↔ ∃ i, i < n ∧ f i = true := by
  unfold anyI
  rw [List.any_eq_true]
  simp only [List.mem_range]
theorem keysN_mem {n : Nat} {x : Int} : x ∈ keysN n ↔ 0 ≤ x ∧ x < n := by
  unfold keysN
  rw [List.mem_map]
  constructor
  · rintro ⟨i, hi, rfl⟩
    rw [List.mem_range] at hi
    omega
  · rintro ⟨h1, h2⟩
    exact ⟨x.toNat, List.mem_range.2 (by omega), by omega⟩
theorem keysN_rising : risingD (keysN 20) 19 = true := by decide +kernel
theorem sep (X Y : Ty.den labT) (hx : vX X = true) (hy : vX Y = true) (hu : aU Y ≤ 290) : (bif !(false || anyI 8 (gB (aU X) (aE X) (aC X) (aT X) (aK X) [] (aU Y) (aE Y) (aC Y) (aT Y) (aK Y) (aL Y) (aU Y) 0 (aE Y) (aC Y) (keysN 20))) then true else !(false || anyI 8 (gQ (aU X) (aE X) (aC X) (aT X) (aK X) [] (aU Y) (aE Y) (aC Y) (aT Y) (aK Y) (aL Y) (aU Y) 0 (aE Y) (aC Y) (keysN 20))) == belowB (noL X) Y) = true := by
  obtain ⟨x1, x2, x3, x4, x5, x6, x7⟩ := valid_all hx
  obtain ⟨y1, y2, y3, y4, y5, y6, y7⟩ := valid_all hy
  obtain ⟨c1, c2⟩ := counts_out y7
  obtain ⟨d1, d2⟩ := counts_out x7
  have vm : validM (aU Y) 0 (aE Y) (aC Y) (keysN 20) = true := validM_of y1.1 y1.2 (by decide) (by decide) y6 (counts_iff (fun z hz => by have := c1 z hz; omega) c2) keysN_rising
  have wr : ∀ u, ¬ IntKind.i64.wrap (aU Y - 0) < u ↔ u ≤ aU Y := fun u => by rw [wrap_in (by omega) (by omega)]; omega
  have oY : ∀ t c : Nat, t < 8 → c < 8 → (opn (aU Y) (aE Y) (aC Y) (aT Y) (aK Y) (aL Y) t c (aU Y) 0 (aE Y) (aC Y) (keysN 20) = true ↔ noBit (aT Y) t = false ∧ noBit (aK Y) c = false) := fun t c ht hc => by
    show (rsn Y t c (aU Y) 0 (aE Y) (aC Y) (keysN 20) == 0) = true ↔ _
    rw [beq_iff_eq, rsn_open, proper_of hy vm ⟨by omega, by omega⟩ ⟨by omega, by omega⟩]
    constructor
    · rintro ⟨_, a, b, _⟩; exact ⟨a, b⟩
    · rintro ⟨a, b⟩
      refine ⟨rfl, a, b, (wr _).2 (Int.le_refl _), fun y h => h, fun y h => ⟨y, h, rfl, Int.le_refl _⟩, fun q hq => ?_⟩
      obtain ⟨q1, q2, q3⟩ := locks_out y5 q hq
      have e : (kK q).filter (hasD (keysN 20)) = kK q := List.filter_eq_self.2 fun z hz => by
        rw [hasD_iff, keysN_mem]
        have := (rising_iff.1 q1).1 z hz
        omega
      rw [e]
      exact q3
  have oA : ∀ t c : Nat, t < 8 → c < 8 → (opn (aU X) (aE X) (aC X) (aT X) (aK X) [] t c (aU Y) 0 (aE Y) (aC Y) (keysN 20) = true ↔ noBit (aT X) t = false ∧ noBit (aK X) c = false ∧ aU X ≤ aU Y ∧ (∀ y ∈ aE X, y ∈ aE Y) ∧ ∀ y ∈ aC X, ∃ z ∈ aC Y, cF z = cF y ∧ cC y ≤ cC z) := fun t c ht hc => by
    show (rsn (noL X) t c (aU Y) 0 (aE Y) (aC Y) (keysN 20) == 0) = true ↔ _
    rw [beq_iff_eq, rsn_open, proper_of (noL_valid hx) vm ⟨by omega, by omega⟩ ⟨by omega, by omega⟩, wr]
    constructor
    · rintro ⟨_, a, b, c, d, e, _⟩; exact ⟨a, b, c, d, e⟩
    · rintro ⟨a, b, c, d, e⟩; exact ⟨rfl, a, b, c, d, e, fun q hq => nomatch hq⟩
  rw [Bool.false_or, Bool.false_or]
  cases hB : anyI 8 (gB (aU X) (aE X) (aC X) (aT X) (aK X) [] (aU Y) (aE Y) (aC Y) (aT Y) (aK Y) (aL Y) (aU Y) 0 (aE Y) (aC Y) (keysN 20)) with
  | false => rfl
  | true =>
    obtain ⟨t0, ht0, hB⟩ := any_iff.1 hB
    obtain ⟨k0, hk0, hB⟩ := any_iff.1 hB
    obtain ⟨b1, b2⟩ := (oY t0 k0 ht0 hk0).1 hB
    cases hQ : anyI 8 (gQ (aU X) (aE X) (aC X) (aT X) (aK X) [] (aU Y) (aE Y) (aC Y) (aT Y) (aK Y) (aL Y) (aU Y) 0 (aE Y) (aC Y) (keysN 20)) with
    | true =>
      obtain ⟨t, ht, hQ⟩ := any_iff.1 hQ
      obtain ⟨k, hk, hQ⟩ := any_iff.1 hQ
      have hQ : (opn (aU Y) (aE Y) (aC Y) (aT Y) (aK Y) (aL Y) t k (aU Y) 0 (aE Y) (aC Y) (keysN 20) && !opn (aU X) (aE X) (aC X) (aT X) (aK X) [] t k (aU Y) 0 (aE Y) (aC Y) (keysN 20)) = true := hQ
      rw [Bool.and_eq_true, Bool.not_eq_true'] at hQ
      cases hb : belowB (noL X) Y with
      | false => rfl
      | true =>
        have h1 : rsn Y t k (aU Y) 0 (aE Y) (aC Y) (keysN 20) = 0 := beq_iff_eq.1 hQ.1
        have h2 : rsn (noL X) t k (aU Y) 0 (aE Y) (aC Y) (keysN 20) = 0 := open_below (noL_valid hx) hy hb ⟨by omega, by omega⟩ ⟨by omega, by omega⟩ vm h1
        have h3 : (rsn (noL X) t k (aU Y) 0 (aE Y) (aC Y) (keysN 20) == 0) = false := hQ.2
        rw [h2] at h3
        cases h3
    | false =>
      have key : ∀ t k : Nat, t < 8 → k < 8 → noBit (aT Y) t = false → noBit (aK Y) k = false → opn (aU X) (aE X) (aC X) (aT X) (aK X) [] t k (aU Y) 0 (aE Y) (aC Y) (keysN 20) = true := fun t k ht hk h1 h2 => by
        have h3 := (oY t k ht hk).2 ⟨h1, h2⟩
        cases h4 : opn (aU X) (aE X) (aC X) (aT X) (aK X) [] t k (aU Y) 0 (aE Y) (aC Y) (keysN 20) with
        | true => rfl
        | false =>
          have : anyI 8 (gQ (aU X) (aE X) (aC X) (aT X) (aK X) [] (aU Y) (aE Y) (aC Y) (aT Y) (aK Y) (aL Y) (aU Y) 0 (aE Y) (aC Y) (keysN 20)) = true := any_iff.2 ⟨t, ht, any_iff.2 ⟨k, hk, by show (opn (aU Y) (aE Y) (aC Y) (aT Y) (aK Y) (aL Y) t k (aU Y) 0 (aE Y) (aC Y) (keysN 20) && !opn (aU X) (aE X) (aC X) (aT X) (aK X) [] t k (aU Y) 0 (aE Y) (aC Y) (keysN 20)) = true; rw [h3, h4]; rfl⟩⟩
          rw [hQ] at this
          cases this
      obtain ⟨_, _, u1, u2, u3⟩ := (oA t0 k0 ht0 hk0).1 (key t0 k0 ht0 hk0 b1 b2)
      have hb : belowB (noL X) Y = true := by
        rw [below_iff (noL_valid hx) hy, lab_ext]
        refine ⟨?_, ?_, ?_, ?_, ?_, noL_un X Y⟩
        · show maxI (aU X) (aU Y) = aU Y
          unfold maxI
          split <;> omega
        · exact ordI.absorb (fun u v e => sgn_zero.1 e) _ (aE X) (aE Y) (Nat.le_refl _) (pw_sgn.2 (rising_iff.1 x6).2) (pw_sgn.2 (rising_iff.1 y6).2) u2
        · refine ordC.absorbD _ (aC X) (aC Y) (Nat.le_refl _) (pw_cmpC.2 d2) (pw_cmpC.2 c2) fun u hu => ?_
          obtain ⟨z, hz, z1, z2⟩ := u3 u hu
          refine ⟨z, hz, (sgn_cases _ _).2.2.2 z1.symm, ?_⟩
          rw [conf_ext]
          refine ⟨z1.symm, ?_⟩
          show (if cC z > cC u then cC z else cC u) = cC z
          split <;> omega
        · exact andI_sub x2 y2 fun r hr hn => ((oA r k0 (by omega) hk0).1 (key r k0 (by omega) hk0 hn b2)).1
        · exact andI_sub x3 y3 fun r hr hn => ((oA t0 r ht0 (by omega)).1 (key t0 r ht0 (by omega) b1 hn)).2.1
      rw [hb]
      rfl
theorem law7 (x0 x1 x2 x3 x4 x5 x6 y0 y1 y2 y3 y4 y5 y6 : Int) (hx : (inr x0 && inr x1 && inr x2 && inr x3 && inr x4 && inr x5 && inr x6) = true) (hy : (inr y0 && inr y1 && inr y2 && inr y3 && inr y4 && inr y5 && inr y6) = true) :
    SemF Tryd.prog Γ 7 [.agg [.si .i64 x0, .si .i64 x1, .si .i64 x2, .si .i64 x3, .si .i64 x4, .si .i64 x5, .si .i64 x6], .agg [.si .i64 y0, .si .i64 y1, .si .i64 y2, .si .i64 y3, .si .i64 y4, .si .i64 y5, .si .i64 y6]] [] [] (.sb true) [] [] := by
  obtain ⟨v1, s1⟩ := made_valid x0 x1 x2 x3 x4 x5 x6
  obtain ⟨v2, s2⟩ := made_valid y0 y1 y2 y3 y4 y5 y6
  have u2 := (made_num y0 y1 y2 y3 y4 y5 y6).2
  refine of_runL cfg47_ok (c7_run x0 x1 x2 x3 x4 x5 x6 y0 y1 y2 y3 y4 y5 y6) ?_ ?_
  all_goals
    generalize madeD x0 x1 x2 x3 x4 x5 x6 = X at *
    generalize madeD y0 y1 y2 y3 y4 y5 y6 = Y at *
  · have z1 : szE (aE X) (aC X) (aL X) := s1
    have z2 : szE (aE Y) (aC Y) (aL Y) := s2
    have sA : szE (aE X) (aC X) [] := ⟨z1.1, z1.2.1, Nat.zero_le _, fun q hq => nomatch hq⟩
    have sM : szM (aE Y) (aC Y) (keysN 20) := ⟨z2.1, z2.2.1, by rw [keysN_len]; decide⟩
    have g0 : decide (pre_sp0 0 (aU X) (aE X) (aC X) (aT X) (aK X) [] (aU Y) (aE Y) (aC Y) (aT Y) (aK Y) (aL Y) (aU Y) 0 (aE Y) (aC Y) 0 []) = true := decide_eq_true ⟨rfl, rfl, rfl⟩
    have g1 : decide (pre_sp1 false false 0 (aU X) (aE X) (aC X) (aT X) (aK X) [] (aU Y) (aE Y) (aC Y) (aT Y) (aK Y) (aL Y) (aU Y) 0 (aE Y) (aC Y) 20 (keysN 20)) = true := decide_eq_true ⟨rfl, (keysN_len 20).symm, sA, z2, sM⟩
    have g2 : decide (szX (noL X) ∧ szX Y) = true := decide_eq_true ⟨sA, s2⟩
    simp only [hx, hy, g0, g1, g2, Bool.or_true, Bool.and_true, Option.getD_some]
  · rw [sep X Y v1 v2 u2]
end L
end Go.Proofs.YthjiodeaepigmaaDoor


