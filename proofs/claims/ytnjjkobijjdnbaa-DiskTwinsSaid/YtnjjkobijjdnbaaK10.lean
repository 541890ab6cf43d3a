/- Package disk: DiskReadsBack. -/
import Derived.Test.YtnjjkobijjdnbaaK9
set_option linter.unusedVariables false
set_option linter.unusedSimpArgs false
set_option maxRecDepth 100000
set_option maxHeartbeats 4000000
namespace Go.Proofs.Ytnjjkobijjdnbaa
open Go
/-- An object's cells said in other words. -/
theorem WRel.reOb {Γ : Nat → Option V} {G : Gh} {ob : Ob} {nm : Nm} {w : World} (h : WRel Γ G ob nm w) {o : Nat} {cs cs' : List V} (ho : ob[o]? = some (some cs)) (hl : cs'.length = cs.length) (hr : ∀ cvs, Rels G cs cvs → Rels G cs' cvs) : WRel Γ G (ob.set o (some cs')) nm w := by
  have hlt : o < ob.length := by
    rcases Nat.lt_or_ge o ob.length with h' | h'
    · exact h'
    · rw [List.getElem?_eq_none h'] at ho; cases ho
  exact { h with
    hob := fun o' c b h1 h2 => by
      by_cases e : o' = o
      · subst e
        rw [List.getElem?_set_self hlt] at h1
        cases h1
        obtain ⟨q1, ⟨cvs, E, fr, q3, q4, q5, q6⟩, q7⟩ := h.hob o' cs b ho h2
        exact ⟨q1, ⟨cvs, E, fr, q3, q4, by omega, by rw [hl]; exact hr _ q6⟩, q7⟩
      · rw [List.getElem?_set_ne (Ne.symm e)] at h1
        exact h.hob o' c b h1 h2
    hlt := fun o' b h1 => by simpa using h.hlt o' b h1
    habs := fun o' h1 => by
      by_cases e : o' = o
      · subst e; rw [List.getElem?_set_self hlt] at h1; cases h1
      · rw [List.getElem?_set_ne (Ne.symm e)] at h1; exact h.habs o' h1 }
theorem nil_bs {G : Gh} {k : Nat} {cv : Value} (h : VRel G (.lst .full []) cv) : VRel G (.bs true k 0 0) cv := by
  cases h with
  | lst0 => exact .bs0 _ _ _
  | @lst _ _ b off cap sz cvs h1 h2 h3 h4 h5 h6 =>
    have h6 : cap = 0 := h6
    subst h6
    exact .bs1 _ _ _ _ _
/-- A nil slice that an object holds, as an empty buffer. -/
theorem St.birthO {Γ : Nat → Option V} {kh kt n : Nat} {lv : List Nat} {vs : List V} {ob : Ob} {nm : Nm} (o k : Nat) {cs : List V} (ho : ob[o]? = some (some cs)) (hk : cs[k]? = some (.lst .full [])) {c : BC} (hc : c.len = 0) :
    St.imp Γ (St.of n lv vs ob nm kh kt) (St.of n lv vs (ob.set o (some (cs.set k (.bs true nm.length 0 0)))) (nm ++ [some (.live c)]) kh kt) := by
  intro G a w hr
  refine ⟨hr.tm, ?_, hr.df, hr.kh, hr.kt⟩
  have h1 := hr.wr.padded 0 1
  simp only [List.replicate_zero, List.append_nil] at h1
  have h2 := h1.unborn (s := nm.length) (by simp [St.of]) hc
  have e : (nm ++ List.replicate 1 none).set nm.length (some (Bf.live c)) = nm ++ [some (.live c)] := by simp
  have h3 : WRel Γ G ob (nm ++ [some (.live c)]) w := by rw [← e]; exact h2
  exact h3.reOb ho (by simp) fun cvs hq => ⟨by simpa using hq.1, fun j v cv hv hcv => by
    rw [List.getElem?_set] at hv
    split at hv
    · rename_i hj
      subst hj
      split at hv
      · cases hv; exact nil_bs (hq.2 k _ cv hk hcv)
      · cases hv
    · exact hq.2 j v cv hv hcv⟩
namespace D
def eqL (x y : List Int) : Bool := decide (x = y)
theorem eqL_eq {x y : List Int} (h : eqL x y = true) : x = y := of_decide_eq_true h
/-- The entry of the law's loop. -/
def rbE : LEnt := ⟨79, [0, 1, 5, 6, 8, 9], fun kh kt vs ob nm =>
  match vs, ob, nm with
  | [.si .i64 n, .slst .ro (.agg [.int .i64, .str, .bool]) l, .b true, .ptr 0 0, .bs true 0 0 n0, .i .i64 z], [some [.b false, .i .i64 y, .bs true 1 0 n1, .bs true 2 0 n2, .lst .full []]], [some (.live (.arr (.int .u8) b)), some (.live (.arr (.int .u8) dur)), some (.live (.arr (.int .u8) vis))] =>
    match Nat.beq kh 0, Nat.beq kt 0, decide (z = 0), decide (y = 0) with
    | true, true, true, true => some (.br (decide (n0 = n.toNat ∧ n1 = n.toNat ∧ n2 = n.toNat ∧ 1 ≤ n ∧ n ≤ 300 ∧ b.length = n.toNat ∧ dur.length = n.toNat) && eqL vis b && (show List (Ty.den wt) from l).all fun w => inr (wO w)) (.leaf (some (.exit 0, St.of 79 [5] [.b true] [] []))) (.leaf none))
    | _, _, _, _ => none
  | _, _, _ => none⟩
theorem rbE_ok {kh kt : Nat} {vs : List V} {ob : Ob} {nm : Nm} {t : Tr (Ex × St)} {ex : Ex} {x : St} (h : rbE.go kh kt vs ob nm = some t) (ht : t.run = some (ex, x)) : SemL Try.prog G0 (lp 6 0) (St.of rbE.n rbE.lv vs ob nm kh kt) ex.to x := by
  simp only [rbE] at h
  split at h
  · rename_i n l n0 z y n1 n2 b dur vis
    split at h
    · rename_i e1 e2 e3 e4
      obtain rfl := Nat.eq_of_beq_eq_true e1
      obtain rfl := Nat.eq_of_beq_eq_true e2
      obtain rfl := of_decide_eq_true e3
      obtain rfl := of_decide_eq_true e4
      cases h
      simp only [Tr.run] at ht
      split at ht
      · rename_i hc
        rw [Bool.and_eq_true, Bool.and_eq_true, decide_eq_true_eq] at hc
        obtain ⟨⟨⟨rfl, rfl, rfl, h1, h2, h3, h4⟩, h5⟩, h6⟩ := hc
        have h5 : vis = b := eqL_eq h5
        subst h5
        cases ht
        have hl : ∀ w ∈ (show List (Ty.den wt) from l), inr (wO w) = true := fun w hw => List.all_eq_true.1 h6 w hw
        have key := rb_loop n h1 h2 l hl ⟨0, dur, vis, [], 0⟩ ⟨Nat.zero_le _, Nat.zero_le _, h4, h3, Nat.le_refl _⟩
        have key2 : SemL Try.prog G0 (lp 6 0) (St.of 79 [0, 1, 5, 6, 8, 9] [.si .i64 n, .slst .ro wt l, .b true, .ptr 0 0, .bs true 0 0 n.toNat, .i .i64 0] [some [.b false, .i .i64 0, .bs true 1 0 n.toNat, .bs true 2 0 n.toNat, .bs true 3 0 0]] [some (.live (.arr (.int .u8) vis)), some (.live (.arr (.int .u8) dur)), some (.live (.arr (.int .u8) vis)), some (.live (.arr wp []))] 0 0) (Ex.exit 0).to (St.of 79 [5] [.b true] [] []) := by
          refine key.pre (St.of_imp rfl ?_)
          intro G j v v' a b cv hv
          match j, a, b with
          | 0, a, b => simp at a b; subst a; subst b; exact hv
          | 1, a, b => simp at a b; subst a; subst b; exact hv
          | 2, a, b => simp at a b; subst a; subst b; exact hv
          | 3, a, b => simp at a b; subst a; subst b; exact hv
          | 4, a, b => simp at a b; subst a; subst b; exact hv
          | 5, a, b => simp at a b; subst a; subst b; cases hv; exact .si _ _
          | n + 6, a, b => simp at a
        exact key2.pre (St.birthO (Γ := G0) (kh := 0) (kt := 0) (n := 79) (lv := [0, 1, 5, 6, 8, 9]) (vs := [.si .i64 n, .slst .ro wt l, .b true, .ptr 0 0, .bs true 0 0 n.toNat, .i .i64 0]) (ob := [some [.b false, .i .i64 0, .bs true 1 0 n.toNat, .bs true 2 0 n.toNat, .lst .full []]])
          (nm := [some (.live (.arr (.int .u8) vis)), some (.live (.arr (.int .u8) dur)), some (.live (.arr (.int .u8) vis))]) (c := .arr wp []) 0 4 rfl rfl rfl)
      · cases ht
    · cases h
  · cases h
theorem lp6' : (loops (root 6))[0]? = some (lp 6 0) := lp6
def lo2 : LOrc := fun f i => match Nat.beq f 6, i with | true, 0 => some rbE | _, _ => lo1 f i
theorem lo2_ok : LOrcOk Try.prog G0 lo2 := fun f i e h => by
  simp only [lo2] at h
  split at h
  · rename_i hf
    obtain rfl := Nat.eq_of_beq_eq_true hf
    cases h
    exact ⟨Try.f6, root 6, lp 6 0, Try.func6, body6, lp6, fun kh kt vs ob nm t ex s h1 h2 => rbE_ok h1 h2⟩
  · exact lo1_ok _ _ _ h
def wy7 : FuncId → List V → Option (List Bool) := fun f _ => match Nat.beq f 21, Nat.beq f 13 with | true, _ => some [false, true, true] | _, true => some [false, false, true, true] | _, _ => none
noncomputable def cfgS : Cfg := { cfgR wy7 with lo := lo2 }
theorem cfgS_ok : CfgOk Try.prog G0 cfgS := { cfgR_ok wy7 with lo := lo2_ok }
end D
end Go.Proofs.Ytnjjkobijjdnbaa
