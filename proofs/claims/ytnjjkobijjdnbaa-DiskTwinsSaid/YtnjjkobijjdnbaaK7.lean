/- Package disk: the law's own 'put': a loop that stores a string's bytes. -/
import Derived.Test.YtnjjkobijjdnbaaK6
set_option linter.unusedVariables false
set_option linter.unusedSimpArgs false
set_option maxRecDepth 100000
set_option maxHeartbeats 4000000
namespace Go.Proofs.Ytnjjkobijjdnbaa
open Go
/-- Slots that say less. -/
theorem setVs_imp {G : Gh} : ∀ (lv : List Nat) (vs vs' l l' : List V), vs.length = vs'.length → (∀ (j : Nat) v v', vs[j]? = some v → vs'[j]? = some v' → ∀ cv, VRel G v cv → VRel G v' cv) → l.length = l'.length → (∀ (j : Nat) v v', l[j]? = some v → l'[j]? = some v' → ∀ cv, VRel G v cv → VRel G v' cv) →
    (setVs lv vs l).length = (setVs lv vs' l').length ∧ ∀ (j : Nat) v v', (setVs lv vs l)[j]? = some v → (setVs lv vs' l')[j]? = some v' → ∀ cv, VRel G v cv → VRel G v' cv
  | [], vs, vs', l, l', _, _, h3, h4 => by simpa [setVs] using ⟨h3, h4⟩
  | d :: ds, [], vs', l, l', h1, _, h3, h4 => by
    have : vs' = [] := List.eq_nil_of_length_eq_zero (by simpa using h1.symm)
    subst this
    simpa [setVs] using ⟨h3, h4⟩
  | d :: ds, v :: vs, [], l, l', h1, _, h3, h4 => by simp at h1
  | d :: ds, v :: vs, v' :: vs', l, l', h1, h2, h3, h4 => by
    simp only [setVs]
    refine setVs_imp ds vs vs' (l.set d v) (l'.set d v') (by simpa using h1) (fun j u u' a b => h2 (j + 1) u u' (by simpa using a) (by simpa using b)) (by simpa using h3) (fun j u u' a b => ?_)
    rw [List.getElem?_set] at a b
    split at a
    · rename_i hj
      rw [if_pos hj] at b
      split at a
      · split at b
        · cases a; cases b; exact h2 0 v v' rfl rfl
        · cases b
      · cases a
    · rename_i hj
      rw [if_neg hj] at b
      exact h4 j u u' a b
theorem St.of_imp {Γ : Nat → Option V} {n : Nat} {lv : List Nat} {vs vs' : List V} {ob : Ob} {nm : Nm} {kh kt : Nat} (h1 : vs.length = vs'.length) (h2 : ∀ (G : Gh) (j : Nat) v v', vs[j]? = some v → vs'[j]? = some v' → ∀ cv, VRel G v cv → VRel G v' cv) :
    St.imp Γ (St.of n lv vs ob nm kh kt) (St.of n lv vs' ob nm kh kt) := fun G a w hr => by
  obtain ⟨e1, e2⟩ := setVs_imp (G := G) lv vs vs' (List.replicate n .any) (List.replicate n .any) h1 (h2 G) rfl (fun j v v' a b cv h => by rw [a] at b; cases b; exact h)
  refine ⟨⟨?_, fun j v cv hv hc => ?_⟩, hr.wr, hr.df, hr.kh, hr.kt⟩
  · have := hr.tm.1
    show a.tmps.toList.length = (setVs lv vs' (List.replicate n .any)).length
    rw [← e1]; exact this
  · have hv : (setVs lv vs' (List.replicate n .any))[j]? = some v := hv
    have hlt : j < (setVs lv vs (List.replicate n .any)).length := by
      rw [e1]
      rcases Nat.lt_or_ge j (setVs lv vs' (List.replicate n .any)).length with h | h
      · exact h
      · rw [List.getElem?_eq_none h] at hv; cases hv
    exact e2 j _ v (List.getElem?_eq_getElem hlt) hv cv (hr.tm.2 j _ cv (List.getElem?_eq_getElem hlt) hc)
namespace D
noncomputable def root (f : Nat) : Code := match Try.prog.funcs[f]? with | some fn => fn.body.getD .skip | none => .skip
noncomputable def lp (f i : Nat) : Code := ((loops (root f))[i]?).getD .skip
/-- A list into which a string's first bytes are laid. -/
def putN (l : List Int) (o : Nat) (s : ByteArray) (i : Nat) : List Int := l.take o ++ (bytesOf s).take i ++ l.drop (o + i)
theorem bytesOf_len (s : ByteArray) : (bytesOf s).length = s.size := by
  unfold bytesOf
  rw [List.length_map, Array.length_toList]
  rfl
theorem bytesOf_get {s : ByteArray} {i : Nat} (h : i < s.size) : (bytesOf s)[i]? = some (byteAt s i) := by
  have h' : i < s.data.size := h
  simp only [bytesOf, byteAt, List.getElem?_map, Option.map_eq_some_iff]
  refine ⟨s.data[i], by simp [h'], ?_⟩
  simp [Array.getD, h, h']
theorem putN_zero (l : List Int) (o : Nat) (s : ByteArray) : putN l o s 0 = l := by simp [putN]
theorem putN_len {l : List Int} {o i : Nat} {s : ByteArray} (h : o + s.size ≤ l.length) (hi : i ≤ s.size) : (putN l o s i).length = l.length := by
  simp only [putN, List.length_append, List.length_take, List.length_drop, bytesOf_len]; omega
theorem putN_step {l : List Int} {o i : Nat} {s : ByteArray} (h : o + s.size ≤ l.length) (hi : i < s.size) : (putN l o s i).set (o + i) (byteAt s i) = putN l o s (i + 1) := by
  apply List.ext_getElem?
  intro j
  have hb := bytesOf_len s
  have hg := bytesOf_get hi
  have m1 : min o l.length = o := by omega
  have m2 : min i s.size = i := by omega
  have m3 : min (i + 1) s.size = i + 1 := by omega
  rw [List.getElem?_set]
  simp only [putN, List.getElem?_append, List.getElem?_take, List.getElem?_drop, List.length_append, List.length_take, List.length_drop, hb, m1, m2, m3]
  by_cases e : o + i = j
  · subst e
    have h1 : ¬ (o + i < o) := by omega
    have h2 : o + i - o = i := by omega
    simp [h1, h2, hg]
    omega
  · simp only [e, if_false]
    repeat' split
    all_goals first
      | omega
      | rfl
      | (congr 1; omega)
/-- At the head of put's loop, within the law's round. -/
noncomputable def pst (len : Nat) (off i : Int) (s : ByteArray) (l : List Int) (o0 o1 o2 o3 o4 : Option (List V)) (n1 n2 n3 n4 : Option Bf) : St := St.of 21 [0, 1, 2, 6] [.bs true 0 0 len, .si .i64 off, .ss s, .si .i64 i] [o0, o1, o2, o3, o4] [some (.live (.arr (.int .u8) l)), n1, n2, n3, n4] 5 5
def lvp : Ex → List Nat | .normal => [0, 1, 2, 6] | _ => []
noncomputable def prd (len : Nat) (off i : Int) (s : ByteArray) (l : List Int) (o0 o1 o2 o3 o4 : Option (List V)) (n1 n2 n3 n4 : Option Bf) := outs lvp (evCK Try.prog G0 (cfM Try.prog G0 (cfg orc2 fun _ _ => none) 30) ((cfg orc2 fun _ _ => none).lo 27) [] 60 1 (lp 27 0) (pst len off i s l o0 o1 o2 o3 o4 n1 n2 n3 n4))
section
variable (len : Nat) (off i : Int) (s : ByteArray) (l : List Int) (o0 o1 o2 o3 o4 : Option (List V)) (n1 n2 n3 n4 : Option Bf)
theorem prd_go : (prd len off i s l o0 o1 o2 o3 o4 n1 n2 n3 n4).path [true, true, true, true] = some (.normal, [.bs true 0 0 len, .si .i64 off, .ss s, .si .i64 (IntKind.i64.wrap (i + 1))], [o0, o1, o2, o3, o4], [some (.live (.arr (.int .u8) (l.set (0 + (IntKind.i64.wrap (off + i)).toNat) (byteAt s i.toNat)))), n1, n2, n3, n4], 21, 5, 5) := by kernel_rfl
theorem prd_goC : (prd len off i s l o0 o1 o2 o3 o4 n1 n2 n3 n4).conds [true, true, true, true] = [decide (i < (s.size : Int)), decide (0 ≤ i ∧ i < (s.size : Int)), decide (0 ≤ IntKind.i64.wrap (off + i) ∧ IntKind.i64.wrap (off + i) < (len : Int)), decide (0 + (IntKind.i64.wrap (off + i)).toNat < l.length)] := by kernel_rfl
theorem prd_out : (prd len off i s l o0 o1 o2 o3 o4 n1 n2 n3 n4).path [false] = some (.exit 0, [], [o0, o1, o2, o3, o4], [some (.live (.arr (.int .u8) l)), n1, n2, n3, n4], 21, 5, 5) := by kernel_rfl
theorem prd_outC : (prd len off i s l o0 o1 o2 o3 o4 n1 n2 n3 n4).conds [false] = [decide (i < (s.size : Int))] := by kernel_rfl
end
theorem body27 : Try.f27.body = some (root 27) := by kernel_rfl
theorem lp27 : (loops (root 27))[0]? = some (lp 27 0) := by kernel_rfl
theorem lies27 : Lies (root 27) 1 (lp 27 0) := Lies.of_take (n := 0) (by kernel_rfl)
theorem put_loop (len : Nat) (off : Int) (s : ByteArray) (l : List Int) (o0 o1 o2 o3 o4 : Option (List V)) (n1 n2 n3 n4 : Option Bf) (h0 : 0 ≤ off) (h1 : off + s.size ≤ len) (h2 : len ≤ l.length) (h3 : len ≤ 4194304) :
    SemL Try.prog G0 (lp 27 0) (pst len off 0 s l o0 o1 o2 o3 o4 n1 n2 n3 n4) (.exit 0) (St.of 21 [] [] [o0, o1, o2, o3, o4] [some (.live (.arr (.int .u8) (putN l off.toNat s s.size))), n1, n2, n3, n4] 5 5) := by
  have hC := cfg_ok (wy := fun _ _ => none) orc2_ok
  have key := SemL.ind (P := Try.prog) (Γ := G0) (b := lp 27 0) (fun i : Nat => pst len off i s (putN l off.toNat s i) o0 o1 o2 o3 o4 n1 n2 n3 n4) (fun i => s.size - i) (fun _ => (.exit 0, St.of 21 [] [] [o0, o1, o2, o3, o4] [some (.live (.arr (.int .u8) (putN l off.toNat s s.size))), n1, n2, n3, n4] 5 5)) (fun i => i ≤ s.size) (fun i hi => by
    by_cases hlt : i < s.size
    · refine .inl ⟨i + 1, ?_, hlt, by omega, rfl⟩
      have hw : IntKind.i64.wrap (off + (i : Int)) = off + i := wrap_in (by omega) (by omega)
      have hw2 : IntKind.i64.wrap ((i : Int) + 1) = ((i + 1 : Nat) : Int) := by rw [wrap_in (by omega) (by omega)]; rfl
      have hr := Tr.run_path _ _ _ (prd_go len off i s (putN l off.toNat s i) o0 o1 o2 o3 o4 n1 n2 n3 n4) (by
        rw [prd_goC, hw]
        simp only [List.cons.injEq, and_true, decide_eq_true_eq, putN_len (l := l) (o := off.toNat) (s := s) (i := i) (by omega) hi]
        omega)
      have := SemC.of_evS hC Try.func27 body27 lies27 hr
      rw [hw, hw2, show 0 + (off + (i : Int)).toNat = off.toNat + i by omega, Int.toNat_natCast, putN_step (by omega) hlt] at this
      exact this
    · have e : i = s.size := by omega
      subst e
      refine .inr ⟨by simp [Ex.to], ?_⟩
      have hr := Tr.run_path _ _ _ (prd_out len off s.size s (putN l off.toNat s s.size) o0 o1 o2 o3 o4 n1 n2 n3 n4) (by rw [prd_outC]; simp)
      exact SemC.of_evS hC Try.func27 body27 lies27 hr) 0 (Nat.zero_le _)
  rw [putN_zero] at key
  exact key
/-- The entry of put's loop. -/
def putE : LEnt := ⟨21, [0, 1, 2, 6], fun kh kt vs ob nm =>
  match vs, ob, nm with
  | [.bs true 0 0 len, .si .i64 off, .ss s, .i .i64 z], [o0, o1, o2, o3, o4], [some (.live (.arr (.int .u8) l)), n1, n2, n3, n4] =>
    match Nat.beq kh 5, Nat.beq kt 5, decide (z = 0) with
    | true, true, true => some (.br (decide (0 ≤ off ∧ off + s.size ≤ len ∧ len ≤ l.length ∧ len ≤ 4194304)) (.leaf (some (.exit 0, St.of 21 [] [] [o0, o1, o2, o3, o4] [some (.live (.arr (.int .u8) (putN l off.toNat s s.size))), n1, n2, n3, n4] 5 5))) (.leaf none))
    | _, _, _ => none
  | _, _, _ => none⟩
def lo1 : LOrc := fun f i => match Nat.beq f 27, i with | true, 0 => some putE | _, _ => none
theorem putE_ok {kh kt : Nat} {vs : List V} {ob : Ob} {nm : Nm} {t : Tr (Ex × St)} {ex : Ex} {x : St} (h : putE.go kh kt vs ob nm = some t) (ht : t.run = some (ex, x)) : SemL Try.prog G0 (lp 27 0) (St.of putE.n putE.lv vs ob nm kh kt) ex.to x := by
  simp only [putE] at h
  split at h
  · rename_i len off s z o0 o1 o2 o3 o4 l n1 n2 n3 n4
    split at h
    · rename_i e1 e2 e3
      obtain rfl := Nat.eq_of_beq_eq_true e1
      obtain rfl := Nat.eq_of_beq_eq_true e2
      obtain rfl := of_decide_eq_true e3
      cases h
      simp only [Tr.run] at ht
      split at ht
      · rename_i hc
        obtain ⟨h0, h1, h2, h3⟩ := of_decide_eq_true hc
        cases ht
        refine (put_loop len off s l o0 o1 o2 o3 o4 n1 n2 n3 n4 h0 h1 h2 h3).pre (St.of_imp rfl ?_)
        intro G j v v' a b cv hv
        match j, a, b with
        | 0, a, b => simp at a b; subst a; subst b; exact hv
        | 1, a, b => simp at a b; subst a; subst b; exact hv
        | 2, a, b => simp at a b; subst a; subst b; exact hv
        | 3, a, b => simp at a b; subst a; subst b; cases hv; exact .si _ _
        | n + 4, a, b => simp at a
      · cases ht
    · cases h
  · cases h
theorem lo1_ok : LOrcOk Try.prog G0 lo1 := fun f i e h => by
  simp only [lo1] at h
  split at h
  · rename_i hf
    obtain rfl := Nat.eq_of_beq_eq_true hf
    cases h
    exact ⟨Try.f27, root 27, lp 27 0, Try.func27, body27, lp27, fun kh kt vs ob nm t ex s h1 h2 => putE_ok h1 h2⟩
  · cases h
end D
end Go.Proofs.Ytnjjkobijjdnbaa
