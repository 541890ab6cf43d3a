/- Parts of the library of texts, one after the other: K1, K2, K6, K7, K8, K9, K10, K11, K12, K13, K14, K15, K16, K17, K18, K20. -/
import Derived.Test.YtnjjkobijjdnbaaM10g
import Derived.Test.YtnjjkobijjdnbaaM10i
import Derived.Test.YtnjjkobijjdnbaaProg
/- Package disk: what its calls come to; the fixed examples of 'sane'. -/
set_option linter.unusedVariables false
set_option linter.unusedSimpArgs false
set_option maxRecDepth 100000
set_option maxHeartbeats 4000000
namespace Go.Proofs.Ytnjjkobijjdnbaa
open Go
namespace D
def G0 : Nat → Option V := fun _ => none
/-- The functions that are reckoned with memory. -/
def mems : List Nat := [13, 21, 23, 24, 25, 36, 37, 35, 39, 40, 38, 41, 45, 46, 49, 50, 52]
noncomputable def cfg (orc : Orc) (wy : FuncId → List V → Option (List Bool)) : Cfg := ⟨orc, fun _ => false, fun _ _ _ _ => none, fun _ _ => none, fun _ => [], fun f => mems.any (Nat.beq f), 60, wy⟩
theorem cfg_ok {orc : Orc} {wy : FuncId → List V → Option (List Bool)} (h : OrcOk Try.prog G0 orc) : CfgOk Try.prog G0 (cfg orc wy) where
  orc := h
  om := fun f args ob nm out h => by cases h
  fit := ⟨(fun f args ob nm out h => by cases h), (fun f args ob nm out h => by cases h)⟩
  lo := fun f i e h => by cases h
  mixed := by kernel_rfl
noncomputable def run (C : Cfg) (f : FuncId) (args : List V) : MRes := mergeT (evFK Try.prog G0 (cfM Try.prog G0 C 30) C.lo [] 60 f args [] [])
theorem of_run {C : Cfg} (hC : CfgOk Try.prog G0 C) {f : FuncId} {args : List V} {c : Option Bool} {v v' : V} (h : run C f args = .ok c v) (hc : c.getD true = true) (hv : v = v') : SemF Try.prog G0 f args [] [] v' [] [] := SemF.of_evM hC h hc hv
def none0 : Orc := fun _ _ => none
theorem none0_ok : OrcOk Try.prog G0 none0 := fun f args c v h => by cases h
theorem sane_run : run (cfg none0 fun _ _ => none) 12 [] = .ok none (.b true) := by kernel_rfl
theorem sane_ok : SemF Try.prog G0 12 [] [] [] (.b true) [] [] := of_run (cfg_ok none0_ok) sane_run rfl rfl
end D
end Go.Proofs.Ytnjjkobijjdnbaa

/- Package disk: an index out of any number; a new disk. -/
set_option linter.unusedVariables false
set_option linter.unusedSimpArgs false
set_option maxRecDepth 100000
set_option maxHeartbeats 4000000
namespace Go.Proofs.Ytnjjkobijjdnbaa
open Go
namespace D
def inr (n : Int) : Bool := decide (-9223372036854775808 ≤ n ∧ n ≤ 9223372036854775807)
theorem wrap_in {n : Int} (h1 : -9223372036854775808 ≤ n) (h2 : n ≤ 9223372036854775807) : IntKind.i64.wrap n = n := by
  have e1 : (2 : Int) ^ 64 = 18446744073709551616 := rfl
  have e2 : (2 : Int) ^ (64 - 1) = 9223372036854775808 := rfl
  simp only [IntKind.wrap, IntKind.signed, IntKind.bits, Bool.true_and, decide_eq_true_eq, e1, e2]
  split <;> omega
/-- An index from 0 to n-1. -/
def pickD (k n : Int) : Int := if k < 0 then (-(k + 1)).tmod n else k.tmod n
theorem pickD_lt {k n : Int} (h : 0 < n) : 0 ≤ pickD k n ∧ pickD k n < n := by
  unfold pickD
  split
  · exact ⟨Int.tmod_nonneg _ (by omega), Int.tmod_lt_of_pos _ h⟩
  · exact ⟨Int.tmod_nonneg _ (by omega), Int.tmod_lt_of_pos _ h⟩
theorem pick_run (k n : Int) : run (cfg none0 fun _ _ => none) 15 [.si .i64 k, .si .i64 n] = .ok (some (bif decide (k < 0) then decide (n ≠ 0) else decide (n ≠ 0))) (.si .i64 (bif decide (k < 0) then (IntKind.i64.wrap (0 - IntKind.i64.wrap (k + 1))).tmod n else k.tmod n)) := by kernel_rfl
theorem pick_ok (k n : Int) (hk : inr k = true) (hn : n ≠ 0) : SemF Try.prog G0 15 [.si .i64 k, .si .i64 n] [] [] (.si .i64 (pickD k n)) [] [] := by
  refine of_run (cfg_ok none0_ok) (pick_run k n) (by simp [hn]) ?_
  have hk := of_decide_eq_true hk
  unfold pickD
  by_cases h : k < 0
  · rw [wrap_in (n := k + 1) (by omega) (by omega), wrap_in (by omega) (by omega)]
    simp [h, Int.neg_add]
  · simp [h]
def pickE (k n : Int) : Option Bool × V := (some (inr k && decide (n ≠ 0)), .si .i64 (pickD k n))
theorem pick_of (k n : Int) (h : (pickE k n).1.getD true = true) : SemF Try.prog G0 15 [.si .i64 k, .si .i64 n] [] [] (pickE k n).2 [] [] := by
  have h : (inr k && decide (n ≠ 0)) = true := h
  simp only [Bool.and_eq_true, decide_eq_true_eq] at h
  exact pick_ok k n h.1 h.2
/-- The table with 'sane' and 'pick'. -/
noncomputable def orc1 : Orc := fun f args => if f = 15 then (Ty.ofVs [.int .i64, .int .i64] args).map (fun x => pickE x.1 x.2.1) else (fun f args => if f = 12 then (Ty.ofVs [] args).map (fun _ => (none, .b true)) else none0 f args) f args
theorem orc1_ok : OrcOk Try.prog G0 orc1 :=
  (none0_ok.plain 12 [] (fun _ => (none, .b true)) Try.f12 Try.func12 rfl (by kernel_rfl) (fun x _ => sane_ok)).plain 15 [.int .i64, .int .i64] (fun x => pickE x.1 x.2.1) Try.f15 Try.func15 rfl (by kernel_rfl)
    (fun ⟨k, n, _⟩ hx => pick_of k n hx)
end D
end Go.Proofs.Ytnjjkobijjdnbaa

/- Package disk: a write that fits, and what is read. -/
set_option linter.unusedVariables false
set_option linter.unusedSimpArgs false
set_option maxRecDepth 100000
set_option maxHeartbeats 4000000
namespace Go.Proofs.Ytnjjkobijjdnbaa
open Go
namespace D
def wt : Ty := .agg [.int .i64, .str, .bool]
def wp : Ty := .agg [.int .i64, .str]
theorem fits_run (o n : Int) (s : ByteArray) (y : Bool) : run (cfg orc1 fun _ _ => none) 26 [.agg [.si .i64 o, .ss s, .sb y], .si .i64 n] = .ok (some (inr o && decide ((IntKind.i64.wrap (n + 1)) ≠ 0) && decide ((0 : Int) ≤ 0 ∧ 0 ≤ Bd.hi (some (IntKind.i64, if IntKind.i64.wrap (n - pickD o (IntKind.i64.wrap (n + 1))) < (Nat.cast (s.size) : Int) then IntKind.i64.wrap (n - pickD o (IntKind.i64.wrap (n + 1))) else (Nat.cast (s.size) : Int), true)) s.size ∧ Bd.hi (some (IntKind.i64, if IntKind.i64.wrap (n - pickD o (IntKind.i64.wrap (n + 1))) < (Nat.cast (s.size) : Int) then IntKind.i64.wrap (n - pickD o (IntKind.i64.wrap (n + 1))) else (Nat.cast (s.size) : Int), true)) s.size ≤ (Nat.cast (s.size) : Int)))) (V.agg [V.si IntKind.i64 (pickD o (IntKind.i64.wrap (n + 1))), V.ss (s.extract 0 (Bd.hi (some (IntKind.i64, if IntKind.i64.wrap (n - pickD o (IntKind.i64.wrap (n + 1))) < (Nat.cast (s.size) : Int) then IntKind.i64.wrap (n - pickD o (IntKind.i64.wrap (n + 1))) else (Nat.cast (s.size) : Int), true)) s.size).toNat), V.sb y]) := by kernel_rfl
theorem read_run (d v : List Int) (q : List (Ty.den wp)) (n : Int) : run (cfg orc1 fun _ _ => none) 14 [.pel [.agg [.b false, .i .i64 0, .slst .ro (.int .u8) d, .slst .ro (.int .u8) v, .slst .ro wp q]] 0 0, .i .i64 0, .si .i64 n] = .ok (some ((!bif decide (n ≥ 0) then bif decide (0 ≤ (Nat.cast (d.length) : Int)) then decide (n ≤ IntKind.i64.wrap ((Nat.cast (d.length) : Int) - 0)) else false else false) || decide ((0 : Int) ≤ 0 ∧ 0 ≤ Bd.hi none v.length ∧ Bd.hi none v.length ≤ (Nat.cast (v.length) : Int)) && decide ((0 : Int) ≤ 0 ∧ 0 ≤ Bd.hi (some (IntKind.i64, n, true)) (List.drop 0 (List.take (Bd.hi none v.length).toNat v)).length ∧ Bd.hi (some (IntKind.i64, n, true)) (List.drop 0 (List.take (Bd.hi none v.length).toNat v)).length ≤ (Nat.cast ((List.drop 0 (List.take (Bd.hi none v.length).toNat v)).length) : Int)))) (V.tup [V.ss (bif !bif decide (n ≥ 0) then bif decide (0 ≤ (Nat.cast (d.length) : Int)) then decide (n ≤ IntKind.i64.wrap ((Nat.cast (d.length) : Int) - 0)) else false else false then (ByteArray.mk #[]) else strOfNums (cast rfl (List.drop 0 (List.take (Bd.hi (some (IntKind.i64, n, true)) (List.drop 0 (List.take (Bd.hi none v.length).toNat v)).length).toNat (List.drop 0 (List.take (Bd.hi none v.length).toNat v)))))), V.si IntKind.i64 (bif !bif decide (n ≥ 0) then bif decide (0 ≤ (Nat.cast (d.length) : Int)) then decide (n ≤ IntKind.i64.wrap ((Nat.cast (d.length) : Int) - 0)) else false else false then (330 : Int) else (0 : Int))]) := by kernel_rfl
/-- Where a write is laid, and what of it. -/
def fo (o n : Int) : Int := pickD o (n + 1)
def fs (s : ByteArray) (o n : Int) : ByteArray := s.extract 0 (min (n - fo o n) s.size).toNat
theorem fo_in {o n : Int} (h : 0 ≤ n) : 0 ≤ fo o n ∧ fo o n ≤ n := by
  have := pickD_lt (k := o) (n := n + 1) (by omega)
  unfold fo; omega
theorem fs_size {s : ByteArray} {o n : Int} (h : 0 ≤ n) : (fs s o n).size ≤ n - fo o n := by
  have := fo_in (o := o) h
  simp only [fs, ByteArray.size_extract]
  omega
def fitsE (o n : Int) (s : ByteArray) (y : Bool) : Option Bool × V := (some (inr o && decide (0 ≤ n ∧ n ≤ 4194304)), .agg [.si .i64 (fo o n), .ss (fs s o n), .sb y])
theorem fits_ok (o n : Int) (s : ByteArray) (y : Bool) (h : (fitsE o n s y).1.getD true = true) : SemF Try.prog G0 26 [.agg [.si .i64 o, .ss s, .sb y], .si .i64 n] [] [] (fitsE o n s y).2 [] [] := by
  have h : (inr o && decide (0 ≤ n ∧ n ≤ 4194304)) = true := h
  rw [Bool.and_eq_true, decide_eq_true_eq] at h
  obtain ⟨h1, h2, h3⟩ := h
  have hw : IntKind.i64.wrap (n + 1) = n + 1 := wrap_in (by omega) (by omega)
  obtain ⟨p1, p2⟩ := pickD_lt (k := o) (n := n + 1) (by omega)
  have hw2 : IntKind.i64.wrap (n - pickD o (n + 1)) = n - pickD o (n + 1) := wrap_in (by omega) (by omega)
  have hm : (if n - pickD o (n + 1) < (s.size : Int) then n - pickD o (n + 1) else (s.size : Int)) = min (n - pickD o (n + 1)) s.size := by
    rw [Int.min_def]; split <;> split <;> omega
  refine of_run (cfg_ok orc1_ok) (fits_run o n s y) ?_ ?_
  · simp only [hw, hw2, Bd.hi, hm, h1, Option.getD_some, Bool.and_eq_true, decide_eq_true_eq]
    refine ⟨⟨trivial, by omega⟩, by omega, by omega, by omega⟩
  · simp only [hw, hw2, Bd.hi, hm, fitsE, fo, fs]
def readE (d v : List Int) (n : Int) : Option Bool × V := (some (decide (0 ≤ n ∧ n ≤ d.length ∧ n ≤ v.length ∧ d.length ≤ 4194304)), .tup [.ss (strOfNums (v.take n.toNat)), .si .i64 0])
theorem read_ok (d v : List Int) (q : List (Ty.den wp)) (n : Int) (h : (readE d v n).1.getD true = true) : SemF Try.prog G0 14 [.pel [.agg [.b false, .i .i64 0, .slst .ro (.int .u8) d, .slst .ro (.int .u8) v, .slst .ro wp q]] 0 0, .i .i64 0, .si .i64 n] [] [] (readE d v n).2 [] [] := by
  obtain ⟨h1, h2, h3, h4⟩ := of_decide_eq_true (show decide _ = true from h)
  have hw : IntKind.i64.wrap ((Nat.cast d.length : Int) - 0) = d.length := by rw [Int.sub_zero]; exact wrap_in (by omega) (by omega)
  have a1 : decide (n ≥ 0) = true := by simpa using h1
  have a2 : decide (0 ≤ (Nat.cast d.length : Int)) = true := by simp
  have a3 : decide (n ≤ (Nat.cast d.length : Int)) = true := by simpa using h2
  refine of_run (cfg_ok orc1_ok) (read_run d v q n) ?_ ?_
  · simp only [hw, Bd.hi, a1, a2, a3, cond_true, Bool.not_true, Bool.false_or, Option.getD_some, Bool.and_eq_true, decide_eq_true_eq, List.drop_zero, List.length_take, Int.toNat_natCast, Nat.min_self]
    exact ⟨decide_eq_true ⟨by omega, by omega, by omega⟩, by omega, by omega, by omega⟩
  · simp only [hw, Bd.hi, a1, a2, a3, cond_true, Bool.not_true, cond_false, List.drop_zero, Int.toNat_natCast, List.take_length, readE]
    rfl
/-- An entry of the table by a shape. -/
theorem orcPat {orc : Orc} {A : Type} (h : OrcOk Try.prog G0 orc) (f0 : FuncId) (pat : List V → Option A) (emb : A → List V) (hp : ∀ args a, pat args = some a → args = emb a) (g : A → Option Bool × V) (fn : Func) (hf : Try.prog.funcs[f0]? = some fn) (hb : fn.body.isSome = true) (hn : (fn.name == "runtime.NumGoroutine") = false)
    (hg : ∀ a, (g a).1.getD true = true → SemF Try.prog G0 f0 (emb a) [] [] (g a).2 [] []) : OrcOk Try.prog G0 (fun f args => match Nat.beq f f0 with | true => (pat args).map g | false => orc f args) := by
  intro f args c v hv hc
  simp only at hv
  split at hv
  · rename_i he
    obtain rfl := Nat.eq_of_beq_eq_true he
    rw [Option.map_eq_some_iff] at hv
    obtain ⟨x, hx, hgx⟩ := hv
    have hs := hg x (by rw [hgx]; exact hc)
    rw [hgx] at hs
    rw [hp args x hx]
    exact ⟨hs, fn, hf, hb, hn⟩
  · exact h f args c v hv hc
def fitsP : List V → Option (Int × Int × ByteArray × Bool)
  | [.agg [.si .i64 o, .ss s, .sb y], .si .i64 n] => some (o, n, s, y)
  | _ => none
def readP : List V → Option (List Int × List Int × List (Ty.den wp) × Int)
  | [.pel [.agg [.b false, .i .i64 l, .slst .ro (.int .u8) d, .slst .ro (.int .u8) v, .slst .ro (.agg [.int .i64, .str]) q]] 0 0, .i .i64 o, .si .i64 n] => if l = 0 ∧ o = 0 then some (d, v, q, n) else none
  | _ => none
noncomputable def orc2 : Orc := fun f args => match Nat.beq f 14 with | true => (readP args).map (fun a => readE a.1 a.2.1 a.2.2.2) | false => (fun f args => match Nat.beq f 26 with | true => (fitsP args).map (fun a => fitsE a.1 a.2.1 a.2.2.1 a.2.2.2) | false => orc1 f args) f args
theorem orc2_ok : OrcOk Try.prog G0 orc2 :=
  orcPat (orcPat orc1_ok 26 fitsP (fun a => [.agg [.si .i64 a.1, .ss a.2.2.1, .sb a.2.2.2], .si .i64 a.2.1]) (fun args a h => by
      unfold fitsP at h
      split at h
      · cases h; rfl
      · cases h) _ Try.f26 Try.func26 rfl (by kernel_rfl) (fun a h => fits_ok _ _ _ _ h))
    14 readP (fun a => [.pel [.agg [.b false, .i .i64 0, .slst .ro (.int .u8) a.1, .slst .ro (.int .u8) a.2.1, .slst .ro wp a.2.2.1]] 0 0, .i .i64 0, .si .i64 a.2.2.2]) (fun args a h => by
      unfold readP at h
      split at h
      · split at h
        · rename_i hc
          obtain ⟨rfl, rfl⟩ := hc
          cases h; rfl
        · cases h
      · cases h) _ Try.f14 Try.func14 rfl (by kernel_rfl) (fun a h => read_ok _ _ _ _ h)
end D
end Go.Proofs.Ytnjjkobijjdnbaa

/- Package disk: the law's own 'put': a loop that stores a string's bytes. -/
set_option linter.unusedVariables false
set_option linter.unusedSimpArgs false
set_option maxRecDepth 100000
set_option maxHeartbeats 4000000
namespace Go.Proofs.Ytnjjkobijjdnbaa
open Go
/-- Slots that say less. -/
theorem setVs_imp {G : Gh} : ∀ (lv : List Nat) (vs vs' l l' : List V), vs.length = vs'.length → (∀ (j : Nat) v v', vs[j]? = some v → vs'[j]? = some v' → ∀ cv, VRel G v cv → VRel G v' cv) → l.length = l'.length → (∀ (j : Nat) v v', l[j]? = some v → l'[j]? = some v' → ∀ cv, VRel G v cv → VRel G v' cv) →
    (setVs lv vs l).length = (setVs lv vs' l').length ∧ ∀ (j : Nat) v v', (setVs lv vs l)[j]? = some v → (setVs lv vs' l')[j]? = some v' → ∀ cv, VRel G v cv → VRel G v' cv
  | [], vs, vs', l, l', _, _, h3, h4 => by simpa [setVs] using ⟨h3, h4⟩
  | d :: ds, [], vs', l, l', h1, _, h3, h4 => by
    have : vs' = [] := List.eq_nil_of_length_eq_zero (by simpa using h1.symm)
    subst this
    simpa [setVs] using ⟨h3, h4⟩
  | d :: ds, v :: vs, [], l, l', h1, _, h3, h4 => by simp at h1
  | d :: ds, v :: vs, v' :: vs', l, l', h1, h2, h3, h4 => by
    simp only [setVs]
    refine setVs_imp ds vs vs' (l.set d v) (l'.set d v') (by simpa using h1) (fun j u u' a b => h2 (j + 1) u u' (by simpa using a) (by simpa using b)) (by simpa using h3) (fun j u u' a b => ?_)
    rw [List.getElem?_set] at a b
    split at a
    · rename_i hj
      rw [if_pos hj] at b
      split at a
      · split at b
        · cases a; cases b; exact h2 0 v v' rfl rfl
        · cases b
      · cases a
    · rename_i hj
      rw [if_neg hj] at b
      exact h4 j u u' a b
theorem St.of_imp {Γ : Nat → Option V} {n : Nat} {lv : List Nat} {vs vs' : List V} {ob : Ob} {nm : Nm} {kh kt : Nat} (h1 : vs.length = vs'.length) (h2 : ∀ (G : Gh) (j : Nat) v v', vs[j]? = some v → vs'[j]? = some v' → ∀ cv, VRel G v cv → VRel G v' cv) :
    St.imp Γ (St.of n lv vs ob nm kh kt) (St.of n lv vs' ob nm kh kt) := fun G a w hr => by
  obtain ⟨e1, e2⟩ := setVs_imp (G := G) lv vs vs' (List.replicate n .any) (List.replicate n .any) h1 (h2 G) rfl (fun j v v' a b cv h => by rw [a] at b; cases b; exact h)
  refine ⟨⟨?_, fun j v cv hv hc => ?_⟩, hr.wr, hr.df, hr.kh, hr.kt⟩
  · have := hr.tm.1
    show a.tmps.toList.length = (setVs lv vs' (List.replicate n .any)).length
    rw [← e1]; exact this
  · have hv : (setVs lv vs' (List.replicate n .any))[j]? = some v := hv
    have hlt : j < (setVs lv vs (List.replicate n .any)).length := by
      rw [e1]
      rcases Nat.lt_or_ge j (setVs lv vs' (List.replicate n .any)).length with h | h
      · exact h
      · rw [List.getElem?_eq_none h] at hv; cases hv
    exact e2 j _ v (List.getElem?_eq_getElem hlt) hv cv (hr.tm.2 j _ cv (List.getElem?_eq_getElem hlt) hc)
namespace D
noncomputable def root (f : Nat) : Code := match Try.prog.funcs[f]? with | some fn => fn.body.getD .skip | none => .skip
noncomputable def lp (f i : Nat) : Code := ((loops (root f))[i]?).getD .skip
/-- A list into which a string's first bytes are laid. -/
def putN (l : List Int) (o : Nat) (s : ByteArray) (i : Nat) : List Int := l.take o ++ (bytesOf s).take i ++ l.drop (o + i)
theorem bytesOf_len (s : ByteArray) : (bytesOf s).length = s.size := by
  unfold bytesOf
  rw [List.length_map, Array.length_toList]
  rfl
theorem bytesOf_get {s : ByteArray} {i : Nat} (h : i < s.size) : (bytesOf s)[i]? = some (byteAt s i) := by
  have h' : i < s.data.size := h
  simp only [bytesOf, byteAt, List.getElem?_map, Option.map_eq_some_iff]
  refine ⟨s.data[i], by simp [h'], ?_⟩
  simp [Array.getD, h, h']
theorem putN_zero (l : List Int) (o : Nat) (s : ByteArray) : putN l o s 0 = l := by simp [putN]
theorem putN_len {l : List Int} {o i : Nat} {s : ByteArray} (h : o + s.size ≤ l.length) (hi : i ≤ s.size) : (putN l o s i).length = l.length := by
  simp only [putN, List.length_append, List.length_take, List.length_drop, bytesOf_len]; omega
theorem putN_step {l : List Int} {o i : Nat} {s : ByteArray} (h : o + s.size ≤ l.length) (hi : i < s.size) : (putN l o s i).set (o + i) (byteAt s i) = putN l o s (i + 1) := by
  apply List.ext_getElem?
  intro j
  have hb := bytesOf_len s
  have hg := bytesOf_get hi
  have m1 : min o l.length = o := by omega
  have m2 : min i s.size = i := by omega
  have m3 : min (i + 1) s.size = i + 1 := by omega
  rw [List.getElem?_set]
  simp only [putN, List.getElem?_append, List.getElem?_take, List.getElem?_drop, List.length_append, List.length_take, List.length_drop, hb, m1, m2, m3]
  by_cases e : o + i = j
  · subst e
    have h1 : ¬ (o + i < o) := by omega
    have h2 : o + i - o = i := by omega
    simp [h1, h2, hg]
    omega
  · simp only [e, if_false]
    repeat' split
    all_goals first
      | omega
      | rfl
      | (congr 1; omega)
/-- At the head of put's loop, within the law's round. -/
noncomputable def pst (len : Nat) (off i : Int) (s : ByteArray) (l : List Int) (o0 o1 o2 o3 o4 : Option (List V)) (n1 n2 n3 n4 : Option Bf) : St := St.of 21 [0, 1, 2, 6] [.bs true 0 0 len, .si .i64 off, .ss s, .si .i64 i] [o0, o1, o2, o3, o4] [some (.live (.arr (.int .u8) l)), n1, n2, n3, n4] 5 5
def lvp : Ex → List Nat | .normal => [0, 1, 2, 6] | _ => []
noncomputable def prd (len : Nat) (off i : Int) (s : ByteArray) (l : List Int) (o0 o1 o2 o3 o4 : Option (List V)) (n1 n2 n3 n4 : Option Bf) := outs lvp (evCK Try.prog G0 (cfM Try.prog G0 (cfg orc2 fun _ _ => none) 30) ((cfg orc2 fun _ _ => none).lo 27) [] 60 1 (lp 27 0) (pst len off i s l o0 o1 o2 o3 o4 n1 n2 n3 n4))
section
variable (len : Nat) (off i : Int) (s : ByteArray) (l : List Int) (o0 o1 o2 o3 o4 : Option (List V)) (n1 n2 n3 n4 : Option Bf)
theorem prd_go : (prd len off i s l o0 o1 o2 o3 o4 n1 n2 n3 n4).path [true, true, true, true] = some (.normal, [.bs true 0 0 len, .si .i64 off, .ss s, .si .i64 (IntKind.i64.wrap (i + 1))], [o0, o1, o2, o3, o4], [some (.live (.arr (.int .u8) (l.set (0 + (IntKind.i64.wrap (off + i)).toNat) (byteAt s i.toNat)))), n1, n2, n3, n4], 21, 5, 5) := by kernel_rfl
theorem prd_goC : (prd len off i s l o0 o1 o2 o3 o4 n1 n2 n3 n4).conds [true, true, true, true] = [decide (i < (s.size : Int)), decide (0 ≤ i ∧ i < (s.size : Int)), decide (0 ≤ IntKind.i64.wrap (off + i) ∧ IntKind.i64.wrap (off + i) < (len : Int)), decide (0 + (IntKind.i64.wrap (off + i)).toNat < l.length)] := by kernel_rfl
theorem prd_out : (prd len off i s l o0 o1 o2 o3 o4 n1 n2 n3 n4).path [false] = some (.exit 0, [], [o0, o1, o2, o3, o4], [some (.live (.arr (.int .u8) l)), n1, n2, n3, n4], 21, 5, 5) := by kernel_rfl
theorem prd_outC : (prd len off i s l o0 o1 o2 o3 o4 n1 n2 n3 n4).conds [false] = [decide (i < (s.size : Int))] := by kernel_rfl
end
theorem body27 : Try.f27.body = some (root 27) := by kernel_rfl
theorem lp27 : (loops (root 27))[0]? = some (lp 27 0) := by kernel_rfl
theorem lies27 : Lies (root 27) 1 (lp 27 0) := Lies.of_take (n := 0) (by kernel_rfl)
theorem put_loop (len : Nat) (off : Int) (s : ByteArray) (l : List Int) (o0 o1 o2 o3 o4 : Option (List V)) (n1 n2 n3 n4 : Option Bf) (h0 : 0 ≤ off) (h1 : off + s.size ≤ len) (h2 : len ≤ l.length) (h3 : len ≤ 4194304) :
    SemL Try.prog G0 (lp 27 0) (pst len off 0 s l o0 o1 o2 o3 o4 n1 n2 n3 n4) (.exit 0) (St.of 21 [] [] [o0, o1, o2, o3, o4] [some (.live (.arr (.int .u8) (putN l off.toNat s s.size))), n1, n2, n3, n4] 5 5) := by
  have hC := cfg_ok (wy := fun _ _ => none) orc2_ok
  have key := SemL.ind (P := Try.prog) (Γ := G0) (b := lp 27 0) (fun i : Nat => pst len off i s (putN l off.toNat s i) o0 o1 o2 o3 o4 n1 n2 n3 n4) (fun i => s.size - i) (fun _ => (.exit 0, St.of 21 [] [] [o0, o1, o2, o3, o4] [some (.live (.arr (.int .u8) (putN l off.toNat s s.size))), n1, n2, n3, n4] 5 5)) (fun i => i ≤ s.size) (fun i hi => by
    by_cases hlt : i < s.size
    · refine .inl ⟨i + 1, ?_, hlt, by omega, rfl⟩
      have hw : IntKind.i64.wrap (off + (i : Int)) = off + i := wrap_in (by omega) (by omega)
      have hw2 : IntKind.i64.wrap ((i : Int) + 1) = ((i + 1 : Nat) : Int) := by rw [wrap_in (by omega) (by omega)]; rfl
      have hr := Tr.run_path _ _ _ (prd_go len off i s (putN l off.toNat s i) o0 o1 o2 o3 o4 n1 n2 n3 n4) (by
        rw [prd_goC, hw]
        simp only [List.cons.injEq, and_true, decide_eq_true_eq, putN_len (l := l) (o := off.toNat) (s := s) (i := i) (by omega) hi]
        omega)
      have := SemC.of_evS hC Try.func27 body27 lies27 hr
      rw [hw, hw2, show 0 + (off + (i : Int)).toNat = off.toNat + i by omega, Int.toNat_natCast, putN_step (by omega) hlt] at this
      exact this
    · have e : i = s.size := by omega
      subst e
      refine .inr ⟨by simp [Ex.to], ?_⟩
      have hr := Tr.run_path _ _ _ (prd_out len off s.size s (putN l off.toNat s s.size) o0 o1 o2 o3 o4 n1 n2 n3 n4) (by rw [prd_outC]; simp)
      exact SemC.of_evS hC Try.func27 body27 lies27 hr) 0 (Nat.zero_le _)
  rw [putN_zero] at key
  exact key
/-- The entry of put's loop. -/
def putE : LEnt := ⟨21, [0, 1, 2, 6], fun kh kt vs ob nm =>
  match vs, ob, nm with
  | [.bs true 0 0 len, .si .i64 off, .ss s, .i .i64 z], [o0, o1, o2, o3, o4], [some (.live (.arr (.int .u8) l)), n1, n2, n3, n4] =>
    match Nat.beq kh 5, Nat.beq kt 5, decide (z = 0) with
    | true, true, true => some (.br (decide (0 ≤ off ∧ off + s.size ≤ len ∧ len ≤ l.length ∧ len ≤ 4194304)) (.leaf (some (.exit 0, St.of 21 [] [] [o0, o1, o2, o3, o4] [some (.live (.arr (.int .u8) (putN l off.toNat s s.size))), n1, n2, n3, n4] 5 5))) (.leaf none))
    | _, _, _ => none
  | _, _, _ => none⟩
def lo1 : LOrc := fun f i => match Nat.beq f 27, i with | true, 0 => some putE | _, _ => none
theorem putE_ok {kh kt : Nat} {vs : List V} {ob : Ob} {nm : Nm} {t : Tr (Ex × St)} {ex : Ex} {x : St} (h : putE.go kh kt vs ob nm = some t) (ht : t.run = some (ex, x)) : SemL Try.prog G0 (lp 27 0) (St.of putE.n putE.lv vs ob nm kh kt) ex.to x := by
  simp only [putE] at h
  split at h
  · rename_i len off s z o0 o1 o2 o3 o4 l n1 n2 n3 n4
    split at h
    · rename_i e1 e2 e3
      obtain rfl := Nat.eq_of_beq_eq_true e1
      obtain rfl := Nat.eq_of_beq_eq_true e2
      obtain rfl := of_decide_eq_true e3
      cases h
      simp only [Tr.run] at ht
      split at ht
      · rename_i hc
        obtain ⟨h0, h1, h2, h3⟩ := of_decide_eq_true hc
        cases ht
        refine (put_loop len off s l o0 o1 o2 o3 o4 n1 n2 n3 n4 h0 h1 h2 h3).pre (St.of_imp rfl ?_)
        intro G j v v' a b cv hv
        match j, a, b with
        | 0, a, b => simp at a b; subst a; subst b; exact hv
        | 1, a, b => simp at a b; subst a; subst b; exact hv
        | 2, a, b => simp at a b; subst a; subst b; exact hv
        | 3, a, b => simp at a b; subst a; subst b; cases hv; exact .si _ _
        | n + 4, a, b => simp at a
      · cases ht
    · cases h
  · cases h
theorem lo1_ok : LOrcOk Try.prog G0 lo1 := fun f i e h => by
  simp only [lo1] at h
  split at h
  · rename_i hf
    obtain rfl := Nat.eq_of_beq_eq_true hf
    cases h
    exact ⟨Try.f27, root 27, lp 27 0, Try.func27, body27, lp27, fun kh kt vs ob nm t ex s h1 h2 => putE_ok h1 h2⟩
  · cases h
end D
end Go.Proofs.Ytnjjkobijjdnbaa

/- Package disk: a round of the loop of DiskReadsBack, reckoned. -/
set_option linter.unusedVariables false
set_option linter.unusedSimpArgs false
set_option maxRecDepth 100000
set_option maxHeartbeats 8000000
namespace Go.Proofs.Ytnjjkobijjdnbaa
open Go
namespace D
/-- With put's loop taken as its entry says. -/
noncomputable def cfgR (wy : FuncId → List V → Option (List Bool)) : Cfg := { cfg orc2 wy with lo := lo1, mem := fun f => (27 :: mems).any (Nat.beq f) }
theorem cfgR_ok (wy : FuncId → List V → Option (List Bool)) : CfgOk Try.prog G0 (cfgR wy) := { cfg_ok (wy := wy) orc2_ok with lo := lo1_ok }
/-- A write's parts. -/
def wO (w : Ty.den wt) : Int := (show Int × ByteArray × Bool × Unit from w).1
def wS (w : Ty.den wt) : ByteArray := (show Int × ByteArray × Bool × Unit from w).2.1
def wY (w : Ty.den wt) : Bool := (show Int × ByteArray × Bool × Unit from w).2.2.1
def mkP (o : Int) (s : ByteArray) : Ty.den wp := (show Int × ByteArray × Unit from (o, s, ()))
/-- What a content is behind a copy. -/
def cpy {α : Type} (v : List α) (o len : Nat) (y : List α) : List α :=
  List.take (0 + o) (List.drop 0 v) ++ List.take (Nat.min y.length (len - o)) (List.drop 0 y) ++ List.take (v.length - (0 + o + Nat.min y.length (len - o))) (List.drop (0 + o + Nat.min y.length (len - o)) v)
/-- The contents behind a write; behind a Sync. -/
def visW (vis : List Int) (n : Int) (w : Ty.den wt) : List Int := cpy vis (fo (wO w) n).toNat n.toNat (bytesOf (fs (wS w) (wO w) n))
def bW (b : List Int) (n : Int) (w : Ty.den wt) : List Int := putN b (fo (wO w) n).toNat (fs (wS w) (wO w) n) (fs (wS w) (wO w) n).size
def qW (q : List (Ty.den wp)) (m : Nat) (n : Int) (w : Ty.den wt) : List (Ty.den wp) := List.take m (List.drop 0 q) ++ [mkP (fo (wO w) n) (fs (wS w) (wO w) n)]
def part (v : List Int) (n : Int) : List Int := List.take n.toNat (List.drop 0 v)
def durS (dur vis : List Int) (n : Int) : List Int := cpy dur 0 n.toNat (part vis n)
def qS (q : List (Ty.den wp)) (m : Nat) : List (Ty.den wp) := List.take 0 (List.drop 0 q) ++ List.take m (List.drop 0 (List.replicate m wp.dflt)) ++ List.take (q.length - (0 + m)) (List.drop (0 + m) q)
/-- At the head of the law's loop. -/
noncomputable def hd (n i : Int) (dur vis b : List Int) (q : List (Ty.den wp)) (m : Nat) (l : List (Ty.den wt)) : St := St.of 79 [0, 1, 5, 6, 8, 9] [.si .i64 n, .slst .ro wt l, .b true, .ptr 0 0, .bs true 0 0 n.toNat, .si .i64 i]
  [some [.b false, .i .i64 0, .bs true 1 0 n.toNat, .bs true 2 0 n.toNat, .bs true 3 0 m]] [some (.live (.arr (.int .u8) b)), some (.live (.arr (.int .u8) dur)), some (.live (.arr (.int .u8) vis)), some (.live (.arr wp q))]
def lve : Ex → List Nat | .normal => [0, 1, 5, 6, 8, 9] | _ => [5]
def wy6 : FuncId → List V → Option (List Bool) := fun f _ => match Nat.beq f 21 with | true => some [false, true, true] | false => none
noncomputable def rnd (n i : Int) (dur vis b : List Int) (q : List (Ty.den wp)) (m : Nat) (l : List (Ty.den wt)) := outa lve (evCK Try.prog G0 (cfM Try.prog G0 (cfgR wy6) 30) ((cfgR wy6).lo 6) [] 60 1 (lp 6 0) (hd n i dur vis b q m l))
def dsA : List Bool := [true, true, true, true, true, true, false, true, false, false]
def dsB : List Bool := [true, true, true, true, true, true, true, true, true, false, false]
/-- What a write asks for. -/
def cW (dur b : List Int) (m : Nat) (n : Int) (o : Int) (s : ByteArray) : List Bool :=
  [decide (0 ≤ o ∧ o + (s.size : Int) ≤ (n.toNat : Int) ∧ n.toNat ≤ b.length ∧ n.toNat ≤ 4194304) && true,
   (!(!(bif decide (o ≥ 0) then bif decide ((s.size : Int) ≥ 0) then bif decide (o ≤ ((part dur n).length : Int)) then decide ((s.size : Int) ≤ IntKind.i64.wrap (((part dur n).length : Int) - o)) else false else false else false))) &&
     (some (decide ((m + 1) * 2 * 24 ≤ 281474976710656) && (some (decide (0 ≤ o ∧ o ≤ Bd.hi none n.toNat ∧ Bd.hi none n.toNat ≤ (n.toNat : Int)) && true && true)).getD true)).getD true]
def cR (dur vis b : List Int) (n : Int) : List Bool :=
  [decide (0 ≤ n ∧ n ≤ ((part dur n).length : Int) ∧ n ≤ ((part vis n).length : Int) ∧ (part dur n).length ≤ 4194304), false, !((strOfNums (List.take n.toNat (part vis n))).toList == (strOfNums (part b n)).toList)]
section
variable (n i : Int) (dur vis b : List Int) (q : List (Ty.den wp)) (m : Nat) (l : List (Ty.den wt))
theorem rnd_A : (rnd n i dur vis b q m l).path dsA = some (.normal, [.si .i64 n, .slst .ro wt l, .b true, .ptr 0 0, .bs true 0 0 n.toNat, .si .i64 (IntKind.i64.wrap (i + 1))],
  [some [.b false, .i .i64 0, .bs true 1 0 n.toNat, .bs true 2 0 n.toNat, .bs true 3 0 (m + 1)]], [some (.live (.arr (.int .u8) (bW b n (l.getD i.toNat wt.dflt)))), some (.live (.arr (.int .u8) dur)), some (.live (.arr (.int .u8) (visW vis n (l.getD i.toNat wt.dflt)))), some (.live (.arr wp (qW q m n (l.getD i.toNat wt.dflt))))], 79, 0, 0) := by kernel_rfl
theorem rnd_B : (rnd n i dur vis b q m l).path dsB = some (.normal, [.si .i64 n, .slst .ro wt l, .b true, .ptr 0 0, .bs true 0 0 n.toNat, .si .i64 (IntKind.i64.wrap (i + 1))],
  [some [.b false, .i .i64 0, .bs true 1 0 n.toNat, .bs true 2 0 n.toNat, .bs true 3 0 0]], [some (.live (.arr (.int .u8) (bW b n (l.getD i.toNat wt.dflt)))), some (.live (.arr (.int .u8) (durS dur (visW vis n (l.getD i.toNat wt.dflt)) n))), some (.live (.arr (.int .u8) (visW vis n (l.getD i.toNat wt.dflt)))), some (.live (.arr wp (qS (qW q m n (l.getD i.toNat wt.dflt)) (m + 1))))], 79, 0, 0) := by kernel_rfl
theorem rnd_E : (rnd n i dur vis b q m l).path [false] = some (.exit 0, [.b true], [], [], 79, 0, 0) := by kernel_rfl
theorem rnd_F : (rnd n i dur vis b q m l).path [true, false] = some (.exit 0, [.b true], [], [], 79, 0, 0) := by kernel_rfl
theorem rnd_EC : (rnd n i dur vis b q m l).conds [false] = [decide (i < (l.length : Int))] := by kernel_rfl
theorem rnd_FC : (rnd n i dur vis b q m l).conds [true, false] = [decide (i < (l.length : Int)), decide (i < 60)] := by kernel_rfl
theorem rnd_AC : (rnd n i dur vis b q m l).conds dsA = [decide (i < (l.length : Int)), decide (i < 60), decide (0 ≤ i ∧ i < (l.length : Int)), inr (wO (l.getD i.toNat wt.dflt)) && decide (0 ≤ n ∧ n ≤ 4194304)] ++
  cW dur b m n (fo (wO (l.getD i.toNat wt.dflt)) n) (fs (wS (l.getD i.toNat wt.dflt)) (wO (l.getD i.toNat wt.dflt)) n) ++ [wY (l.getD i.toNat wt.dflt)] ++ cR dur (visW vis n (l.getD i.toNat wt.dflt)) (bW b n (l.getD i.toNat wt.dflt)) n := by kernel_rfl
theorem rnd_BC : (rnd n i dur vis b q m l).conds dsB = [decide (i < (l.length : Int)), decide (i < 60), decide (0 ≤ i ∧ i < (l.length : Int)), inr (wO (l.getD i.toNat wt.dflt)) && decide (0 ≤ n ∧ n ≤ 4194304)] ++
  cW dur b m n (fo (wO (l.getD i.toNat wt.dflt)) n) (fs (wS (l.getD i.toNat wt.dflt)) (wO (l.getD i.toNat wt.dflt)) n) ++ [wY (l.getD i.toNat wt.dflt), decide ((0 : Int) ≤ 0 ∧ 0 ≤ Bd.hi (some (IntKind.i64, 0, false)) (m + 1) ∧ Bd.hi (some (IntKind.i64, 0, false)) (m + 1) ≤ ((m + 1 : Nat) : Int)) && true && true] ++
  cR (durS dur (visW vis n (l.getD i.toNat wt.dflt)) n) (visW vis n (l.getD i.toNat wt.dflt)) (bW b n (l.getD i.toNat wt.dflt)) n := by kernel_rfl
end
end D
end Go.Proofs.Ytnjjkobijjdnbaa

/- Package disk: the loop of DiskReadsBack. -/
set_option linter.unusedVariables false
set_option linter.unusedSimpArgs false
set_option maxRecDepth 100000
set_option maxHeartbeats 4000000
namespace Go.Proofs.Ytnjjkobijjdnbaa
open Go
namespace D
theorem cpy_putN {v : List Int} {o n : Nat} {s : ByteArray} (h1 : o + s.size ≤ n) (h2 : n ≤ v.length) : cpy v o n (bytesOf s) = putN v o s s.size := by
  have hb := bytesOf_len s
  have hm : Nat.min (bytesOf s).length (n - o) = s.size := by rw [hb]; exact Nat.min_eq_left (by omega)
  unfold cpy putN
  rw [hm, Nat.zero_add, List.drop_zero, List.drop_zero, List.take_of_length_le (l := v.drop (o + s.size)) (by simp)]
theorem cpy_all {α : Type} {v y : List α} {n : Nat} (h1 : v.length = n) (h2 : y.length = n) : cpy v 0 n y = y := by
  unfold cpy
  have hm : Nat.min y.length (n - 0) = n := by rw [h2]; exact Nat.min_self n
  rw [hm]
  subst h1
  rw [← h2]
  simp
theorem part_all {v : List Int} {n : Int} (h : v.length = n.toNat) : part v n = v := by
  unfold part
  rw [List.drop_zero, ← h, List.take_length]
theorem fs_fit {w : Ty.den wt} {n : Int} (hn : 0 ≤ n) : 0 ≤ fo (wO w) n ∧ fo (wO w) n + ((fs (wS w) (wO w) n).size : Int) ≤ n := by
  have h1 := fo_in (o := wO w) hn
  have h2 := fs_size (s := wS w) (o := wO w) hn
  omega
theorem vis_b {b : List Int} {n : Int} {w : Ty.den wt} (hn : 0 ≤ n) (hb : b.length = n.toNat) : visW b n w = bW b n w := by
  have h := fs_fit (w := w) hn
  unfold visW bW
  exact cpy_putN (by omega) (by omega)
theorem bW_len {b : List Int} {n : Int} {w : Ty.den wt} (hn : 0 ≤ n) (hb : b.length = n.toNat) : (bW b n w).length = n.toNat := by
  have h := fs_fit (w := w) hn
  unfold bW
  rw [putN_len (by omega) (Nat.le_refl _), hb]
theorem cW_true {dur b : List Int} {m : Nat} {n : Int} {w : Ty.den wt} (hn : 0 ≤ n) (hn2 : n ≤ 300) (hd : dur.length = n.toNat) (hb : b.length = n.toNat) (hm : m ≤ 60) : cW dur b m n (fo (wO w) n) (fs (wS w) (wO w) n) = [true, true] := by
  obtain ⟨h1, h2⟩ := fs_fit (w := w) hn
  have hw : IntKind.i64.wrap (((dur.length : Nat) : Int) - fo (wO w) n) = dur.length - fo (wO w) n := wrap_in (by omega) (by omega)
  have a1 : decide (fo (wO w) n ≥ 0) = true := decide_eq_true h1
  have a2 : decide (((fs (wS w) (wO w) n).size : Int) ≥ 0) = true := decide_eq_true (by omega)
  have a3 : decide (fo (wO w) n ≤ (dur.length : Int)) = true := decide_eq_true (by omega)
  have a4 : decide (((fs (wS w) (wO w) n).size : Int) ≤ dur.length - fo (wO w) n) = true := decide_eq_true (by omega)
  have a5 : decide ((m + 1) * 2 * 24 ≤ 281474976710656) = true := decide_eq_true (by omega)
  have a6 : decide (0 ≤ fo (wO w) n ∧ fo (wO w) n + ((fs (wS w) (wO w) n).size : Int) ≤ (n.toNat : Int) ∧ n.toNat ≤ b.length ∧ n.toNat ≤ 4194304) = true := decide_eq_true ⟨h1, by omega, by omega, by omega⟩
  have a7 : decide (0 ≤ fo (wO w) n ∧ fo (wO w) n ≤ Bd.hi none n.toNat ∧ Bd.hi none n.toNat ≤ (n.toNat : Int)) = true := decide_eq_true ⟨h1, by simp only [Bd.hi]; omega, by simp only [Bd.hi]; omega⟩
  unfold cW
  rw [part_all hd, hw, a1, a2, a3, a4, a5, a6, a7]
  rfl
theorem cR_ok {dur b : List Int} {n : Int} (hn : 0 ≤ n) (hn2 : n ≤ 300) (hd : dur.length = n.toNat) (hb : b.length = n.toNat) : cR dur b b n = [true, false, false] := by
  unfold cR
  rw [part_all hd, part_all hb, ← hb, List.take_length]
  have a1 : decide (0 ≤ n ∧ n ≤ ((dur.length : Nat) : Int) ∧ n ≤ ((b.length : Nat) : Int) ∧ dur.length ≤ 4194304) = true := decide_eq_true ⟨hn, by omega, by omega, by omega⟩
  rw [a1]
  simp
theorem body6 : Try.f6.body = some (root 6) := by kernel_rfl
theorem lp6 : (loops (root 6))[0]? = some (lp 6 0) := by kernel_rfl
theorem lies6 : Lies (root 6) 1 (lp 6 0) := Lies.of_take (n := 0) (by kernel_rfl)
structure RS where
  i : Nat
  dur : List Int
  b : List Int
  q : List (Ty.den wp)
  m : Nat
theorem rb_loop (n : Int) (h1 : 1 ≤ n) (h2 : n ≤ 300) (l : List (Ty.den wt)) (hl : ∀ w ∈ l, inr (wO w) = true) : ∀ a : RS, (a.i ≤ 60 ∧ a.i ≤ l.length ∧ a.dur.length = n.toNat ∧ a.b.length = n.toNat ∧ a.m ≤ a.i) →
    SemL Try.prog G0 (lp 6 0) (hd n a.i a.dur a.b a.b a.q a.m l) (Ex.exit 0).to (St.of 79 [5] [.b true] [] []) :=
  SemL.ind (P := Try.prog) (Γ := G0) (b := lp 6 0) (fun a : RS => hd n a.i a.dur a.b a.b a.q a.m l) (fun a => l.length - a.i) (fun _ => (.exit 0, St.of 79 [5] [.b true] [] [])) (fun a => a.i ≤ 60 ∧ a.i ≤ l.length ∧ a.dur.length = n.toNat ∧ a.b.length = n.toNat ∧ a.m ≤ a.i) (fun a ⟨i1, i2, i3, i4, i5⟩ => by
    obtain ⟨i, dur, b, q, m⟩ := a
    simp only at i1 i2 i3 i4 i5
    have hC := cfgR_ok wy6
    by_cases hlt : i < l.length
    · by_cases h60 : i < 60
      · refine .inl ?_
        have hget : l.getD i wt.dflt = l[i] := by simp [List.getD, hlt]
        have hw := hl l[i] (List.getElem_mem hlt)
        generalize hW : l[i] = w at *
        have e0 : decide ((i : Int) < (l.length : Int)) = true := decide_eq_true (by omega)
        have e1 : decide ((i : Int) < 60) = true := decide_eq_true (by omega)
        have e2 : decide (0 ≤ (i : Int) ∧ (i : Int) < (l.length : Int)) = true := decide_eq_true ⟨by omega, by omega⟩
        have e3 : decide (0 ≤ n ∧ n ≤ 4194304) = true := decide_eq_true ⟨by omega, by omega⟩
        have hc := cW_true (w := w) (m := m) (by omega) h2 i3 i4 (by omega)
        have hv := vis_b (w := w) (by omega) i4
        have hbl := bW_len (w := w) (by omega) i4
        have hwi : IntKind.i64.wrap ((i : Int) + 1) = ((i + 1 : Nat) : Int) := by rw [wrap_in (by omega) (by omega)]; rfl
        cases hy : wY w with
        | false =>
          have hr := Tr.run_path _ _ _ (rnd_A n i dur b b q m l) (by
            rw [rnd_AC, Int.toNat_natCast, hget, hc, hv, cR_ok (by omega) h2 i3 hbl, e0, e1, e2, e3, hw, hy]; rfl)
          rw [Int.toNat_natCast, hget, hv, hwi] at hr
          exact ⟨⟨i + 1, dur, bW b n w, qW q m n w, m + 1⟩, SemC.of_evM hC Try.func6 body6 lies6 hr, ⟨by show i + 1 ≤ 60; omega, by show i + 1 ≤ l.length; omega, i3, hbl, by show m + 1 ≤ i + 1; omega⟩, by show l.length - (i + 1) < l.length - i; omega, rfl⟩
        | true =>
          have hds : durS dur (bW b n w) n = bW b n w := by
            unfold durS
            rw [part_all hbl]
            exact cpy_all i3 hbl
          have e4 : (decide ((0 : Int) ≤ 0 ∧ 0 ≤ Bd.hi (some (IntKind.i64, 0, false)) (m + 1) ∧ Bd.hi (some (IntKind.i64, 0, false)) (m + 1) ≤ ((m + 1 : Nat) : Int)) && true && true) = true := by
            rw [decide_eq_true (by simp only [Bd.hi]; omega)]; rfl
          have hr := Tr.run_path _ _ _ (rnd_B n i dur b b q m l) (by
            rw [rnd_BC, Int.toNat_natCast, hget, hc, hv, hds, cR_ok (by omega) h2 hbl hbl, e0, e1, e2, e3, hw, hy, e4]; rfl)
          rw [Int.toNat_natCast, hget, hv, hds, hwi] at hr
          exact ⟨⟨i + 1, bW b n w, bW b n w, qS (qW q m n w) (m + 1), 0⟩, SemC.of_evM hC Try.func6 body6 lies6 hr, ⟨by show i + 1 ≤ 60; omega, by show i + 1 ≤ l.length; omega, hbl, hbl, Nat.zero_le _⟩, by show l.length - (i + 1) < l.length - i; omega, rfl⟩
      · refine .inr ⟨by simp [Ex.to], ?_⟩
        have hr := Tr.run_path _ _ _ (rnd_F n i dur b b q m l) (by rw [rnd_FC, decide_eq_true (by omega), decide_eq_false (by omega)])
        exact SemC.of_evM hC Try.func6 body6 lies6 hr
    · refine .inr ⟨by simp [Ex.to], ?_⟩
      have hr := Tr.run_path _ _ _ (rnd_E n i dur b b q m l) (by rw [rnd_EC, decide_eq_false (by omega)])
      exact SemC.of_evM hC Try.func6 body6 lies6 hr)
end D
end Go.Proofs.Ytnjjkobijjdnbaa

/- Package disk: DiskReadsBack. -/
set_option linter.unusedVariables false
set_option linter.unusedSimpArgs false
set_option maxRecDepth 100000
set_option maxHeartbeats 4000000
namespace Go.Proofs.Ytnjjkobijjdnbaa
open Go
/-- An object's cells said in other words. -/
theorem WRel.reOb {Γ : Nat → Option V} {G : Gh} {ob : Ob} {nm : Nm} {w : World} (h : WRel Γ G ob nm w) {o : Nat} {cs cs' : List V} (ho : ob[o]? = some (some cs)) (hl : cs'.length = cs.length) (hr : ∀ cvs, Rels G cs cvs → Rels G cs' cvs) : WRel Γ G (ob.set o (some cs')) nm w := by
  have hlt : o < ob.length := by
    rcases Nat.lt_or_ge o ob.length with h' | h'
    · exact h'
    · rw [List.getElem?_eq_none h'] at ho; cases ho
  exact { h with
    hob := fun o' c b h1 h2 => by
      by_cases e : o' = o
      · subst e
        rw [List.getElem?_set_self hlt] at h1
        cases h1
        obtain ⟨q1, ⟨cvs, E, fr, q3, q4, q5, q6⟩, q7⟩ := h.hob o' cs b ho h2
        exact ⟨q1, ⟨cvs, E, fr, q3, q4, by omega, by rw [hl]; exact hr _ q6⟩, q7⟩
      · rw [List.getElem?_set_ne (Ne.symm e)] at h1
        exact h.hob o' c b h1 h2
    hlt := fun o' b h1 => by simpa using h.hlt o' b h1
    habs := fun o' h1 => by
      by_cases e : o' = o
      · subst e; rw [List.getElem?_set_self hlt] at h1; cases h1
      · rw [List.getElem?_set_ne (Ne.symm e)] at h1; exact h.habs o' h1 }
theorem nil_bs {G : Gh} {k : Nat} {cv : Value} (h : VRel G (.lst .full []) cv) : VRel G (.bs true k 0 0) cv := by
  cases h with
  | lst0 => exact .bs0 _ _ _
  | @lst _ _ b off cap sz cvs h1 h2 h3 h4 h5 h6 =>
    have h6 : cap = 0 := h6
    subst h6
    exact .bs1 _ _ _ _ _
/-- A nil slice that an object holds, as an empty buffer. -/
theorem St.birthO {Γ : Nat → Option V} {kh kt n : Nat} {lv : List Nat} {vs : List V} {ob : Ob} {nm : Nm} (o k : Nat) {cs : List V} (ho : ob[o]? = some (some cs)) (hk : cs[k]? = some (.lst .full [])) {c : BC} (hc : c.len = 0) :
    St.imp Γ (St.of n lv vs ob nm kh kt) (St.of n lv vs (ob.set o (some (cs.set k (.bs true nm.length 0 0)))) (nm ++ [some (.live c)]) kh kt) := by
  intro G a w hr
  refine ⟨hr.tm, ?_, hr.df, hr.kh, hr.kt⟩
  have h1 := hr.wr.padded 0 1
  simp only [List.replicate_zero, List.append_nil] at h1
  have h2 := h1.unborn (s := nm.length) (by simp [St.of]) hc
  have e : (nm ++ List.replicate 1 none).set nm.length (some (Bf.live c)) = nm ++ [some (.live c)] := by simp
  have h3 : WRel Γ G ob (nm ++ [some (.live c)]) w := by rw [← e]; exact h2
  exact h3.reOb ho (by simp) fun cvs hq => ⟨by simpa using hq.1, fun j v cv hv hcv => by
    rw [List.getElem?_set] at hv
    split at hv
    · rename_i hj
      subst hj
      split at hv
      · cases hv; exact nil_bs (hq.2 k _ cv hk hcv)
      · cases hv
    · exact hq.2 j v cv hv hcv⟩
namespace D
def eqL (x y : List Int) : Bool := decide (x = y)
theorem eqL_eq {x y : List Int} (h : eqL x y = true) : x = y := of_decide_eq_true h
/-- The entry of the law's loop. -/
def rbE : LEnt := ⟨79, [0, 1, 5, 6, 8, 9], fun kh kt vs ob nm =>
  match vs, ob, nm with
  | [.si .i64 n, .slst .ro (.agg [.int .i64, .str, .bool]) l, .b true, .ptr 0 0, .bs true 0 0 n0, .i .i64 z], [some [.b false, .i .i64 y, .bs true 1 0 n1, .bs true 2 0 n2, .lst .full []]], [some (.live (.arr (.int .u8) b)), some (.live (.arr (.int .u8) dur)), some (.live (.arr (.int .u8) vis))] =>
    match Nat.beq kh 0, Nat.beq kt 0, decide (z = 0), decide (y = 0) with
    | true, true, true, true => some (.br (decide (n0 = n.toNat ∧ n1 = n.toNat ∧ n2 = n.toNat ∧ 1 ≤ n ∧ n ≤ 300 ∧ b.length = n.toNat ∧ dur.length = n.toNat) && eqL vis b && (show List (Ty.den wt) from l).all fun w => inr (wO w)) (.leaf (some (.exit 0, St.of 79 [5] [.b true] [] []))) (.leaf none))
    | _, _, _, _ => none
  | _, _, _ => none⟩
theorem rbE_ok {kh kt : Nat} {vs : List V} {ob : Ob} {nm : Nm} {t : Tr (Ex × St)} {ex : Ex} {x : St} (h : rbE.go kh kt vs ob nm = some t) (ht : t.run = some (ex, x)) : SemL Try.prog G0 (lp 6 0) (St.of rbE.n rbE.lv vs ob nm kh kt) ex.to x := by
  simp only [rbE] at h
  split at h
  · rename_i n l n0 z y n1 n2 b dur vis
    split at h
    · rename_i e1 e2 e3 e4
      obtain rfl := Nat.eq_of_beq_eq_true e1
      obtain rfl := Nat.eq_of_beq_eq_true e2
      obtain rfl := of_decide_eq_true e3
      obtain rfl := of_decide_eq_true e4
      cases h
      simp only [Tr.run] at ht
      split at ht
      · rename_i hc
        rw [Bool.and_eq_true, Bool.and_eq_true, decide_eq_true_eq] at hc
        obtain ⟨⟨⟨rfl, rfl, rfl, h1, h2, h3, h4⟩, h5⟩, h6⟩ := hc
        have h5 : vis = b := eqL_eq h5
        subst h5
        cases ht
        have hl : ∀ w ∈ (show List (Ty.den wt) from l), inr (wO w) = true := fun w hw => List.all_eq_true.1 h6 w hw
        have key := rb_loop n h1 h2 l hl ⟨0, dur, vis, [], 0⟩ ⟨Nat.zero_le _, Nat.zero_le _, h4, h3, Nat.le_refl _⟩
        have key2 : SemL Try.prog G0 (lp 6 0) (St.of 79 [0, 1, 5, 6, 8, 9] [.si .i64 n, .slst .ro wt l, .b true, .ptr 0 0, .bs true 0 0 n.toNat, .i .i64 0] [some [.b false, .i .i64 0, .bs true 1 0 n.toNat, .bs true 2 0 n.toNat, .bs true 3 0 0]] [some (.live (.arr (.int .u8) vis)), some (.live (.arr (.int .u8) dur)), some (.live (.arr (.int .u8) vis)), some (.live (.arr wp []))] 0 0) (Ex.exit 0).to (St.of 79 [5] [.b true] [] []) := by
          refine key.pre (St.of_imp rfl ?_)
          intro G j v v' a b cv hv
          match j, a, b with
          | 0, a, b => simp at a b; subst a; subst b; exact hv
          | 1, a, b => simp at a b; subst a; subst b; exact hv
          | 2, a, b => simp at a b; subst a; subst b; exact hv
          | 3, a, b => simp at a b; subst a; subst b; exact hv
          | 4, a, b => simp at a b; subst a; subst b; exact hv
          | 5, a, b => simp at a b; subst a; subst b; cases hv; exact .si _ _
          | n + 6, a, b => simp at a
        exact key2.pre (St.birthO (Γ := G0) (kh := 0) (kt := 0) (n := 79) (lv := [0, 1, 5, 6, 8, 9]) (vs := [.si .i64 n, .slst .ro wt l, .b true, .ptr 0 0, .bs true 0 0 n.toNat, .i .i64 0]) (ob := [some [.b false, .i .i64 0, .bs true 1 0 n.toNat, .bs true 2 0 n.toNat, .lst .full []]])
          (nm := [some (.live (.arr (.int .u8) vis)), some (.live (.arr (.int .u8) dur)), some (.live (.arr (.int .u8) vis))]) (c := .arr wp []) 0 4 rfl rfl rfl)
      · cases ht
    · cases h
  · cases h
theorem lp6' : (loops (root 6))[0]? = some (lp 6 0) := lp6
def lo2 : LOrc := fun f i => match Nat.beq f 6, i with | true, 0 => some rbE | _, _ => lo1 f i
theorem lo2_ok : LOrcOk Try.prog G0 lo2 := fun f i e h => by
  simp only [lo2] at h
  split at h
  · rename_i hf
    obtain rfl := Nat.eq_of_beq_eq_true hf
    cases h
    exact ⟨Try.f6, root 6, lp 6 0, Try.func6, body6, lp6, fun kh kt vs ob nm t ex s h1 h2 => rbE_ok h1 h2⟩
  · exact lo1_ok _ _ _ h
def wy7 : FuncId → List V → Option (List Bool) := fun f _ => match Nat.beq f 21, Nat.beq f 13 with | true, _ => some [false, true, true] | _, true => some [false, false, true, true] | _, _ => none
noncomputable def cfgS : Cfg := { cfgR wy7 with lo := lo2 }
theorem cfgS_ok : CfgOk Try.prog G0 cfgS := { cfgR_ok wy7 with lo := lo2_ok }
end D
end Go.Proofs.Ytnjjkobijjdnbaa

/- Package disk: DiskReadsBack answers true. -/
set_option linter.unusedVariables false
set_option linter.unusedSimpArgs false
set_option maxRecDepth 100000
set_option maxHeartbeats 4000000
namespace Go.Proofs.Ytnjjkobijjdnbaa
open Go
namespace D
/-- A size from 1 to m. -/
def sz (n m : Int) : Int := IntKind.i64.wrap (1 + pickD n m)
theorem sz_in {n m : Int} (h : 0 < m) (h2 : m ≤ 1000) : 1 ≤ sz n m ∧ sz n m ≤ m := by
  have := pickD_lt (k := n) h
  unfold sz
  rw [wrap_in (by omega) (by omega)]
  omega
theorem rb_run (n : Int) (l : List (Ty.den wt)) : run cfgS 6 [.si .i64 n, .slst .ro wt l] = .ok (some (inr n && decide ((300 : Int) ≠ 0) && (!decide (sz n 300 < 1) && (some (!decide (sz n 300 > 4194304) && (some (decide (0 ≤ sz n 300 ∧ sz n 300 ≤ sz n 300 ∧ 1 * sz n 300 ≤ 281474976710656 ∧ sz n 300 ≤ 9223372036854775807) && (some (decide (0 ≤ sz n 300 ∧ sz n 300 ≤ sz n 300 ∧ 1 * sz n 300 ≤ 281474976710656 ∧ sz n 300 ≤ 9223372036854775807) && true)).getD true)).getD true)).getD true && (decide (0 ≤ sz n 300 ∧ sz n 300 ≤ sz n 300 ∧ 1 * sz n 300 ≤ 281474976710656 ∧ sz n 300 ≤ 9223372036854775807) && (decide ((sz n 300).toNat = (sz n 300).toNat ∧ (sz n 300).toNat = (sz n 300).toNat ∧ (sz n 300).toNat = (sz n 300).toNat ∧ 1 ≤ sz n 300 ∧ sz n 300 ≤ 300 ∧ (List.replicate (sz n 300).toNat (0 : Int)).length = (sz n 300).toNat ∧ (List.replicate (sz n 300).toNat (0 : Int)).length = (sz n 300).toNat) && eqL (List.replicate (sz n 300).toNat (0 : Int)) (List.replicate (sz n 300).toNat (0 : Int)) && (show List (Ty.den wt) from l).all fun w => inr (wO w)))))) (V.b true) := by kernel_rfl
theorem law6 (n : Int) (l : List (Ty.den wt)) (hn : inr n = true) (hl : ∀ w ∈ l, inr (wO w) = true) : SemF Try.prog G0 6 [.si .i64 n, .slst .ro wt l] [] [] (.sb true) [] [] := by
  have : SemF Try.prog G0 6 [.si .i64 n, .slst .ro wt l] [] [] (.b true) [] [] := by
    refine of_run cfgS_ok (rb_run n l) ?_ rfl
    obtain ⟨h1, h2⟩ := sz_in (n := n) (m := 300) (by decide) (by decide)
    generalize sz n 300 = N at *
    have e1 : decide (N < 1) = false := decide_eq_false (by omega)
    have e2 : decide (N > 4194304) = false := decide_eq_false (by omega)
    have e3 : decide (0 ≤ N ∧ N ≤ N ∧ 1 * N ≤ 281474976710656 ∧ N ≤ 9223372036854775807) = true := decide_eq_true ⟨by omega, by omega, by omega, by omega⟩
    have e4 : (show List (Ty.den wt) from l).all (fun w => inr (wO w)) = true := List.all_eq_true.2 hl
    have e5 : eqL (List.replicate N.toNat (0 : Int)) (List.replicate N.toNat (0 : Int)) = true := decide_eq_true rfl
    rw [hn, e1, e2, e3, e4, e5, List.length_replicate]
    have e6 : decide (N.toNat = N.toNat ∧ N.toNat = N.toNat ∧ N.toNat = N.toNat ∧ 1 ≤ N ∧ N ≤ 300 ∧ N.toNat = N.toNat ∧ N.toNat = N.toNat) = true := decide_eq_true ⟨rfl, rfl, rfl, h1, h2, rfl, rfl⟩
    rw [e6]
    rfl
  exact this.weaken fun G cv h => by cases h; exact .sb _
end D
end Go.Proofs.Ytnjjkobijjdnbaa

/- Package disk: a round of the loop of DiskSynced, reckoned; the loop. -/
set_option linter.unusedVariables false
set_option linter.unusedSimpArgs false
set_option maxRecDepth 100000
set_option maxHeartbeats 8000000
namespace Go.Proofs.Ytnjjkobijjdnbaa
open Go
/-- A loop by induction; where it ends is told by what holds there. -/
theorem SemL.indE {P : Program} {Γ : Nat → Option V} {A Z : Type} {b : Code} (emb : A → St) (m : A → Nat) (e : Exit) (he : e ≠ .normal) (outs : Z → St) (Inv : A → Prop) (Post : Z → Prop)
    (h : ∀ a, Inv a → (∃ a', SemC P Γ b (emb a) .normal (emb a') ∧ Inv a' ∧ m a' < m a) ∨ ∃ z, Post z ∧ SemC P Γ b (emb a) e (outs z)) : ∀ a, Inv a → ∃ z, Post z ∧ SemL P Γ b (emb a) e (outs z) := by
  have key : ∀ (k : Nat) a, m a ≤ k → Inv a → ∃ z, Post z ∧ SemL P Γ b (emb a) e (outs z) := by
    intro k
    induction k with
    | zero =>
      intro a hm hi
      rcases h a hi with ⟨a', h1, h2, h3⟩ | ⟨z, h1, h2⟩
      · omega
      · exact ⟨z, h1, SemL.out he h2⟩
    | succ k ih =>
      intro a hm hi
      rcases h a hi with ⟨a', h1, h2, h3⟩ | ⟨z, h1, h2⟩
      · obtain ⟨z, z1, z2⟩ := ih a' (by omega) h2
        exact ⟨z, z1, SemL.next h1 z2⟩
      · exact ⟨z, h1, SemL.out he h2⟩
  exact fun a hi => key _ a (Nat.le_refl _) hi
namespace D
noncomputable def hdS (n i torn : Int) (sure : ByteArray) (dur vis b : List Int) (q : List (Ty.den wp)) (m : Nat) (l : List (Ty.den wt)) : St := St.of 102 [0, 1, 2, 7, 8, 10, 11, 12] [.si .i64 n, .slst .ro wt l, .si .i64 torn, .b true, .ptr 0 0, .bs true 0 0 n.toNat, .ss sure, .si .i64 i]
  [some [.b false, .i .i64 0, .bs true 1 0 n.toNat, .bs true 2 0 n.toNat, .bs true 3 0 m]] [some (.live (.arr (.int .u8) b)), some (.live (.arr (.int .u8) dur)), some (.live (.arr (.int .u8) vis)), some (.live (.arr wp q))]
def lveS : Ex → List Nat | .normal => [0, 1, 2, 7, 8, 10, 11, 12] | _ => [0, 2, 7, 8, 11]
noncomputable def rndS (n i torn : Int) (sure : ByteArray) (dur vis b : List Int) (q : List (Ty.den wp)) (m : Nat) (l : List (Ty.den wt)) := outa lveS (evCK Try.prog G0 (cfM Try.prog G0 (cfgR wy6) 30) ((cfgR wy6).lo 7) [] 60 1 (lp 7 0) (hdS n i torn sure dur vis b q m l))
def dsC : List Bool := [true, true, true, true, true, true, false, false]
def dsD : List Bool := [true, true, true, true, true, true, true, true, true]
/-- What a round asks for up to the write. -/
def cA (dur b : List Int) (m : Nat) (n i : Int) (l : List (Ty.den wt)) (w : Ty.den wt) : List Bool := [decide (i < (l.length : Int)), decide (i < 60), decide (0 ≤ i ∧ i < (l.length : Int)), inr (wO w) && decide (0 ≤ n ∧ n ≤ 4194304)] ++ cW dur b m n (fo (wO w) n) (fs (wS w) (wO w) n)
def cS (m : Nat) : Bool := decide ((0 : Int) ≤ 0 ∧ 0 ≤ Bd.hi (some (IntKind.i64, 0, false)) (m + 1) ∧ Bd.hi (some (IntKind.i64, 0, false)) (m + 1) ≤ ((m + 1 : Nat) : Int)) && true && true
theorem cS_true (m : Nat) : cS m = true := by
  unfold cS
  rw [decide_eq_true (by simp only [Bd.hi]; omega)]; rfl
section
variable (n i torn : Int) (sure : ByteArray) (dur vis b : List Int) (q : List (Ty.den wp)) (m : Nat) (l : List (Ty.den wt))
theorem rndS_A : (rndS n i torn sure dur vis b q m l).path dsC = some (.normal, [.si .i64 n, .slst .ro wt l, .si .i64 torn, .b true, .ptr 0 0, .bs true 0 0 n.toNat, .ss sure, .si .i64 (IntKind.i64.wrap (i + 1))],
  [some [.b false, .i .i64 0, .bs true 1 0 n.toNat, .bs true 2 0 n.toNat, .bs true 3 0 (m + 1)]], [some (.live (.arr (.int .u8) (bW b n (l.getD i.toNat wt.dflt)))), some (.live (.arr (.int .u8) dur)), some (.live (.arr (.int .u8) (visW vis n (l.getD i.toNat wt.dflt)))), some (.live (.arr wp (qW q m n (l.getD i.toNat wt.dflt))))], 102, 0, 0) := by kernel_rfl
theorem rndS_B : (rndS n i torn sure dur vis b q m l).path dsD = some (.normal, [.si .i64 n, .slst .ro wt l, .si .i64 torn, .b true, .ptr 0 0, .bs true 0 0 n.toNat, .ss (strOfNums (part (bW b n (l.getD i.toNat wt.dflt)) n)), .si .i64 (IntKind.i64.wrap (i + 1))],
  [some [.b false, .i .i64 0, .bs true 1 0 n.toNat, .bs true 2 0 n.toNat, .bs true 3 0 0]], [some (.live (.arr (.int .u8) (bW b n (l.getD i.toNat wt.dflt)))), some (.live (.arr (.int .u8) (durS dur (visW vis n (l.getD i.toNat wt.dflt)) n))), some (.live (.arr (.int .u8) (visW vis n (l.getD i.toNat wt.dflt)))), some (.live (.arr wp (qS (qW q m n (l.getD i.toNat wt.dflt)) (m + 1))))], 102, 0, 0) := by kernel_rfl
theorem rndS_E : (rndS n i torn sure dur vis b q m l).path [false] = some (.exit 0, [.si .i64 n, .si .i64 torn, .b true, .ptr 0 0, .ss sure], [some [.b false, .i .i64 0, .bs true 0 0 n.toNat, .bs true 1 0 n.toNat, .bs true 2 0 m]], [some (.live (.arr (.int .u8) dur)), some (.live (.arr (.int .u8) vis)), some (.live (.arr wp q))], 102, 0, 0) := by kernel_rfl
theorem rndS_F : (rndS n i torn sure dur vis b q m l).path [true, false] = some (.exit 0, [.si .i64 n, .si .i64 torn, .b true, .ptr 0 0, .ss sure], [some [.b false, .i .i64 0, .bs true 0 0 n.toNat, .bs true 1 0 n.toNat, .bs true 2 0 m]], [some (.live (.arr (.int .u8) dur)), some (.live (.arr (.int .u8) vis)), some (.live (.arr wp q))], 102, 0, 0) := by kernel_rfl
theorem rndS_EC : (rndS n i torn sure dur vis b q m l).conds [false] = [decide (i < (l.length : Int))] := by kernel_rfl
theorem rndS_FC : (rndS n i torn sure dur vis b q m l).conds [true, false] = [decide (i < (l.length : Int)), decide (i < 60)] := by kernel_rfl
theorem rndS_AC : (rndS n i torn sure dur vis b q m l).conds dsC = cA dur b m n i l (l.getD i.toNat wt.dflt) ++ [wY (l.getD i.toNat wt.dflt), wY (l.getD i.toNat wt.dflt)] := by kernel_rfl
theorem rndS_BC : (rndS n i torn sure dur vis b q m l).conds dsD = cA dur b m n i l (l.getD i.toNat wt.dflt) ++ [wY (l.getD i.toNat wt.dflt), cS m, wY (l.getD i.toNat wt.dflt)] := by kernel_rfl
end
theorem body7 : Try.f7.body = some (root 7) := by kernel_rfl
theorem lp7 : (loops (root 7))[0]? = some (lp 7 0) := by kernel_rfl
theorem lies7 : Lies (root 7) 1 (lp 7 0) := Lies.of_take (n := 0) (by kernel_rfl)
theorem cA_true {dur b : List Int} {m i : Nat} {n : Int} {l : List (Ty.den wt)} {w : Ty.den wt} (hn : 0 ≤ n) (hn2 : n ≤ 300) (hd : dur.length = n.toNat) (hb : b.length = n.toNat) (hm : m ≤ 60) (hi : i < l.length) (h60 : i < 60) (hw : inr (wO w) = true) : cA dur b m n i l w = [true, true, true, true, true, true] := by
  unfold cA
  rw [cW_true hn hn2 hd hb hm, decide_eq_true (show (i : Int) < (l.length : Int) by omega), decide_eq_true (show (i : Int) < 60 by omega), decide_eq_true (show 0 ≤ (i : Int) ∧ (i : Int) < (l.length : Int) from ⟨by omega, by omega⟩), hw, decide_eq_true (show 0 ≤ n ∧ n ≤ 4194304 from ⟨hn, by omega⟩)]
  rfl
structure ZS where
  dur : List Int
  vis : List Int
  q : List (Ty.den wp)
  m : Nat
noncomputable def outS (n torn : Int) (z : ZS) : St := St.of 102 [0, 2, 7, 8, 11] [.si .i64 n, .si .i64 torn, .b true, .ptr 0 0, .ss (strOfNums z.dur)] [some [.b false, .i .i64 0, .bs true 0 0 n.toNat, .bs true 1 0 n.toNat, .bs true 2 0 z.m]] [some (.live (.arr (.int .u8) z.dur)), some (.live (.arr (.int .u8) z.vis)), some (.live (.arr wp z.q))] 0 0
theorem s_loop (n torn : Int) (h1 : 1 ≤ n) (h2 : n ≤ 300) (l : List (Ty.den wt)) (hl : ∀ w ∈ l, inr (wO w) = true) : ∀ a : RS, (a.i ≤ 60 ∧ a.i ≤ l.length ∧ a.dur.length = n.toNat ∧ a.b.length = n.toNat ∧ a.m ≤ a.i) →
    ∃ z : ZS, (z.dur.length = n.toNat ∧ z.vis.length = n.toNat ∧ z.m ≤ 60) ∧ SemL Try.prog G0 (lp 7 0) (hdS n a.i torn (strOfNums a.dur) a.dur a.b a.b a.q a.m l) (.exit 0) (outS n torn z) :=
  SemL.indE (P := Try.prog) (Γ := G0) (b := lp 7 0) (fun a : RS => hdS n a.i torn (strOfNums a.dur) a.dur a.b a.b a.q a.m l) (fun a => l.length - a.i) (.exit 0) (by simp) (outS n torn) (fun a => a.i ≤ 60 ∧ a.i ≤ l.length ∧ a.dur.length = n.toNat ∧ a.b.length = n.toNat ∧ a.m ≤ a.i) (fun z => z.dur.length = n.toNat ∧ z.vis.length = n.toNat ∧ z.m ≤ 60) (fun a ⟨i1, i2, i3, i4, i5⟩ => by
    obtain ⟨i, dur, b, q, m⟩ := a
    simp only at i1 i2 i3 i4 i5
    have hC := cfgR_ok wy6
    by_cases hlt : i < l.length
    · by_cases h60 : i < 60
      · refine .inl ?_
        have hget : l.getD i wt.dflt = l[i] := by simp [List.getD, hlt]
        have hw := hl l[i] (List.getElem_mem hlt)
        generalize hW : l[i] = w at *
        have hc := cA_true (w := w) (m := m) (l := l) (by omega) h2 i3 i4 (by omega) hlt h60 hw
        have hv := vis_b (w := w) (by omega) i4
        have hbl := bW_len (w := w) (by omega) i4
        have hwi : IntKind.i64.wrap ((i : Int) + 1) = ((i + 1 : Nat) : Int) := by rw [wrap_in (by omega) (by omega)]; rfl
        cases hy : wY w with
        | false =>
          have hr := Tr.run_path _ _ _ (rndS_A n i torn (strOfNums dur) dur b b q m l) (by
            rw [rndS_AC, Int.toNat_natCast, hget, hc, hy]; rfl)
          rw [Int.toNat_natCast, hget, hv, hwi] at hr
          exact ⟨⟨i + 1, dur, bW b n w, qW q m n w, m + 1⟩, SemC.of_evM hC Try.func7 body7 lies7 hr, ⟨by show i + 1 ≤ 60; omega, by show i + 1 ≤ l.length; omega, i3, hbl, by show m + 1 ≤ i + 1; omega⟩, by show l.length - (i + 1) < l.length - i; omega⟩
        | true =>
          have hds : durS dur (bW b n w) n = bW b n w := by
            unfold durS
            rw [part_all hbl]
            exact cpy_all i3 hbl
          have hr := Tr.run_path _ _ _ (rndS_B n i torn (strOfNums dur) dur b b q m l) (by
            rw [rndS_BC, Int.toNat_natCast, hget, hc, cS_true, hy]; rfl)
          rw [Int.toNat_natCast, hget, hv, hds, hwi, part_all hbl] at hr
          exact ⟨⟨i + 1, bW b n w, bW b n w, qS (qW q m n w) (m + 1), 0⟩, SemC.of_evM hC Try.func7 body7 lies7 hr, ⟨by show i + 1 ≤ 60; omega, by show i + 1 ≤ l.length; omega, hbl, hbl, Nat.zero_le _⟩, by show l.length - (i + 1) < l.length - i; omega⟩
      · refine .inr ⟨⟨dur, b, q, m⟩, ⟨i3, i4, by show m ≤ 60; omega⟩, ?_⟩
        have hr := Tr.run_path _ _ _ (rndS_F n i torn (strOfNums dur) dur b b q m l) (by rw [rndS_FC, decide_eq_true (by omega), decide_eq_false (by omega)])
        exact SemC.of_evM hC Try.func7 body7 lies7 hr
    · refine .inr ⟨⟨dur, b, q, m⟩, ⟨i3, i4, by show m ≤ 60; omega⟩, ?_⟩
      have hr := Tr.run_path _ _ _ (rndS_E n i torn (strOfNums dur) dur b b q m l) (by rw [rndS_EC, decide_eq_false (by omega)])
      exact SemC.of_evM hC Try.func7 body7 lies7 hr)
end D
end Go.Proofs.Ytnjjkobijjdnbaa

/- Package disk: the entry of the loop of DiskSynced. -/
set_option linter.unusedVariables false
set_option linter.unusedSimpArgs false
set_option maxRecDepth 100000
set_option maxHeartbeats 4000000
namespace Go.Proofs.Ytnjjkobijjdnbaa
open Go
namespace D
def PostS (n torn : Int) (l : List (Ty.den wt)) (b dur : List Int) (z : ZS) : Prop :=
  (z.dur.length = n.toNat ∧ z.vis.length = n.toNat ∧ z.m ≤ 60) ∧ SemL Try.prog G0 (lp 7 0) (hdS n 0 torn (strOfNums dur) dur b b [] 0 l) (.exit 0) (outS n torn z)
open Classical in
/-- Where the loop ends. -/
noncomputable def zS (n torn : Int) (l : List (Ty.den wt)) (b dur : List Int) : ZS := if h : ∃ z, PostS n torn l b dur z then Classical.choose h else ⟨[], [], [], 0⟩
theorem zS_ok {n torn : Int} {l : List (Ty.den wt)} {b dur : List Int} (h1 : 1 ≤ n) (h2 : n ≤ 300) (hl : ∀ w ∈ l, inr (wO w) = true) (hd : dur.length = n.toNat) (hb : b.length = n.toNat) : PostS n torn l b dur (zS n torn l b dur) := by
  have h : ∃ z, PostS n torn l b dur z := by
    obtain ⟨z, h3, h4⟩ := s_loop n torn h1 h2 l hl ⟨0, dur, b, [], 0⟩ ⟨Nat.zero_le _, Nat.zero_le _, hd, hb, Nat.le_refl _⟩
    exact ⟨z, h3, h4⟩
  unfold zS
  rw [dif_pos h]
  exact Classical.choose_spec h
def eqB (x y : ByteArray) : Bool := decide (x.data = y.data)
theorem eqB_eq {x y : ByteArray} (h : eqB x y = true) : x = y := by
  have := of_decide_eq_true h
  cases x; cases y; simpa using this
/-- The entry of the law's loop. -/
noncomputable def sE : LEnt := ⟨102, [0, 1, 2, 7, 8, 10, 11, 12], fun kh kt vs ob nm =>
  match vs, ob, nm with
  | [.si .i64 n, .slst .ro (.agg [.int .i64, .str, .bool]) l, .si .i64 torn, .b true, .ptr 0 0, .bs true 0 0 n0, .ss sure, .i .i64 z], [some [.b false, .i .i64 y, .bs true 1 0 n1, .bs true 2 0 n2, .lst .full []]], [some (.live (.arr (.int .u8) b)), some (.live (.arr (.int .u8) dur)), some (.live (.arr (.int .u8) vis))] =>
    match Nat.beq kh 0, Nat.beq kt 0, decide (z = 0), decide (y = 0) with
    | true, true, true, true => some (.br (decide (n0 = n.toNat ∧ n1 = n.toNat ∧ n2 = n.toNat ∧ 1 ≤ n ∧ n ≤ 300 ∧ b.length = n.toNat ∧ dur.length = n.toNat) && (eqL vis b && (eqB sure (strOfNums dur) && (show List (Ty.den wt) from l).all fun w => inr (wO w)))) (.leaf (some (.exit 0, outS n torn (zS n torn l b dur)))) (.leaf none))
    | _, _, _, _ => none
  | _, _, _ => none⟩
theorem sE_ok {kh kt : Nat} {vs : List V} {ob : Ob} {nm : Nm} {t : Tr (Ex × St)} {ex : Ex} {x : St} (h : sE.go kh kt vs ob nm = some t) (ht : t.run = some (ex, x)) : SemL Try.prog G0 (lp 7 0) (St.of sE.n sE.lv vs ob nm kh kt) ex.to x := by
  simp only [sE] at h
  split at h
  · rename_i n l torn n0 sure z y n1 n2 b dur vis
    split at h
    · rename_i e1 e2 e3 e4
      obtain rfl := Nat.eq_of_beq_eq_true e1
      obtain rfl := Nat.eq_of_beq_eq_true e2
      obtain rfl := of_decide_eq_true e3
      obtain rfl := of_decide_eq_true e4
      cases h
      simp only [Tr.run] at ht
      split at ht
      · rename_i hc
        rw [Bool.and_eq_true, Bool.and_eq_true, Bool.and_eq_true, decide_eq_true_eq] at hc
        obtain ⟨⟨rfl, rfl, rfl, h1, h2, h3, h4⟩, h5, h7, h6⟩ := hc
        have h5 : vis = b := eqL_eq h5
        subst h5
        obtain rfl := eqB_eq h7
        cases ht
        have hl : ∀ w ∈ (show List (Ty.den wt) from l), inr (wO w) = true := fun w hw => List.all_eq_true.1 h6 w hw
        have key := (zS_ok (torn := torn) h1 h2 hl h4 h3).2
        have key2 : SemL Try.prog G0 (lp 7 0) (St.of 102 [0, 1, 2, 7, 8, 10, 11, 12] [.si .i64 n, .slst .ro wt l, .si .i64 torn, .b true, .ptr 0 0, .bs true 0 0 n.toNat, .ss (strOfNums dur), .i .i64 0] [some [.b false, .i .i64 0, .bs true 1 0 n.toNat, .bs true 2 0 n.toNat, .bs true 3 0 0]] [some (.live (.arr (.int .u8) vis)), some (.live (.arr (.int .u8) dur)), some (.live (.arr (.int .u8) vis)), some (.live (.arr wp []))] 0 0) (.exit 0) (outS n torn (zS n torn l vis dur)) := by
          refine key.pre (St.of_imp rfl ?_)
          intro G j v v' a b cv hv
          match j, a, b with
          | 0, a, b => simp at a b; subst a; subst b; exact hv
          | 1, a, b => simp at a b; subst a; subst b; exact hv
          | 2, a, b => simp at a b; subst a; subst b; exact hv
          | 3, a, b => simp at a b; subst a; subst b; exact hv
          | 4, a, b => simp at a b; subst a; subst b; exact hv
          | 5, a, b => simp at a b; subst a; subst b; exact hv
          | 6, a, b => simp at a b; subst a; subst b; exact hv
          | 7, a, b => simp at a b; subst a; subst b; cases hv; exact .si _ _
          | n + 8, a, b => simp at a
        exact key2.pre (St.birthO (Γ := G0) (kh := 0) (kt := 0) (n := 102) (lv := [0, 1, 2, 7, 8, 10, 11, 12]) (vs := [.si .i64 n, .slst .ro wt l, .si .i64 torn, .b true, .ptr 0 0, .bs true 0 0 n.toNat, .ss (strOfNums dur), .i .i64 0]) (ob := [some [.b false, .i .i64 0, .bs true 1 0 n.toNat, .bs true 2 0 n.toNat, .lst .full []]])
          (nm := [some (.live (.arr (.int .u8) vis)), some (.live (.arr (.int .u8) dur)), some (.live (.arr (.int .u8) vis))]) (c := .arr wp []) 0 4 rfl rfl rfl)
      · cases ht
    · cases h
  · cases h
noncomputable def lo3 : LOrc := fun f i => match Nat.beq f 7, i with | true, 0 => some sE | _, _ => lo1 f i
theorem lo3_ok : LOrcOk Try.prog G0 lo3 := fun f i e h => by
  simp only [lo3] at h
  split at h
  · rename_i hf
    obtain rfl := Nat.eq_of_beq_eq_true hf
    cases h
    exact ⟨Try.f7, root 7, lp 7 0, Try.func7, body7, lp7, fun kh kt vs ob nm t ex s h1 h2 => sE_ok h1 h2⟩
  · exact lo1_ok _ _ _ h
noncomputable def cfgT : Cfg := { cfgR wy7 with lo := lo3 }
theorem cfgT_ok : CfgOk Try.prog G0 cfgT := { cfgR_ok wy7 with lo := lo3_ok }
end D
end Go.Proofs.Ytnjjkobijjdnbaa

/- Package disk: DiskSynced answers true. -/
set_option linter.unusedVariables false
set_option linter.unusedSimpArgs false
set_option maxRecDepth 100000
set_option maxHeartbeats 4000000
namespace Go.Proofs.Ytnjjkobijjdnbaa
open Go
namespace D
/-- What New and make ask for. -/
def mkOk (N : Int) : Bool := decide (0 ≤ N ∧ N ≤ N ∧ 1 * N ≤ 281474976710656 ∧ N ≤ 9223372036854775807)
def newOk (N : Int) : Bool := !decide (N < 1) && (some (!decide (N > 4194304) && (some (mkOk N && (some (mkOk N && true)).getD true)).getD true)).getD true
theorem mkOk_true {N : Int} (h1 : 1 ≤ N) (h2 : N ≤ 1000) : mkOk N = true := decide_eq_true ⟨by omega, by omega, by omega, by omega⟩
theorem newOk_true {N : Int} (h1 : 1 ≤ N) (h2 : N ≤ 1000) : newOk N = true := by
  unfold newOk
  rw [mkOk_true h1 h2, decide_eq_false (show ¬ N < 1 by omega), decide_eq_false (show ¬ N > 4194304 by omega)]
  rfl
def rep (N : Int) : List Int := List.replicate N.toNat 0
theorem rep_len (N : Int) : (rep N).length = N.toNat := List.length_replicate
/-- What the loop's entry asks for. -/
def entOk (N : Int) (b dur : List Int) : Bool := decide (N.toNat = N.toNat ∧ N.toNat = N.toNat ∧ N.toNat = N.toNat ∧ 1 ≤ N ∧ N ≤ 300 ∧ b.length = N.toNat ∧ dur.length = N.toNat)
theorem entOk_true {N : Int} {b dur : List Int} (h1 : 1 ≤ N) (h2 : N ≤ 300) (h3 : b.length = N.toNat) (h4 : dur.length = N.toNat) : entOk N b dur = true := decide_eq_true ⟨rfl, rfl, rfl, h1, h2, h3, h4⟩
def cSl (m : Nat) : Bool := decide ((0 : Int) ≤ 0 ∧ 0 ≤ Bd.hi (some (IntKind.i64, 0, false)) m ∧ Bd.hi (some (IntKind.i64, 0, false)) m ≤ (m : Int)) && true && true
theorem cSl_true (m : Nat) : cSl m = true := by
  unfold cSl
  rw [decide_eq_true (by simp only [Bd.hi]; omega)]; rfl
def rdOk (dur vis : List Int) (n : Int) : Bool := decide (0 ≤ n ∧ n ≤ ((part dur n).length : Int) ∧ n ≤ ((part vis n).length : Int) ∧ (part dur n).length ≤ 4194304)
theorem rdOk_true {dur vis : List Int} {n : Int} (hn : 0 ≤ n) (hn2 : n ≤ 1000) (hd : dur.length = n.toNat) (hb : vis.length = n.toNat) : rdOk dur vis n = true := by
  unfold rdOk
  rw [part_all hd, part_all hb]
  exact decide_eq_true ⟨hn, by omega, by omega, by omega⟩
noncomputable def zz (n k : Int) (l : List (Ty.den wt)) : ZS := zS (sz n 300) k l (rep (sz n 300)) (rep (sz n 300))
theorem s_run (n k : Int) (l : List (Ty.den wt)) : run cfgT 7 [.si .i64 n, .slst .ro wt l, .si .i64 k] =
  .ok (some (inr n && decide ((300 : Int) ≠ 0) && (newOk (sz n 300) && (mkOk (sz n 300) && ((entOk (sz n 300) (rep (sz n 300)) (rep (sz n 300)) && (eqL (rep (sz n 300)) (rep (sz n 300)) && (eqB (strOfNums (part (rep (sz n 300)) (sz n 300))) (strOfNums (rep (sz n 300))) && (show List (Ty.den wt) from l).all fun w => inr (wO w)))) && (cSl (zz n k l).m && rdOk (zz n k l).dur (durS (zz n k l).vis (zz n k l).dur (sz n 300)) (sz n 300)))))))
    (.sb (bif true then bif (strOfNums (List.take (sz n 300).toNat (part (durS (zz n k l).vis (zz n k l).dur (sz n 300)) (sz n 300)))).toList == (strOfNums (zz n k l).dur).toList then ((0 : Nat) : Int) == (0 : Int) else false else false)) := by kernel_rfl
theorem law7 (n k : Int) (l : List (Ty.den wt)) (hn : inr n = true) (hl : ∀ w ∈ l, inr (wO w) = true) : SemF Try.prog G0 7 [.si .i64 n, .slst .ro wt l, .si .i64 k] [] [] (.sb true) [] [] := by
  obtain ⟨h1, h2⟩ := sz_in (n := n) (m := 300) (by decide) (by decide)
  have hz := (zS_ok (torn := k) (b := rep (sz n 300)) (dur := rep (sz n 300)) h1 h2 hl (rep_len _) (rep_len _)).1
  have hz : (zz n k l).dur.length = (sz n 300).toNat ∧ (zz n k l).vis.length = (sz n 300).toNat ∧ (zz n k l).m ≤ 60 := hz
  have hv : durS (zz n k l).vis (zz n k l).dur (sz n 300) = (zz n k l).dur := by
    unfold durS
    rw [part_all hz.1]
    exact cpy_all hz.2.1 hz.1
  have e4 : (show List (Ty.den wt) from l).all (fun w => inr (wO w)) = true := List.all_eq_true.2 hl
  refine of_run cfgT_ok (s_run n k l) ?_ ?_
  · rw [hv, hn, newOk_true h1 (by omega), mkOk_true h1 (by omega), entOk_true h1 h2 (rep_len _) (rep_len _), part_all (rep_len _), cSl_true, rdOk_true (by omega) (by omega) hz.1 hz.1, e4, show eqL (rep (sz n 300)) (rep (sz n 300)) = true from decide_eq_true rfl, show eqB (strOfNums (rep (sz n 300))) (strOfNums (rep (sz n 300))) = true from decide_eq_true rfl]
    rfl
  · rw [hv, part_all hz.1, ← hz.1, List.take_length]
    simp
end D
end Go.Proofs.Ytnjjkobijjdnbaa

/- Package disk: a round of the loop of DiskTwins, reckoned; the loop. -/
set_option linter.unusedVariables false
set_option linter.unusedSimpArgs false
set_option maxRecDepth 100000
set_option maxHeartbeats 8000000
namespace Go.Proofs.Ytnjjkobijjdnbaa
open Go
namespace D
/-- A disk's contents: durable, visible; the pending writes, so many. -/
structure DS where
  dur : List Int
  vis : List Int
  q : List (Ty.den wp)
  m : Nat
def u8 (l : List Int) : Option Bf := some (.live (.arr (.int .u8) l))
def pq (l : List (Ty.den wp)) : Option Bf := some (.live (.arr wp l))
def dob (n : Int) (k m : Nat) : Option (List V) := some [.b false, .i .i64 0, .bs true k 0 n.toNat, .bs true (k + 1) 0 n.toNat, .bs true (k + 2) 0 m]
/-- Behind a write, a Sync, a crash in which nothing survives. -/
def DS.w (s : DS) (n : Int) (w : Ty.den wt) : DS := ⟨s.dur, visW s.vis n w, qW s.q s.m n w, s.m + 1⟩
def DS.s (s : DS) (n : Int) : DS := ⟨durS s.dur s.vis n, s.vis, qS s.q s.m, 0⟩
def DS.c (s : DS) (n : Int) : DS := ⟨s.dur, durS s.vis s.dur n, qS s.q s.m, 0⟩
noncomputable def hdW (n i : Int) (c d a : DS) (l : List (Ty.den wt)) : St := St.of 150 [0, 1, 5, 6, 8, 10, 12] [.si .i64 n, .slst .ro wt l, .b true, .ptr 0 0, .ptr 1 0, .ptr 2 0, .si .i64 i]
  [dob n 0 c.m, dob n 3 d.m, dob n 6 a.m] [u8 c.dur, u8 c.vis, pq c.q, u8 d.dur, u8 d.vis, pq d.q, u8 a.dur, u8 a.vis, pq a.q]
def lveW : Ex → List Nat | .normal => [0, 1, 5, 6, 8, 10, 12] | _ => [0, 5, 6, 10]
noncomputable def rndW (n i : Int) (c d a : DS) (l : List (Ty.den wt)) := outa lveW (evCK Try.prog G0 (cfM Try.prog G0 (cfgR wy6) 30) ((cfgR wy6).lo 11) [] 60 1 (lp 11 0) (hdW n i c d a l))
/-- A round's end. -/
def endW (n i : Int) (c d a : DS) (l : List (Ty.den wt)) : Option (Ex × List V × Ob × Nm × Nat × Nat × Nat) := some (.normal, [.si .i64 n, .slst .ro wt l, .b true, .ptr 0 0, .ptr 1 0, .ptr 2 0, .si .i64 (IntKind.i64.wrap (i + 1))],
  [dob n 0 c.m, dob n 3 d.m, dob n 6 a.m], [u8 c.dur, u8 c.vis, pq c.q, u8 d.dur, u8 d.vis, pq d.q, u8 a.dur, u8 a.vis, pq a.q], 150, 0, 0)
def exW (n : Int) (c a : DS) : Option (Ex × List V × Ob × Nm × Nat × Nat × Nat) := some (.exit 0, [.si .i64 n, .b true, .ptr 0 0, .ptr 1 0], [dob n 0 c.m, dob n 3 a.m], [u8 c.dur, u8 c.vis, pq c.q, u8 a.dur, u8 a.vis, pq a.q], 150, 0, 0)
/-- What Write asks for. -/
def cV (dur : List Int) (m : Nat) (n : Int) (w : Ty.den wt) : Bool :=
  (!(!(bif decide (fo (wO w) n ≥ 0) then bif decide (((fs (wS w) (wO w) n).size : Int) ≥ 0) then bif decide (fo (wO w) n ≤ ((part dur n).length : Int)) then decide (((fs (wS w) (wO w) n).size : Int) ≤ IntKind.i64.wrap (((part dur n).length : Int) - fo (wO w) n)) else false else false else false))) &&
     (some (decide ((m + 1) * 2 * 24 ≤ 281474976710656) && (some (decide (0 ≤ fo (wO w) n ∧ fo (wO w) n ≤ Bd.hi none n.toNat ∧ Bd.hi none n.toNat ≤ (n.toNat : Int)) && true && true)).getD true)).getD true
def cT (n i : Int) (l : List (Ty.den wt)) (w : Ty.den wt) : List Bool := [decide (i < (l.length : Int)), decide (i < 30), decide (0 ≤ i ∧ i < (l.length : Int)), inr (wO w) && decide (0 ≤ n ∧ n ≤ 4194304), i.tmod 2 == 1]
def c7 (n : Int) (w : Ty.den wt) : Bool := (fo (wO w) n).tmod 7 == 3
section
variable (n i : Int) (c d a : DS) (l : List (Ty.den wt))
theorem rndW_1 : (rndW n i c d a l).path [true, true, true, true, true, true, false, false] = endW n i c (d.w n (l.getD i.toNat wt.dflt)) a l := by kernel_rfl
theorem rndW_2 : (rndW n i c d a l).path [true, true, true, true, true, true, false, true, true] = endW n i c ((d.w n (l.getD i.toNat wt.dflt)).c n) a l := by kernel_rfl
theorem rndW_3 : (rndW n i c d a l).path [true, true, true, true, true, true, true, true, false] = endW n i c ((d.w n (l.getD i.toNat wt.dflt)).s n) a l := by kernel_rfl
theorem rndW_4 : (rndW n i c d a l).path [true, true, true, true, true, true, true, true, true, true] = endW n i c (((d.w n (l.getD i.toNat wt.dflt)).s n).c n) a l := by kernel_rfl
theorem rndW_5 : (rndW n i c d a l).path [true, true, true, true, false, true, true, false] = endW n i (c.w n (l.getD i.toNat wt.dflt)) d (a.w n (l.getD i.toNat wt.dflt)) l := by kernel_rfl
theorem rndW_6 : (rndW n i c d a l).path [true, true, true, true, false, true, true, true, true, true] = endW n i ((c.w n (l.getD i.toNat wt.dflt)).s n) d ((a.w n (l.getD i.toNat wt.dflt)).s n) l := by kernel_rfl
theorem rndW_E : (rndW n i c d a l).path [false] = exW n c a := by kernel_rfl
theorem rndW_F : (rndW n i c d a l).path [true, false] = exW n c a := by kernel_rfl
theorem rndW_1C : (rndW n i c d a l).conds [true, true, true, true, true, true, false, false] = cT n i l (l.getD i.toNat wt.dflt) ++ [cV d.dur d.m n (l.getD i.toNat wt.dflt), wY (l.getD i.toNat wt.dflt), c7 n (l.getD i.toNat wt.dflt)] := by kernel_rfl
theorem rndW_2C : (rndW n i c d a l).conds [true, true, true, true, true, true, false, true, true] = cT n i l (l.getD i.toNat wt.dflt) ++ [cV d.dur d.m n (l.getD i.toNat wt.dflt), wY (l.getD i.toNat wt.dflt), c7 n (l.getD i.toNat wt.dflt), cS d.m] := by kernel_rfl
theorem rndW_3C : (rndW n i c d a l).conds [true, true, true, true, true, true, true, true, false] = cT n i l (l.getD i.toNat wt.dflt) ++ [cV d.dur d.m n (l.getD i.toNat wt.dflt), wY (l.getD i.toNat wt.dflt), cS d.m, c7 n (l.getD i.toNat wt.dflt)] := by kernel_rfl
theorem rndW_4C : (rndW n i c d a l).conds [true, true, true, true, true, true, true, true, true, true] = cT n i l (l.getD i.toNat wt.dflt) ++ [cV d.dur d.m n (l.getD i.toNat wt.dflt), wY (l.getD i.toNat wt.dflt), cS d.m, c7 n (l.getD i.toNat wt.dflt), cSl 0] := by kernel_rfl
theorem rndW_5C : (rndW n i c d a l).conds [true, true, true, true, false, true, true, false] = cT n i l (l.getD i.toNat wt.dflt) ++ [cV c.dur c.m n (l.getD i.toNat wt.dflt), cV a.dur a.m n (l.getD i.toNat wt.dflt), wY (l.getD i.toNat wt.dflt)] := by kernel_rfl
theorem rndW_6C : (rndW n i c d a l).conds [true, true, true, true, false, true, true, true, true, true] = cT n i l (l.getD i.toNat wt.dflt) ++ [cV c.dur c.m n (l.getD i.toNat wt.dflt), cV a.dur a.m n (l.getD i.toNat wt.dflt), wY (l.getD i.toNat wt.dflt), cS c.m, cS a.m] := by kernel_rfl
theorem rndW_EC : (rndW n i c d a l).conds [false] = [decide (i < (l.length : Int))] := by kernel_rfl
theorem rndW_FC : (rndW n i c d a l).conds [true, false] = [decide (i < (l.length : Int)), decide (i < 30)] := by kernel_rfl
end
end D
end Go.Proofs.Ytnjjkobijjdnbaa

/- Package disk: the loop of DiskTwins, and its entry. -/
set_option linter.unusedVariables false
set_option linter.unusedSimpArgs false
set_option maxRecDepth 100000
set_option maxHeartbeats 4000000
namespace Go.Proofs.Ytnjjkobijjdnbaa
open Go
namespace D
def DS.ok (s : DS) (n : Int) : Prop := s.dur.length = n.toNat ∧ s.vis.length = n.toNat
theorem durS_eq {dur vis : List Int} {n : Int} (h1 : dur.length = n.toNat) (h2 : vis.length = n.toNat) : durS dur vis n = vis := by
  unfold durS
  rw [part_all h2]
  exact cpy_all h1 h2
theorem DS.ok_w {s : DS} {n : Int} {w : Ty.den wt} (h : s.ok n) (hn : 0 ≤ n) : (s.w n w).ok n := ⟨h.1, by
  show (visW s.vis n w).length = n.toNat
  rw [vis_b hn h.2]
  exact bW_len hn h.2⟩
theorem DS.ok_s {s : DS} {n : Int} (h : s.ok n) : (s.s n).ok n := ⟨by
  show (durS s.dur s.vis n).length = n.toNat
  rw [durS_eq h.1 h.2]; exact h.2, h.2⟩
theorem DS.ok_c {s : DS} {n : Int} (h : s.ok n) : (s.c n).ok n := ⟨h.1, by
  show (durS s.vis s.dur n).length = n.toNat
  rw [durS_eq h.2 h.1]; exact h.1⟩
theorem cV_true {dur : List Int} {m : Nat} {n : Int} {w : Ty.den wt} (hn : 0 ≤ n) (hn2 : n ≤ 300) (hd : dur.length = n.toNat) (hm : m ≤ 60) : cV dur m n w = true := by
  have h := cW_true (w := w) (dur := dur) (b := dur) (m := m) hn hn2 hd hd hm
  have e : cW dur dur m n (fo (wO w) n) (fs (wS w) (wO w) n) = [decide (0 ≤ fo (wO w) n ∧ fo (wO w) n + ((fs (wS w) (wO w) n).size : Int) ≤ (n.toNat : Int) ∧ n.toNat ≤ dur.length ∧ n.toNat ≤ 4194304) && true, cV dur m n w] := rfl
  rw [e] at h
  simpa using (List.cons.inj (List.cons.inj h).2).1
theorem body11 : Try.f11.body = some (root 11) := by kernel_rfl
theorem lp11 : (loops (root 11))[0]? = some (lp 11 0) := by kernel_rfl
theorem lies11 : Lies (root 11) 1 (lp 11 0) := Lies.of_take (n := 0) (by kernel_rfl)
/-- Two disks with the same contents. -/
def twin (c a : DS) : Prop := c = a
structure WS where
  i : Nat
  c : DS
  d : DS
  a : DS
def WInv (n : Int) (l : List (Ty.den wt)) (s : WS) : Prop := s.i ≤ 30 ∧ s.i ≤ l.length ∧ s.c.ok n ∧ s.d.ok n ∧ s.a.ok n ∧ twin s.c s.a ∧ s.c.m ≤ s.i ∧ s.d.m ≤ s.i
noncomputable def outW (n : Int) (z : DS × DS) : St := St.of 150 [0, 5, 6, 10] [.si .i64 n, .b true, .ptr 0 0, .ptr 1 0] [dob n 0 z.1.m, dob n 3 z.2.m] [u8 z.1.dur, u8 z.1.vis, pq z.1.q, u8 z.2.dur, u8 z.2.vis, pq z.2.q] 0 0
def PostW (n : Int) (z : DS × DS) : Prop := z.1.ok n ∧ z.2.ok n ∧ twin z.1 z.2
theorem w_loop (n : Int) (h1 : 1 ≤ n) (h2 : n ≤ 300) (l : List (Ty.den wt)) (hl : ∀ w ∈ l, inr (wO w) = true) : ∀ s : WS, WInv n l s →
    ∃ z : DS × DS, PostW n z ∧ SemL Try.prog G0 (lp 11 0) (hdW n s.i s.c s.d s.a l) (.exit 0) (outW n z) :=
  SemL.indE (P := Try.prog) (Γ := G0) (b := lp 11 0) (fun s : WS => hdW n s.i s.c s.d s.a l) (fun s => l.length - s.i) (.exit 0) (by simp) (outW n) (WInv n l) (PostW n) (fun s ⟨i1, i2, i3, i4, i5, i6, i7, i8⟩ => by
    obtain ⟨i, c, d, a⟩ := s
    simp only at i1 i2 i3 i4 i5 i6 i7 i8
    have hC := cfgR_ok wy6
    have hn : 0 ≤ n := by omega
    by_cases hlt : i < l.length
    · by_cases h60 : i < 30
      · refine .inl ?_
        have hget : l.getD i wt.dflt = l[i] := by simp [List.getD, hlt]
        have hw := hl l[i] (List.getElem_mem hlt)
        generalize hW : l[i] = w at *
        have hwi : IntKind.i64.wrap ((i : Int) + 1) = ((i + 1 : Nat) : Int) := by rw [wrap_in (by omega) (by omega)]; rfl
        have hT : cT n i l w = [true, true, true, true, (i : Int).tmod 2 == 1] := by
          unfold cT
          rw [decide_eq_true (show (i : Int) < (l.length : Int) by omega), decide_eq_true (show (i : Int) < 30 by omega), decide_eq_true (show 0 ≤ (i : Int) ∧ (i : Int) < (l.length : Int) from ⟨by omega, by omega⟩), hw, decide_eq_true (show 0 ≤ n ∧ n ≤ 4194304 from ⟨hn, by omega⟩)]
          rfl
        have hVd : cV d.dur d.m n w = true := cV_true hn h2 i4.1 (by omega)
        have hVc : cV c.dur c.m n w = true := cV_true hn h2 i3.1 (by omega)
        have hVa : cV a.dur a.m n w = true := cV_true hn h2 i5.1 (by rw [← (show c = a from i6)]; omega)
        have fin : ∀ (c' d' a' : DS), c'.ok n → d'.ok n → a'.ok n → twin c' a' → c'.m ≤ i + 1 → d'.m ≤ i + 1 → (rndW n i c d a l).run = endW n i c' d' a' l → ∃ s' : WS, SemC Try.prog G0 (lp 11 0) (hdW n i c d a l) .normal (hdW n s'.i s'.c s'.d s'.a l) ∧ WInv n l s' ∧ l.length - s'.i < l.length - i := fun c' d' a' o1 o2 o3 o4 o5 o6 hr => by
          unfold endW at hr
          rw [hwi] at hr
          exact ⟨⟨i + 1, c', d', a'⟩, SemC.of_evM hC Try.func11 body11 lies11 hr, ⟨by show i + 1 ≤ 30; omega, by show i + 1 ≤ l.length; omega, o1, o2, o3, o4, o5, o6⟩, by show l.length - (i + 1) < l.length - i; omega⟩
        have okd := DS.ok_w (w := w) i4 hn
        have okc := DS.ok_w (w := w) i3 hn
        have oka := DS.ok_w (w := w) i5 hn
        have tw : twin (c.w n w) (a.w n w) := congrArg (fun s : DS => s.w n w) i6
        have tws : twin ((c.w n w).s n) ((a.w n w).s n) := congrArg (fun s : DS => (s.w n w).s n) i6
        have cm0 : ∀ k, c.m ≤ i → c.m ≤ i + 1 := fun _ h => by omega
        cases h2i : ((i : Int).tmod 2 == 1) with
        | true =>
          cases hy : wY w with
          | false =>
            cases h7 : c7 n w with
            | false =>
              have e := rndW_1 n i c d a l
              rw [Int.toNat_natCast, hget] at e
              exact fin _ _ _ i3 okd i5 i6 (by omega) (by show d.m + 1 ≤ i + 1; omega) (by
                have := Tr.run_path _ _ _ e (by rw [rndW_1C, Int.toNat_natCast, hget, hT, hVd, hy, h7, h2i]; rfl)
                exact this)
            | true =>
              have e := rndW_2 n i c d a l
              rw [Int.toNat_natCast, hget] at e
              exact fin _ _ _ i3 (DS.ok_c okd) i5 i6 (by omega) (Nat.zero_le _) (by
                have := Tr.run_path _ _ _ e (by rw [rndW_2C, Int.toNat_natCast, hget, hT, hVd, hy, h7, h2i, cS_true]; rfl)
                exact this)
          | true =>
            cases h7 : c7 n w with
            | false =>
              have e := rndW_3 n i c d a l
              rw [Int.toNat_natCast, hget] at e
              exact fin _ _ _ i3 (DS.ok_s okd) i5 i6 (by omega) (Nat.zero_le _) (by
                have := Tr.run_path _ _ _ e (by rw [rndW_3C, Int.toNat_natCast, hget, hT, hVd, hy, h7, h2i, cS_true]; rfl)
                exact this)
            | true =>
              have e := rndW_4 n i c d a l
              rw [Int.toNat_natCast, hget] at e
              exact fin _ _ _ i3 (DS.ok_c (DS.ok_s okd)) i5 i6 (by omega) (Nat.zero_le _) (by
                have := Tr.run_path _ _ _ e (by rw [rndW_4C, Int.toNat_natCast, hget, hT, hVd, hy, h7, h2i, cS_true, cSl_true]; rfl)
                exact this)
        | false =>
          cases hy : wY w with
          | false =>
            have e := rndW_5 n i c d a l
            rw [Int.toNat_natCast, hget] at e
            exact fin _ _ _ okc i4 oka tw (by show c.m + 1 ≤ i + 1; omega) (by omega) (by
              have := Tr.run_path _ _ _ e (by rw [rndW_5C, Int.toNat_natCast, hget, hT, hVc, hVa, hy, h2i]; rfl)
              exact this)
          | true =>
            have e := rndW_6 n i c d a l
            rw [Int.toNat_natCast, hget] at e
            exact fin _ _ _ (DS.ok_s okc) i4 (DS.ok_s oka) tws (Nat.zero_le _) (by omega) (by
              have := Tr.run_path _ _ _ e (by rw [rndW_6C, Int.toNat_natCast, hget, hT, hVc, hVa, hy, h2i, cS_true, cS_true]; rfl)
              exact this)
      · refine .inr ⟨(c, a), ⟨i3, i5, i6⟩, ?_⟩
        have hr := Tr.run_path _ _ _ (rndW_F n i c d a l) (by rw [rndW_FC, decide_eq_true (by omega), decide_eq_false (by omega)])
        exact SemC.of_evM hC Try.func11 body11 lies11 hr
    · refine .inr ⟨(c, a), ⟨i3, i5, i6⟩, ?_⟩
      have hr := Tr.run_path _ _ _ (rndW_E n i c d a l) (by rw [rndW_EC, decide_eq_false (by omega)])
      exact SemC.of_evM hC Try.func11 body11 lies11 hr)
end D
end Go.Proofs.Ytnjjkobijjdnbaa

/- Package disk: the entry of the loop of DiskTwins. -/
set_option linter.unusedVariables false
set_option linter.unusedSimpArgs false
set_option maxRecDepth 100000
set_option maxHeartbeats 4000000
namespace Go.Proofs.Ytnjjkobijjdnbaa
open Go
namespace D
def PostW0 (n : Int) (l : List (Ty.den wt)) (x y : List Int) (dx dy : List Int) (z : DS × DS) : Prop := PostW n z ∧ SemL Try.prog G0 (lp 11 0) (hdW n 0 ⟨x, y, [], 0⟩ ⟨dx, dy, [], 0⟩ ⟨x, y, [], 0⟩ l) (.exit 0) (outW n z)
open Classical in
/-- Where the loop ends. -/
noncomputable def zW (n : Int) (l : List (Ty.den wt)) (x y dx dy : List Int) : DS × DS := if h : ∃ z, PostW0 n l x y dx dy z then Classical.choose h else (⟨[], [], [], 0⟩, ⟨[], [], [], 0⟩)
theorem zW_ok {n : Int} {l : List (Ty.den wt)} {x y dx dy : List Int} (h1 : 1 ≤ n) (h2 : n ≤ 300) (hl : ∀ w ∈ l, inr (wO w) = true) (a1 : x.length = n.toNat) (a2 : y.length = n.toNat) (a3 : dx.length = n.toNat) (a4 : dy.length = n.toNat) : PostW0 n l x y dx dy (zW n l x y dx dy) := by
  have h : ∃ z, PostW0 n l x y dx dy z := by
    obtain ⟨z, h3, h4⟩ := w_loop n h1 h2 l hl ⟨0, ⟨x, y, [], 0⟩, ⟨dx, dy, [], 0⟩, ⟨x, y, [], 0⟩⟩ ⟨Nat.zero_le _, Nat.zero_le _, ⟨a1, a2⟩, ⟨a3, a4⟩, ⟨a1, a2⟩, rfl, Nat.le_refl _, Nat.le_refl _⟩
    exact ⟨z, h3, h4⟩
  unfold zW
  rw [dif_pos h]
  exact Classical.choose_spec h
def nob (n : Int) (k k' : Nat) (p : V) : Option (List V) := some [.b false, .i .i64 0, .bs true k 0 n.toNat, .bs true k' 0 n.toNat, p]
def svW (n : Int) (l : List (Ty.den wt)) (i : V) : List V := [.si .i64 n, .slst .ro wt l, .b true, .ptr 0 0, .ptr 1 0, .ptr 2 0, i]
/-- The head's state with its pending writes born. -/
theorem w_head {n : Int} {l : List (Ty.den wt)} {x y dx dy : List Int} {z : DS × DS} (h : SemL Try.prog G0 (lp 11 0) (hdW n 0 ⟨x, y, [], 0⟩ ⟨dx, dy, [], 0⟩ ⟨x, y, [], 0⟩ l) (.exit 0) (outW n z)) :
    SemL Try.prog G0 (lp 11 0) (St.of 150 [0, 1, 5, 6, 8, 10, 12] (svW n l (.i .i64 0)) [nob n 0 1 (.lst .full []), nob n 2 3 (.lst .full []), nob n 4 5 (.lst .full [])] [u8 x, u8 y, u8 dx, u8 dy, u8 x, u8 y] 0 0) (.exit 0) (outW n z) := by
  have e1 : SemL Try.prog G0 (lp 11 0) (St.of 150 [0, 1, 5, 6, 8, 10, 12] (svW n l (.si .i64 0)) [nob n 0 1 (.bs true 6 0 0), nob n 2 3 (.bs true 7 0 0), nob n 4 5 (.bs true 8 0 0)] [u8 x, u8 y, u8 dx, u8 dy, u8 x, u8 y, pq [], pq [], pq []] 0 0) (.exit 0) (outW n z) :=
    SemL.preRen (n := 150) (po := [0, 1, 2]) (pn := [0, 1, 6, 2, 3, 7, 4, 5, 8]) (lv := [0, 1, 5, 6, 8, 10, 12]) (by kernel_rfl) (show _ = some (svW n l (.si .i64 0), [dob n 0 0, dob n 3 0, dob n 6 0], [u8 x, u8 y, pq [], u8 dx, u8 dy, pq [], u8 x, u8 y, pq []]) by kernel_rfl) h
  have e2 : SemL Try.prog G0 (lp 11 0) (St.of 150 [0, 1, 5, 6, 8, 10, 12] (svW n l (.i .i64 0)) [nob n 0 1 (.bs true 6 0 0), nob n 2 3 (.bs true 7 0 0), nob n 4 5 (.bs true 8 0 0)] [u8 x, u8 y, u8 dx, u8 dy, u8 x, u8 y, pq [], pq [], pq []] 0 0) (.exit 0) (outW n z) := by
    refine e1.pre (St.of_imp rfl ?_)
    intro G j v v' a b cv hv
    match j, a, b with
    | 0, a, b => simp [svW] at a b; subst a; subst b; exact hv
    | 1, a, b => simp [svW] at a b; subst a; subst b; exact hv
    | 2, a, b => simp [svW] at a b; subst a; subst b; exact hv
    | 3, a, b => simp [svW] at a b; subst a; subst b; exact hv
    | 4, a, b => simp [svW] at a b; subst a; subst b; exact hv
    | 5, a, b => simp [svW] at a b; subst a; subst b; exact hv
    | 6, a, b => simp [svW] at a b; subst a; subst b; cases hv; exact .si _ _
    | n + 7, a, b => simp [svW] at a
  have e3 := e2.pre (St.birthO (Γ := G0) (kh := 0) (kt := 0) (n := 150) (lv := [0, 1, 5, 6, 8, 10, 12]) (vs := svW n l (.i .i64 0)) (ob := [nob n 0 1 (.bs true 6 0 0), nob n 2 3 (.bs true 7 0 0), nob n 4 5 (.lst .full [])]) (nm := [u8 x, u8 y, u8 dx, u8 dy, u8 x, u8 y, pq [], pq []]) (c := .arr wp []) 2 4 rfl rfl rfl)
  have e4 := e3.pre (St.birthO (Γ := G0) (kh := 0) (kt := 0) (n := 150) (lv := [0, 1, 5, 6, 8, 10, 12]) (vs := svW n l (.i .i64 0)) (ob := [nob n 0 1 (.bs true 6 0 0), nob n 2 3 (.lst .full []), nob n 4 5 (.lst .full [])]) (nm := [u8 x, u8 y, u8 dx, u8 dy, u8 x, u8 y, pq []]) (c := .arr wp []) 1 4 rfl rfl rfl)
  exact e4.pre (St.birthO (Γ := G0) (kh := 0) (kt := 0) (n := 150) (lv := [0, 1, 5, 6, 8, 10, 12]) (vs := svW n l (.i .i64 0)) (ob := [nob n 0 1 (.lst .full []), nob n 2 3 (.lst .full []), nob n 4 5 (.lst .full [])]) (nm := [u8 x, u8 y, u8 dx, u8 dy, u8 x, u8 y]) (c := .arr wp []) 0 4 rfl rfl rfl)
/-- The entry of the law's loop. -/
noncomputable def wE : LEnt := ⟨150, [0, 1, 5, 6, 8, 10, 12], fun kh kt vs ob nm =>
  match vs, ob, nm with
  | [.si .i64 n, .slst .ro (.agg [.int .i64, .str, .bool]) l, .b true, .ptr 0 0, .ptr 1 0, .ptr 2 0, .i .i64 z], [some [.b false, .i .i64 y0, .bs true 0 0 n0, .bs true 1 0 n1, .lst .full []], some [.b false, .i .i64 y1, .bs true 2 0 n2, .bs true 3 0 n3, .lst .full []], some [.b false, .i .i64 y2, .bs true 4 0 n4, .bs true 5 0 n5, .lst .full []]],
    [some (.live (.arr (.int .u8) x)), some (.live (.arr (.int .u8) y)), some (.live (.arr (.int .u8) dx)), some (.live (.arr (.int .u8) dy)), some (.live (.arr (.int .u8) ax)), some (.live (.arr (.int .u8) ay))] =>
    match Nat.beq kh 0, Nat.beq kt 0, decide (z = 0), decide (y0 = 0 ∧ y1 = 0 ∧ y2 = 0) with
    | true, true, true, true => some (.br (decide (n0 = n.toNat ∧ n1 = n.toNat ∧ n2 = n.toNat ∧ n3 = n.toNat ∧ n4 = n.toNat ∧ n5 = n.toNat ∧ 1 ≤ n ∧ n ≤ 300 ∧ x.length = n.toNat ∧ y.length = n.toNat ∧ dx.length = n.toNat ∧ dy.length = n.toNat) && (eqL ax x && (eqL ay y && (show List (Ty.den wt) from l).all fun w => inr (wO w)))) (.leaf (some (.exit 0, outW n (zW n l x y dx dy)))) (.leaf none))
    | _, _, _, _ => none
  | _, _, _ => none⟩
theorem wE_ok {kh kt : Nat} {vs : List V} {ob : Ob} {nm : Nm} {t : Tr (Ex × St)} {ex : Ex} {x : St} (h : wE.go kh kt vs ob nm = some t) (ht : t.run = some (ex, x)) : SemL Try.prog G0 (lp 11 0) (St.of wE.n wE.lv vs ob nm kh kt) ex.to x := by
  simp only [wE] at h
  split at h
  · rename_i n l z y0 n0 n1 y1 n2 n3 y2 n4 n5 x y dx dy ax ay
    split at h
    · rename_i e1 e2 e3 e4
      obtain rfl := Nat.eq_of_beq_eq_true e1
      obtain rfl := Nat.eq_of_beq_eq_true e2
      obtain rfl := of_decide_eq_true e3
      obtain ⟨rfl, rfl, rfl⟩ := of_decide_eq_true e4
      cases h
      simp only [Tr.run] at ht
      split at ht
      · rename_i hc
        rw [Bool.and_eq_true, Bool.and_eq_true, Bool.and_eq_true, decide_eq_true_eq] at hc
        obtain ⟨⟨rfl, rfl, rfl, rfl, rfl, rfl, h1, h2, h3, h4, h5, h6⟩, h7, h8, h9⟩ := hc
        have h7 : ax = x := eqL_eq h7
        have h8 : ay = y := eqL_eq h8
        subst h7
        subst h8
        cases ht
        have hl : ∀ w ∈ (show List (Ty.den wt) from l), inr (wO w) = true := fun w hw => List.all_eq_true.1 h9 w hw
        exact w_head (zW_ok h1 h2 hl h3 h4 h5 h6).2
      · cases ht
    · cases h
  · cases h
noncomputable def lo4 : LOrc := fun f i => match Nat.beq f 11, i with | true, 0 => some wE | _, _ => lo1 f i
theorem lo4_ok : LOrcOk Try.prog G0 lo4 := fun f i e h => by
  simp only [lo4] at h
  split at h
  · rename_i hf
    obtain rfl := Nat.eq_of_beq_eq_true hf
    cases h
    exact ⟨Try.f11, root 11, lp 11 0, Try.func11, body11, lp11, fun kh kt vs ob nm t ex s h1 h2 => wE_ok h1 h2⟩
  · exact lo1_ok _ _ _ h
noncomputable def cfgW : Cfg := { cfgR wy7 with lo := lo4 }
theorem cfgW_ok : CfgOk Try.prog G0 cfgW := { cfgR_ok wy7 with lo := lo4_ok }
end D
end Go.Proofs.Ytnjjkobijjdnbaa

/- Package disk: DiskTwins answers true. -/
set_option linter.unusedVariables false
set_option linter.unusedSimpArgs false
set_option maxRecDepth 100000
set_option maxHeartbeats 4000000
namespace Go.Proofs.Ytnjjkobijjdnbaa
open Go
namespace D
noncomputable def zt (n : Int) (l : List (Ty.den wt)) : DS × DS := zW (sz n 100) l (rep (sz n 100)) (rep (sz n 100)) (rep (sz n 100)) (rep (sz n 100))
def entW (N : Int) (a b c d : List Int) : Bool := decide (N.toNat = N.toNat ∧ N.toNat = N.toNat ∧ N.toNat = N.toNat ∧ N.toNat = N.toNat ∧ N.toNat = N.toNat ∧ N.toNat = N.toNat ∧ 1 ≤ N ∧ N ≤ 300 ∧ a.length = N.toNat ∧ b.length = N.toNat ∧ c.length = N.toNat ∧ d.length = N.toNat)
def rdV (s : DS) (n : Int) : ByteArray := strOfNums (List.take n.toNat (part s.vis n))
theorem w_run (n : Int) (l : List (Ty.den wt)) : run cfgW 11 [.si .i64 n, .slst .ro wt l] =
  .ok (some (inr n && decide ((100 : Int) ≠ 0) && (newOk (sz n 100) && (newOk (sz n 100) && (newOk (sz n 100) && ((entW (sz n 100) (rep (sz n 100)) (rep (sz n 100)) (rep (sz n 100)) (rep (sz n 100)) && (eqL (rep (sz n 100)) (rep (sz n 100)) && (eqL (rep (sz n 100)) (rep (sz n 100)) && (show List (Ty.den wt) from l).all fun w => inr (wO w)))) && (rdOk (zt n l).1.dur (zt n l).1.vis (sz n 100) && rdOk (zt n l).2.dur (zt n l).2.vis (sz n 100))))))))
    (.sb (bif true then bif true then bif (rdV (zt n l).1 (sz n 100)).toList == (rdV (zt n l).2 (sz n 100)).toList then ((List.take (zt n l).1.m (List.drop 0 (zt n l).1.q)).length : Int) == ((List.take (zt n l).2.m (List.drop 0 (zt n l).2.q)).length : Int) else false else false else false)) := by kernel_rfl
theorem law11 (n : Int) (l : List (Ty.den wt)) (hn : inr n = true) (hl : ∀ w ∈ l, inr (wO w) = true) : SemF Try.prog G0 11 [.si .i64 n, .slst .ro wt l] [] [] (.sb true) [] [] := by
  obtain ⟨h1, h2⟩ := sz_in (n := n) (m := 100) (by decide) (by decide)
  have hz : PostW (sz n 100) (zt n l) := (zW_ok (x := rep (sz n 100)) (y := rep (sz n 100)) (dx := rep (sz n 100)) (dy := rep (sz n 100)) h1 (by omega) hl (rep_len _) (rep_len _) (rep_len _) (rep_len _)).1
  obtain ⟨z1, z2, z3⟩ := hz
  have z3 : (zt n l).1 = (zt n l).2 := z3
  have e4 : (show List (Ty.den wt) from l).all (fun w => inr (wO w)) = true := List.all_eq_true.2 hl
  refine of_run cfgW_ok (w_run n l) ?_ ?_
  · rw [hn, newOk_true h1 (by omega), show entW (sz n 100) (rep (sz n 100)) (rep (sz n 100)) (rep (sz n 100)) (rep (sz n 100)) = true from decide_eq_true ⟨rfl, rfl, rfl, rfl, rfl, rfl, h1, by omega, rep_len _, rep_len _, rep_len _, rep_len _⟩, rdOk_true (by omega) (by omega) z1.1 z1.2, rdOk_true (by omega) (by omega) z2.1 z2.2, e4, show eqL (rep (sz n 100)) (rep (sz n 100)) = true from decide_eq_true rfl]
    rfl
  · rw [z3]
    simp
end D
end Go.Proofs.Ytnjjkobijjdnbaa

/- Package disk: put's loop in any surroundings, where its buffer is the first one. -/
set_option linter.unusedVariables false
set_option linter.unusedSimpArgs false
set_option maxRecDepth 100000
set_option maxHeartbeats 4000000
namespace Go.Proofs.Ytnjjkobijjdnbaa
open Go
namespace D
noncomputable def pstG (len : Nat) (off i : Int) (s : ByteArray) (l : List Int) (ob : Ob) (nm : Nm) (kh kt : Nat) : St := St.of 21 [0, 1, 2, 6] [.bs true 0 0 len, .si .i64 off, .ss s, .si .i64 i] ob (u8 l :: nm) kh kt
noncomputable def prdG (len : Nat) (off i : Int) (s : ByteArray) (l : List Int) (ob : Ob) (nm : Nm) (kh kt : Nat) := outs lvp (evCK Try.prog G0 (cfM Try.prog G0 (cfg orc2 fun _ _ => none) 30) ((cfg orc2 fun _ _ => none).lo 27) [] 60 1 (lp 27 0) (pstG len off i s l ob nm kh kt))
section
variable (len : Nat) (off i : Int) (s : ByteArray) (l : List Int) (ob : Ob) (nm : Nm) (kh kt : Nat)
theorem prdG_go : (prdG len off i s l ob nm kh kt).path [true, true, true, true] = some (.normal, [.bs true 0 0 len, .si .i64 off, .ss s, .si .i64 (IntKind.i64.wrap (i + 1))], ob, u8 (l.set (0 + (IntKind.i64.wrap (off + i)).toNat) (byteAt s i.toNat)) :: nm, 21, kh, kt) := by kernel_rfl
theorem prdG_goC : (prdG len off i s l ob nm kh kt).conds [true, true, true, true] = [decide (i < (s.size : Int)), decide (0 ≤ i ∧ i < (s.size : Int)), decide (0 ≤ IntKind.i64.wrap (off + i) ∧ IntKind.i64.wrap (off + i) < (len : Int)), decide (0 + (IntKind.i64.wrap (off + i)).toNat < l.length)] := by kernel_rfl
theorem prdG_out : (prdG len off i s l ob nm kh kt).path [false] = some (.exit 0, [], ob, u8 l :: nm, 21, kh, kt) := by kernel_rfl
theorem prdG_outC : (prdG len off i s l ob nm kh kt).conds [false] = [decide (i < (s.size : Int))] := by kernel_rfl
end
theorem putG_loop (len : Nat) (off : Int) (s : ByteArray) (l : List Int) (ob : Ob) (nm : Nm) (kh kt : Nat) (h0 : 0 ≤ off) (h1 : off + s.size ≤ len) (h2 : len ≤ l.length) (h3 : len ≤ 4194304) :
    SemL Try.prog G0 (lp 27 0) (pstG len off 0 s l ob nm kh kt) (.exit 0) (St.of 21 [] [] ob (u8 (putN l off.toNat s s.size) :: nm) kh kt) := by
  have hC := cfg_ok (wy := fun _ _ => none) orc2_ok
  have key := SemL.ind (P := Try.prog) (Γ := G0) (b := lp 27 0) (fun i : Nat => pstG len off i s (putN l off.toNat s i) ob nm kh kt) (fun i => s.size - i) (fun _ => (.exit 0, St.of 21 [] [] ob (u8 (putN l off.toNat s s.size) :: nm) kh kt)) (fun i => i ≤ s.size) (fun i hi => by
    by_cases hlt : i < s.size
    · refine .inl ⟨i + 1, ?_, hlt, by omega, rfl⟩
      have hw : IntKind.i64.wrap (off + (i : Int)) = off + i := wrap_in (by omega) (by omega)
      have hw2 : IntKind.i64.wrap ((i : Int) + 1) = ((i + 1 : Nat) : Int) := by rw [wrap_in (by omega) (by omega)]; rfl
      have hr := Tr.run_path _ _ _ (prdG_go len off i s (putN l off.toNat s i) ob nm kh kt) (by
        rw [prdG_goC, hw]
        simp only [List.cons.injEq, and_true, decide_eq_true_eq, putN_len (l := l) (o := off.toNat) (s := s) (i := i) (by omega) hi]
        omega)
      have := SemC.of_evS hC Try.func27 body27 lies27 hr
      rw [hw, hw2, show 0 + (off + (i : Int)).toNat = off.toNat + i by omega, Int.toNat_natCast, putN_step (by omega) hlt] at this
      exact this
    · have e : i = s.size := by omega
      subst e
      refine .inr ⟨by simp [Ex.to], ?_⟩
      have hr := Tr.run_path _ _ _ (prdG_out len off s.size s (putN l off.toNat s s.size) ob nm kh kt) (by rw [prdG_outC]; simp)
      exact SemC.of_evS hC Try.func27 body27 lies27 hr) 0 (Nat.zero_le _)
  rw [putN_zero] at key
  exact key
/-- The entry of put's loop. -/
def putG : LEnt := ⟨21, [0, 1, 2, 6], fun kh kt vs ob nm =>
  match vs, nm with
  | [.bs true 0 0 len, .si .i64 off, .ss s, .i .i64 z], some (.live (.arr (.int .u8) l)) :: nm =>
    match decide (z = 0) with
    | true => some (.br (decide (0 ≤ off ∧ off + s.size ≤ len ∧ len ≤ l.length ∧ len ≤ 4194304)) (.leaf (some (.exit 0, St.of 21 [] [] ob (u8 (putN l off.toNat s s.size) :: nm) kh kt))) (.leaf none))
    | _ => none
  | _, _ => none⟩
theorem putG_ok {kh kt : Nat} {vs : List V} {ob : Ob} {nm : Nm} {t : Tr (Ex × St)} {ex : Ex} {x : St} (h : putG.go kh kt vs ob nm = some t) (ht : t.run = some (ex, x)) : SemL Try.prog G0 (lp 27 0) (St.of putG.n putG.lv vs ob nm kh kt) ex.to x := by
  simp only [putG] at h
  split at h
  · rename_i len off s z l nm
    split at h
    · rename_i e3
      obtain rfl := of_decide_eq_true e3
      cases h
      simp only [Tr.run] at ht
      split at ht
      · rename_i hc
        obtain ⟨h0, h1, h2, h3⟩ := of_decide_eq_true hc
        cases ht
        refine (putG_loop len off s l ob nm kh kt h0 h1 h2 h3).pre (St.of_imp rfl ?_)
        intro G j v v' a b cv hv
        match j, a, b with
        | 0, a, b => simp at a b; subst a; subst b; exact hv
        | 1, a, b => simp at a b; subst a; subst b; exact hv
        | 2, a, b => simp at a b; subst a; subst b; exact hv
        | 3, a, b => simp at a b; subst a; subst b; cases hv; exact .si _ _
        | n + 4, a, b => simp at a
      · cases ht
    · cases h
  · cases h
def loG : LOrc := fun f i => match Nat.beq f 27, i with | true, 0 => some putG | _, _ => none
theorem loG_ok : LOrcOk Try.prog G0 loG := fun f i e h => by
  simp only [loG] at h
  split at h
  · rename_i hf
    obtain rfl := Nat.eq_of_beq_eq_true hf
    cases h
    exact ⟨Try.f27, root 27, lp 27 0, Try.func27, body27, lp27, fun kh kt vs ob nm t ex s h1 h2 => putG_ok h1 h2⟩
  · cases h
noncomputable def cfgG (wy : FuncId → List V → Option (List Bool)) : Cfg := { cfg orc2 wy with lo := loG, mem := fun f => (27 :: mems).any (Nat.beq f) }
theorem cfgG_ok (wy : FuncId → List V → Option (List Bool)) : CfgOk Try.prog G0 (cfgG wy) := { cfg_ok (wy := wy) orc2_ok with lo := loG_ok }
end D
end Go.Proofs.Ytnjjkobijjdnbaa

