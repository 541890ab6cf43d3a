/- Parts of the library of texts, one after the other: K1, K2, K6, K7, K8, Ev27. -/
import Derived.Test.YtnjjkobijjdnbaaM4f
import Derived.Test.YtnjjkobijjdnbaaM4h
import Derived.Test.YtnjjkobijjdnbaaProg
/- Package disk: what its calls come to; the fixed examples of 'sane'. -/
set_option linter.unusedVariables false
set_option linter.unusedSimpArgs false
set_option maxRecDepth 100000
set_option maxHeartbeats 4000000
namespace Go.Proofs.Ytnjjkobijjdnbaa
open Go
namespace D
def G0 : Nat → Option V := fun _ => none
/-- The functions that are reckoned with memory. -/
def mems : List Nat := [13, 21, 23, 24, 25, 36, 37, 35, 39, 40, 38, 41, 45, 46, 49, 50, 52]
noncomputable def cfg (orc : Orc) (wy : FuncId → List V → Option (List Bool)) : Cfg := ⟨orc, fun _ => false, fun _ _ _ _ => none, fun _ _ => none, fun _ => [], fun f => mems.any (Nat.beq f), 60, wy⟩
theorem cfg_ok {orc : Orc} {wy : FuncId → List V → Option (List Bool)} (h : OrcOk Try.prog G0 orc) : CfgOk Try.prog G0 (cfg orc wy) where
  orc := h
  om := fun f args ob nm out h => by cases h
  fit := ⟨(fun f args ob nm out h => by cases h), (fun f args ob nm out h => by cases h)⟩
  lo := fun f i e h => by cases h
  mixed := by kernel_rfl
noncomputable def run (C : Cfg) (f : FuncId) (args : List V) : MRes := mergeT (evFK Try.prog G0 (cfM Try.prog G0 C 30) C.lo [] 60 f args [] [])
theorem of_run {C : Cfg} (hC : CfgOk Try.prog G0 C) {f : FuncId} {args : List V} {c : Option Bool} {v v' : V} (h : run C f args = .ok c v) (hc : c.getD true = true) (hv : v = v') : SemF Try.prog G0 f args [] [] v' [] [] := SemF.of_evM hC h hc hv
def none0 : Orc := fun _ _ => none
theorem none0_ok : OrcOk Try.prog G0 none0 := fun f args c v h => by cases h
theorem sane_run : run (cfg none0 fun _ _ => none) 12 [] = .ok none (.b true) := by kernel_rfl
theorem sane_ok : SemF Try.prog G0 12 [] [] [] (.b true) [] [] := of_run (cfg_ok none0_ok) sane_run rfl rfl
end D
end Go.Proofs.Ytnjjkobijjdnbaa

/- Package disk: an index out of any number; a new disk. -/
set_option linter.unusedVariables false
set_option linter.unusedSimpArgs false
set_option maxRecDepth 100000
set_option maxHeartbeats 4000000
namespace Go.Proofs.Ytnjjkobijjdnbaa
open Go
namespace D
def inr (n : Int) : Bool := decide (-9223372036854775808 ≤ n ∧ n ≤ 9223372036854775807)
theorem wrap_in {n : Int} (h1 : -9223372036854775808 ≤ n) (h2 : n ≤ 9223372036854775807) : IntKind.i64.wrap n = n := by
  have e1 : (2 : Int) ^ 64 = 18446744073709551616 := rfl
  have e2 : (2 : Int) ^ (64 - 1) = 9223372036854775808 := rfl
  simp only [IntKind.wrap, IntKind.signed, IntKind.bits, Bool.true_and, decide_eq_true_eq, e1, e2]
  split <;> omega
/-- An index from 0 to n-1. -/
def pickD (k n : Int) : Int := if k < 0 then (-(k + 1)).tmod n else k.tmod n
theorem pickD_lt {k n : Int} (h : 0 < n) : 0 ≤ pickD k n ∧ pickD k n < n := by
  unfold pickD
  split
  · exact ⟨Int.tmod_nonneg _ (by omega), Int.tmod_lt_of_pos _ h⟩
  · exact ⟨Int.tmod_nonneg _ (by omega), Int.tmod_lt_of_pos _ h⟩
theorem pick_run (k n : Int) : run (cfg none0 fun _ _ => none) 15 [.si .i64 k, .si .i64 n] = .ok (some (bif decide (k < 0) then decide (n ≠ 0) else decide (n ≠ 0))) (.si .i64 (bif decide (k < 0) then (IntKind.i64.wrap (0 - IntKind.i64.wrap (k + 1))).tmod n else k.tmod n)) := by kernel_rfl
theorem pick_ok (k n : Int) (hk : inr k = true) (hn : n ≠ 0) : SemF Try.prog G0 15 [.si .i64 k, .si .i64 n] [] [] (.si .i64 (pickD k n)) [] [] := by
  refine of_run (cfg_ok none0_ok) (pick_run k n) (by simp [hn]) ?_
  have hk := of_decide_eq_true hk
  unfold pickD
  by_cases h : k < 0
  · rw [wrap_in (n := k + 1) (by omega) (by omega), wrap_in (by omega) (by omega)]
    simp [h, Int.neg_add]
  · simp [h]
def pickE (k n : Int) : Option Bool × V := (some (inr k && decide (n ≠ 0)), .si .i64 (pickD k n))
theorem pick_of (k n : Int) (h : (pickE k n).1.getD true = true) : SemF Try.prog G0 15 [.si .i64 k, .si .i64 n] [] [] (pickE k n).2 [] [] := by
  have h : (inr k && decide (n ≠ 0)) = true := h
  simp only [Bool.and_eq_true, decide_eq_true_eq] at h
  exact pick_ok k n h.1 h.2
/-- The table with 'sane' and 'pick'. -/
noncomputable def orc1 : Orc := fun f args => if f = 15 then (Ty.ofVs [.int .i64, .int .i64] args).map (fun x => pickE x.1 x.2.1) else (fun f args => if f = 12 then (Ty.ofVs [] args).map (fun _ => (none, .b true)) else none0 f args) f args
theorem orc1_ok : OrcOk Try.prog G0 orc1 :=
  (none0_ok.plain 12 [] (fun _ => (none, .b true)) Try.f12 Try.func12 rfl (by kernel_rfl) (fun x _ => sane_ok)).plain 15 [.int .i64, .int .i64] (fun x => pickE x.1 x.2.1) Try.f15 Try.func15 rfl (by kernel_rfl)
    (fun ⟨k, n, _⟩ hx => pick_of k n hx)
end D
end Go.Proofs.Ytnjjkobijjdnbaa

/- Package disk: a write that fits, and what is read. -/
set_option linter.unusedVariables false
set_option linter.unusedSimpArgs false
set_option maxRecDepth 100000
set_option maxHeartbeats 4000000
namespace Go.Proofs.Ytnjjkobijjdnbaa
open Go
namespace D
def wt : Ty := .agg [.int .i64, .str, .bool]
def wp : Ty := .agg [.int .i64, .str]
theorem fits_run (o n : Int) (s : ByteArray) (y : Bool) : run (cfg orc1 fun _ _ => none) 26 [.agg [.si .i64 o, .ss s, .sb y], .si .i64 n] = .ok (some (inr o && decide ((IntKind.i64.wrap (n + 1)) ≠ 0) && decide ((0 : Int) ≤ 0 ∧ 0 ≤ Bd.hi (some (IntKind.i64, if IntKind.i64.wrap (n - pickD o (IntKind.i64.wrap (n + 1))) < (Nat.cast (s.size) : Int) then IntKind.i64.wrap (n - pickD o (IntKind.i64.wrap (n + 1))) else (Nat.cast (s.size) : Int), true)) s.size ∧ Bd.hi (some (IntKind.i64, if IntKind.i64.wrap (n - pickD o (IntKind.i64.wrap (n + 1))) < (Nat.cast (s.size) : Int) then IntKind.i64.wrap (n - pickD o (IntKind.i64.wrap (n + 1))) else (Nat.cast (s.size) : Int), true)) s.size ≤ (Nat.cast (s.size) : Int)))) (V.agg [V.si IntKind.i64 (pickD o (IntKind.i64.wrap (n + 1))), V.ss (s.extract 0 (Bd.hi (some (IntKind.i64, if IntKind.i64.wrap (n - pickD o (IntKind.i64.wrap (n + 1))) < (Nat.cast (s.size) : Int) then IntKind.i64.wrap (n - pickD o (IntKind.i64.wrap (n + 1))) else (Nat.cast (s.size) : Int), true)) s.size).toNat), V.sb y]) := by kernel_rfl
theorem read_run (d v : List Int) (q : List (Ty.den wp)) (n : Int) : run (cfg orc1 fun _ _ => none) 14 [.pel [.agg [.b false, .i .i64 0, .slst .ro (.int .u8) d, .slst .ro (.int .u8) v, .slst .ro wp q]] 0 0, .i .i64 0, .si .i64 n] = .ok (some ((!bif decide (n ≥ 0) then bif decide (0 ≤ (Nat.cast (d.length) : Int)) then decide (n ≤ IntKind.i64.wrap ((Nat.cast (d.length) : Int) - 0)) else false else false) || decide ((0 : Int) ≤ 0 ∧ 0 ≤ Bd.hi none v.length ∧ Bd.hi none v.length ≤ (Nat.cast (v.length) : Int)) && decide ((0 : Int) ≤ 0 ∧ 0 ≤ Bd.hi (some (IntKind.i64, n, true)) (List.drop 0 (List.take (Bd.hi none v.length).toNat v)).length ∧ Bd.hi (some (IntKind.i64, n, true)) (List.drop 0 (List.take (Bd.hi none v.length).toNat v)).length ≤ (Nat.cast ((List.drop 0 (List.take (Bd.hi none v.length).toNat v)).length) : Int)))) (V.tup [V.ss (bif !bif decide (n ≥ 0) then bif decide (0 ≤ (Nat.cast (d.length) : Int)) then decide (n ≤ IntKind.i64.wrap ((Nat.cast (d.length) : Int) - 0)) else false else false then (ByteArray.mk #[]) else strOfNums (cast rfl (List.drop 0 (List.take (Bd.hi (some (IntKind.i64, n, true)) (List.drop 0 (List.take (Bd.hi none v.length).toNat v)).length).toNat (List.drop 0 (List.take (Bd.hi none v.length).toNat v)))))), V.si IntKind.i64 (bif !bif decide (n ≥ 0) then bif decide (0 ≤ (Nat.cast (d.length) : Int)) then decide (n ≤ IntKind.i64.wrap ((Nat.cast (d.length) : Int) - 0)) else false else false then (330 : Int) else (0 : Int))]) := by kernel_rfl
/-- Where a write is laid, and what of it. -/
def fo (o n : Int) : Int := pickD o (n + 1)
def fs (s : ByteArray) (o n : Int) : ByteArray := s.extract 0 (min (n - fo o n) s.size).toNat
theorem fo_in {o n : Int} (h : 0 ≤ n) : 0 ≤ fo o n ∧ fo o n ≤ n := by
  have := pickD_lt (k := o) (n := n + 1) (by omega)
  unfold fo; omega
theorem fs_size {s : ByteArray} {o n : Int} (h : 0 ≤ n) : (fs s o n).size ≤ n - fo o n := by
  have := fo_in (o := o) h
  simp only [fs, ByteArray.size_extract]
  omega
def fitsE (o n : Int) (s : ByteArray) (y : Bool) : Option Bool × V := (some (inr o && decide (0 ≤ n ∧ n ≤ 4194304)), .agg [.si .i64 (fo o n), .ss (fs s o n), .sb y])
theorem fits_ok (o n : Int) (s : ByteArray) (y : Bool) (h : (fitsE o n s y).1.getD true = true) : SemF Try.prog G0 26 [.agg [.si .i64 o, .ss s, .sb y], .si .i64 n] [] [] (fitsE o n s y).2 [] [] := by
  have h : (inr o && decide (0 ≤ n ∧ n ≤ 4194304)) = true := h
  rw [Bool.and_eq_true, decide_eq_true_eq] at h
  obtain ⟨h1, h2, h3⟩ := h
  have hw : IntKind.i64.wrap (n + 1) = n + 1 := wrap_in (by omega) (by omega)
  obtain ⟨p1, p2⟩ := pickD_lt (k := o) (n := n + 1) (by omega)
  have hw2 : IntKind.i64.wrap (n - pickD o (n + 1)) = n - pickD o (n + 1) := wrap_in (by omega) (by omega)
  have hm : (if n - pickD o (n + 1) < (s.size : Int) then n - pickD o (n + 1) else (s.size : Int)) = min (n - pickD o (n + 1)) s.size := by
    rw [Int.min_def]; split <;> split <;> omega
  refine of_run (cfg_ok orc1_ok) (fits_run o n s y) ?_ ?_
  · simp only [hw, hw2, Bd.hi, hm, h1, Option.getD_some, Bool.and_eq_true, decide_eq_true_eq]
    refine ⟨⟨trivial, by omega⟩, by omega, by omega, by omega⟩
  · simp only [hw, hw2, Bd.hi, hm, fitsE, fo, fs]
def readE (d v : List Int) (n : Int) : Option Bool × V := (some (decide (0 ≤ n ∧ n ≤ d.length ∧ n ≤ v.length ∧ d.length ≤ 4194304)), .tup [.ss (strOfNums (v.take n.toNat)), .si .i64 0])
theorem read_ok (d v : List Int) (q : List (Ty.den wp)) (n : Int) (h : (readE d v n).1.getD true = true) : SemF Try.prog G0 14 [.pel [.agg [.b false, .i .i64 0, .slst .ro (.int .u8) d, .slst .ro (.int .u8) v, .slst .ro wp q]] 0 0, .i .i64 0, .si .i64 n] [] [] (readE d v n).2 [] [] := by
  obtain ⟨h1, h2, h3, h4⟩ := of_decide_eq_true (show decide _ = true from h)
  have hw : IntKind.i64.wrap ((Nat.cast d.length : Int) - 0) = d.length := by rw [Int.sub_zero]; exact wrap_in (by omega) (by omega)
  have a1 : decide (n ≥ 0) = true := by simpa using h1
  have a2 : decide (0 ≤ (Nat.cast d.length : Int)) = true := by simp
  have a3 : decide (n ≤ (Nat.cast d.length : Int)) = true := by simpa using h2
  refine of_run (cfg_ok orc1_ok) (read_run d v q n) ?_ ?_
  · simp only [hw, Bd.hi, a1, a2, a3, cond_true, Bool.not_true, Bool.false_or, Option.getD_some, Bool.and_eq_true, decide_eq_true_eq, List.drop_zero, List.length_take, Int.toNat_natCast, Nat.min_self]
    exact ⟨decide_eq_true ⟨by omega, by omega, by omega⟩, by omega, by omega, by omega⟩
  · simp only [hw, Bd.hi, a1, a2, a3, cond_true, Bool.not_true, cond_false, List.drop_zero, Int.toNat_natCast, List.take_length, readE]
    rfl
/-- An entry of the table by a shape. -/
theorem orcPat {orc : Orc} {A : Type} (h : OrcOk Try.prog G0 orc) (f0 : FuncId) (pat : List V → Option A) (emb : A → List V) (hp : ∀ args a, pat args = some a → args = emb a) (g : A → Option Bool × V) (fn : Func) (hf : Try.prog.funcs[f0]? = some fn) (hb : fn.body.isSome = true) (hn : (fn.name == "runtime.NumGoroutine") = false)
    (hg : ∀ a, (g a).1.getD true = true → SemF Try.prog G0 f0 (emb a) [] [] (g a).2 [] []) : OrcOk Try.prog G0 (fun f args => match Nat.beq f f0 with | true => (pat args).map g | false => orc f args) := by
  intro f args c v hv hc
  simp only at hv
  split at hv
  · rename_i he
    obtain rfl := Nat.eq_of_beq_eq_true he
    rw [Option.map_eq_some_iff] at hv
    obtain ⟨x, hx, hgx⟩ := hv
    have hs := hg x (by rw [hgx]; exact hc)
    rw [hgx] at hs
    rw [hp args x hx]
    exact ⟨hs, fn, hf, hb, hn⟩
  · exact h f args c v hv hc
def fitsP : List V → Option (Int × Int × ByteArray × Bool)
  | [.agg [.si .i64 o, .ss s, .sb y], .si .i64 n] => some (o, n, s, y)
  | _ => none
def readP : List V → Option (List Int × List Int × List (Ty.den wp) × Int)
  | [.pel [.agg [.b false, .i .i64 l, .slst .ro (.int .u8) d, .slst .ro (.int .u8) v, .slst .ro (.agg [.int .i64, .str]) q]] 0 0, .i .i64 o, .si .i64 n] => if l = 0 ∧ o = 0 then some (d, v, q, n) else none
  | _ => none
noncomputable def orc2 : Orc := fun f args => match Nat.beq f 14 with | true => (readP args).map (fun a => readE a.1 a.2.1 a.2.2.2) | false => (fun f args => match Nat.beq f 26 with | true => (fitsP args).map (fun a => fitsE a.1 a.2.1 a.2.2.1 a.2.2.2) | false => orc1 f args) f args
theorem orc2_ok : OrcOk Try.prog G0 orc2 :=
  orcPat (orcPat orc1_ok 26 fitsP (fun a => [.agg [.si .i64 a.1, .ss a.2.2.1, .sb a.2.2.2], .si .i64 a.2.1]) (fun args a h => by
      unfold fitsP at h
      split at h
      · cases h; rfl
      · cases h) _ Try.f26 Try.func26 rfl (by kernel_rfl) (fun a h => fits_ok _ _ _ _ h))
    14 readP (fun a => [.pel [.agg [.b false, .i .i64 0, .slst .ro (.int .u8) a.1, .slst .ro (.int .u8) a.2.1, .slst .ro wp a.2.2.1]] 0 0, .i .i64 0, .si .i64 a.2.2.2]) (fun args a h => by
      unfold readP at h
      split at h
      · split at h
        · rename_i hc
          obtain ⟨rfl, rfl⟩ := hc
          cases h; rfl
        · cases h
      · cases h) _ Try.f14 Try.func14 rfl (by kernel_rfl) (fun a h => read_ok _ _ _ _ h)
end D
end Go.Proofs.Ytnjjkobijjdnbaa

/- Package disk: the law's own 'put': a loop that stores a string's bytes. -/
set_option linter.unusedVariables false
set_option linter.unusedSimpArgs false
set_option maxRecDepth 100000
set_option maxHeartbeats 4000000
namespace Go.Proofs.Ytnjjkobijjdnbaa
open Go
/-- Slots that say less. -/
theorem setVs_imp {G : Gh} : ∀ (lv : List Nat) (vs vs' l l' : List V), vs.length = vs'.length → (∀ (j : Nat) v v', vs[j]? = some v → vs'[j]? = some v' → ∀ cv, VRel G v cv → VRel G v' cv) → l.length = l'.length → (∀ (j : Nat) v v', l[j]? = some v → l'[j]? = some v' → ∀ cv, VRel G v cv → VRel G v' cv) →
    (setVs lv vs l).length = (setVs lv vs' l').length ∧ ∀ (j : Nat) v v', (setVs lv vs l)[j]? = some v → (setVs lv vs' l')[j]? = some v' → ∀ cv, VRel G v cv → VRel G v' cv
  | [], vs, vs', l, l', _, _, h3, h4 => by simpa [setVs] using ⟨h3, h4⟩
  | d :: ds, [], vs', l, l', h1, _, h3, h4 => by
    have : vs' = [] := List.eq_nil_of_length_eq_zero (by simpa using h1.symm)
    subst this
    simpa [setVs] using ⟨h3, h4⟩
  | d :: ds, v :: vs, [], l, l', h1, _, h3, h4 => by simp at h1
  | d :: ds, v :: vs, v' :: vs', l, l', h1, h2, h3, h4 => by
    simp only [setVs]
    refine setVs_imp ds vs vs' (l.set d v) (l'.set d v') (by simpa using h1) (fun j u u' a b => h2 (j + 1) u u' (by simpa using a) (by simpa using b)) (by simpa using h3) (fun j u u' a b => ?_)
    rw [List.getElem?_set] at a b
    split at a
    · rename_i hj
      rw [if_pos hj] at b
      split at a
      · split at b
        · cases a; cases b; exact h2 0 v v' rfl rfl
        · cases b
      · cases a
    · rename_i hj
      rw [if_neg hj] at b
      exact h4 j u u' a b
theorem St.of_imp {Γ : Nat → Option V} {n : Nat} {lv : List Nat} {vs vs' : List V} {ob : Ob} {nm : Nm} {kh kt : Nat} (h1 : vs.length = vs'.length) (h2 : ∀ (G : Gh) (j : Nat) v v', vs[j]? = some v → vs'[j]? = some v' → ∀ cv, VRel G v cv → VRel G v' cv) :
    St.imp Γ (St.of n lv vs ob nm kh kt) (St.of n lv vs' ob nm kh kt) := fun G a w hr => by
  obtain ⟨e1, e2⟩ := setVs_imp (G := G) lv vs vs' (List.replicate n .any) (List.replicate n .any) h1 (h2 G) rfl (fun j v v' a b cv h => by rw [a] at b; cases b; exact h)
  refine ⟨⟨?_, fun j v cv hv hc => ?_⟩, hr.wr, hr.df, hr.kh, hr.kt⟩
  · have := hr.tm.1
    show a.tmps.toList.length = (setVs lv vs' (List.replicate n .any)).length
    rw [← e1]; exact this
  · have hv : (setVs lv vs' (List.replicate n .any))[j]? = some v := hv
    have hlt : j < (setVs lv vs (List.replicate n .any)).length := by
      rw [e1]
      rcases Nat.lt_or_ge j (setVs lv vs' (List.replicate n .any)).length with h | h
      · exact h
      · rw [List.getElem?_eq_none h] at hv; cases hv
    exact e2 j _ v (List.getElem?_eq_getElem hlt) hv cv (hr.tm.2 j _ cv (List.getElem?_eq_getElem hlt) hc)
namespace D
noncomputable def root (f : Nat) : Code := match Try.prog.funcs[f]? with | some fn => fn.body.getD .skip | none => .skip
noncomputable def lp (f i : Nat) : Code := ((loops (root f))[i]?).getD .skip
/-- A list into which a string's first bytes are laid. -/
def putN (l : List Int) (o : Nat) (s : ByteArray) (i : Nat) : List Int := l.take o ++ (bytesOf s).take i ++ l.drop (o + i)
theorem bytesOf_len (s : ByteArray) : (bytesOf s).length = s.size := by
  unfold bytesOf
  rw [List.length_map, Array.length_toList]
  rfl
theorem bytesOf_get {s : ByteArray} {i : Nat} (h : i < s.size) : (bytesOf s)[i]? = some (byteAt s i) := by
  have h' : i < s.data.size := h
  simp only [bytesOf, byteAt, List.getElem?_map, Option.map_eq_some_iff]
  refine ⟨s.data[i], by simp [h'], ?_⟩
  simp [Array.getD, h, h']
theorem putN_zero (l : List Int) (o : Nat) (s : ByteArray) : putN l o s 0 = l := by simp [putN]
theorem putN_len {l : List Int} {o i : Nat} {s : ByteArray} (h : o + s.size ≤ l.length) (hi : i ≤ s.size) : (putN l o s i).length = l.length := by
  simp only [putN, List.length_append, List.length_take, List.length_drop, bytesOf_len]; omega
theorem putN_step {l : List Int} {o i : Nat} {s : ByteArray} (h : o + s.size ≤ l.length) (hi : i < s.size) : (putN l o s i).set (o + i) (byteAt s i) = putN l o s (i + 1) := by
  apply List.ext_getElem?
  intro j
  have hb := bytesOf_len s
  have hg := bytesOf_get hi
  have m1 : min o l.length = o := by omega
  have m2 : min i s.size = i := by omega
  have m3 : min (i + 1) s.size = i + 1 := by omega
  rw [List.getElem?_set]
  simp only [putN, List.getElem?_append, List.getElem?_take, List.getElem?_drop, List.length_append, List.length_take, List.length_drop, hb, m1, m2, m3]
  by_cases e : o + i = j
  · subst e
    have h1 : ¬ (o + i < o) := by omega
    have h2 : o + i - o = i := by omega
    simp [h1, h2, hg]
    omega
  · simp only [e, if_false]
    repeat' split
    all_goals first
      | omega
      | rfl
      | (congr 1; omega)
/-- At the head of put's loop, within the law's round. -/
noncomputable def pst (len : Nat) (off i : Int) (s : ByteArray) (l : List Int) (o0 o1 o2 o3 o4 : Option (List V)) (n1 n2 n3 n4 : Option Bf) : St := St.of 21 [0, 1, 2, 6] [.bs true 0 0 len, .si .i64 off, .ss s, .si .i64 i] [o0, o1, o2, o3, o4] [some (.live (.arr (.int .u8) l)), n1, n2, n3, n4] 5 5
def lvp : Ex → List Nat | .normal => [0, 1, 2, 6] | _ => []
noncomputable def prd (len : Nat) (off i : Int) (s : ByteArray) (l : List Int) (o0 o1 o2 o3 o4 : Option (List V)) (n1 n2 n3 n4 : Option Bf) := outs lvp (evCK Try.prog G0 (cfM Try.prog G0 (cfg orc2 fun _ _ => none) 30) ((cfg orc2 fun _ _ => none).lo 27) [] 60 1 (lp 27 0) (pst len off i s l o0 o1 o2 o3 o4 n1 n2 n3 n4))
section
variable (len : Nat) (off i : Int) (s : ByteArray) (l : List Int) (o0 o1 o2 o3 o4 : Option (List V)) (n1 n2 n3 n4 : Option Bf)
theorem prd_go : (prd len off i s l o0 o1 o2 o3 o4 n1 n2 n3 n4).path [true, true, true, true] = some (.normal, [.bs true 0 0 len, .si .i64 off, .ss s, .si .i64 (IntKind.i64.wrap (i + 1))], [o0, o1, o2, o3, o4], [some (.live (.arr (.int .u8) (l.set (0 + (IntKind.i64.wrap (off + i)).toNat) (byteAt s i.toNat)))), n1, n2, n3, n4], 21, 5, 5) := by kernel_rfl
theorem prd_goC : (prd len off i s l o0 o1 o2 o3 o4 n1 n2 n3 n4).conds [true, true, true, true] = [decide (i < (s.size : Int)), decide (0 ≤ i ∧ i < (s.size : Int)), decide (0 ≤ IntKind.i64.wrap (off + i) ∧ IntKind.i64.wrap (off + i) < (len : Int)), decide (0 + (IntKind.i64.wrap (off + i)).toNat < l.length)] := by kernel_rfl
theorem prd_out : (prd len off i s l o0 o1 o2 o3 o4 n1 n2 n3 n4).path [false] = some (.exit 0, [], [o0, o1, o2, o3, o4], [some (.live (.arr (.int .u8) l)), n1, n2, n3, n4], 21, 5, 5) := by kernel_rfl
theorem prd_outC : (prd len off i s l o0 o1 o2 o3 o4 n1 n2 n3 n4).conds [false] = [decide (i < (s.size : Int))] := by kernel_rfl
end
theorem body27 : Try.f27.body = some (root 27) := by kernel_rfl
theorem lp27 : (loops (root 27))[0]? = some (lp 27 0) := by kernel_rfl
theorem lies27 : Lies (root 27) 1 (lp 27 0) := Lies.of_take (n := 0) (by kernel_rfl)
theorem put_loop (len : Nat) (off : Int) (s : ByteArray) (l : List Int) (o0 o1 o2 o3 o4 : Option (List V)) (n1 n2 n3 n4 : Option Bf) (h0 : 0 ≤ off) (h1 : off + s.size ≤ len) (h2 : len ≤ l.length) (h3 : len ≤ 4194304) :
    SemL Try.prog G0 (lp 27 0) (pst len off 0 s l o0 o1 o2 o3 o4 n1 n2 n3 n4) (.exit 0) (St.of 21 [] [] [o0, o1, o2, o3, o4] [some (.live (.arr (.int .u8) (putN l off.toNat s s.size))), n1, n2, n3, n4] 5 5) := by
  have hC := cfg_ok (wy := fun _ _ => none) orc2_ok
  have key := SemL.ind (P := Try.prog) (Γ := G0) (b := lp 27 0) (fun i : Nat => pst len off i s (putN l off.toNat s i) o0 o1 o2 o3 o4 n1 n2 n3 n4) (fun i => s.size - i) (fun _ => (.exit 0, St.of 21 [] [] [o0, o1, o2, o3, o4] [some (.live (.arr (.int .u8) (putN l off.toNat s s.size))), n1, n2, n3, n4] 5 5)) (fun i => i ≤ s.size) (fun i hi => by
    by_cases hlt : i < s.size
    · refine .inl ⟨i + 1, ?_, hlt, by omega, rfl⟩
      have hw : IntKind.i64.wrap (off + (i : Int)) = off + i := wrap_in (by omega) (by omega)
      have hw2 : IntKind.i64.wrap ((i : Int) + 1) = ((i + 1 : Nat) : Int) := by rw [wrap_in (by omega) (by omega)]; rfl
      have hr := Tr.run_path _ _ _ (prd_go len off i s (putN l off.toNat s i) o0 o1 o2 o3 o4 n1 n2 n3 n4) (by
        rw [prd_goC, hw]
        simp only [List.cons.injEq, and_true, decide_eq_true_eq, putN_len (l := l) (o := off.toNat) (s := s) (i := i) (by omega) hi]
        omega)
      have := SemC.of_evS hC Try.func27 body27 lies27 hr
      rw [hw, hw2, show 0 + (off + (i : Int)).toNat = off.toNat + i by omega, Int.toNat_natCast, putN_step (by omega) hlt] at this
      exact this
    · have e : i = s.size := by omega
      subst e
      refine .inr ⟨by simp [Ex.to], ?_⟩
      have hr := Tr.run_path _ _ _ (prd_out len off s.size s (putN l off.toNat s s.size) o0 o1 o2 o3 o4 n1 n2 n3 n4) (by rw [prd_outC]; simp)
      exact SemC.of_evS hC Try.func27 body27 lies27 hr) 0 (Nat.zero_le _)
  rw [putN_zero] at key
  exact key
/-- The entry of put's loop. -/
def putE : LEnt := ⟨21, [0, 1, 2, 6], fun kh kt vs ob nm =>
  match vs, ob, nm with
  | [.bs true 0 0 len, .si .i64 off, .ss s, .i .i64 z], [o0, o1, o2, o3, o4], [some (.live (.arr (.int .u8) l)), n1, n2, n3, n4] =>
    match Nat.beq kh 5, Nat.beq kt 5, decide (z = 0) with
    | true, true, true => some (.br (decide (0 ≤ off ∧ off + s.size ≤ len ∧ len ≤ l.length ∧ len ≤ 4194304)) (.leaf (some (.exit 0, St.of 21 [] [] [o0, o1, o2, o3, o4] [some (.live (.arr (.int .u8) (putN l off.toNat s s.size))), n1, n2, n3, n4] 5 5))) (.leaf none))
    | _, _, _ => none
  | _, _, _ => none⟩
def lo1 : LOrc := fun f i => match Nat.beq f 27, i with | true, 0 => some putE | _, _ => none
theorem putE_ok {kh kt : Nat} {vs : List V} {ob : Ob} {nm : Nm} {t : Tr (Ex × St)} {ex : Ex} {x : St} (h : putE.go kh kt vs ob nm = some t) (ht : t.run = some (ex, x)) : SemL Try.prog G0 (lp 27 0) (St.of putE.n putE.lv vs ob nm kh kt) ex.to x := by
  simp only [putE] at h
  split at h
  · rename_i len off s z o0 o1 o2 o3 o4 l n1 n2 n3 n4
    split at h
    · rename_i e1 e2 e3
      obtain rfl := Nat.eq_of_beq_eq_true e1
      obtain rfl := Nat.eq_of_beq_eq_true e2
      obtain rfl := of_decide_eq_true e3
      cases h
      simp only [Tr.run] at ht
      split at ht
      · rename_i hc
        obtain ⟨h0, h1, h2, h3⟩ := of_decide_eq_true hc
        cases ht
        refine (put_loop len off s l o0 o1 o2 o3 o4 n1 n2 n3 n4 h0 h1 h2 h3).pre (St.of_imp rfl ?_)
        intro G j v v' a b cv hv
        match j, a, b with
        | 0, a, b => simp at a b; subst a; subst b; exact hv
        | 1, a, b => simp at a b; subst a; subst b; exact hv
        | 2, a, b => simp at a b; subst a; subst b; exact hv
        | 3, a, b => simp at a b; subst a; subst b; cases hv; exact .si _ _
        | n + 4, a, b => simp at a
      · cases ht
    · cases h
  · cases h
theorem lo1_ok : LOrcOk Try.prog G0 lo1 := fun f i e h => by
  simp only [lo1] at h
  split at h
  · rename_i hf
    obtain rfl := Nat.eq_of_beq_eq_true hf
    cases h
    exact ⟨Try.f27, root 27, lp 27 0, Try.func27, body27, lp27, fun kh kt vs ob nm t ex s h1 h2 => putE_ok h1 h2⟩
  · cases h
end D
end Go.Proofs.Ytnjjkobijjdnbaa

/- Package disk: a round of the loop of DiskReadsBack, reckoned. -/
set_option linter.unusedVariables false
set_option linter.unusedSimpArgs false
set_option maxRecDepth 100000
set_option maxHeartbeats 8000000
namespace Go.Proofs.Ytnjjkobijjdnbaa
open Go
namespace D
/-- With put's loop taken as its entry says. -/
noncomputable def cfgR (wy : FuncId → List V → Option (List Bool)) : Cfg := { cfg orc2 wy with lo := lo1, mem := fun f => (27 :: mems).any (Nat.beq f) }
theorem cfgR_ok (wy : FuncId → List V → Option (List Bool)) : CfgOk Try.prog G0 (cfgR wy) := { cfg_ok (wy := wy) orc2_ok with lo := lo1_ok }
/-- A write's parts. -/
def wO (w : Ty.den wt) : Int := (show Int × ByteArray × Bool × Unit from w).1
def wS (w : Ty.den wt) : ByteArray := (show Int × ByteArray × Bool × Unit from w).2.1
def wY (w : Ty.den wt) : Bool := (show Int × ByteArray × Bool × Unit from w).2.2.1
def mkP (o : Int) (s : ByteArray) : Ty.den wp := (show Int × ByteArray × Unit from (o, s, ()))
/-- What a content is behind a copy. -/
def cpy {α : Type} (v : List α) (o len : Nat) (y : List α) : List α :=
  List.take (0 + o) (List.drop 0 v) ++ List.take (Nat.min y.length (len - o)) (List.drop 0 y) ++ List.take (v.length - (0 + o + Nat.min y.length (len - o))) (List.drop (0 + o + Nat.min y.length (len - o)) v)
/-- The contents behind a write; behind a Sync. -/
def visW (vis : List Int) (n : Int) (w : Ty.den wt) : List Int := cpy vis (fo (wO w) n).toNat n.toNat (bytesOf (fs (wS w) (wO w) n))
def bW (b : List Int) (n : Int) (w : Ty.den wt) : List Int := putN b (fo (wO w) n).toNat (fs (wS w) (wO w) n) (fs (wS w) (wO w) n).size
def qW (q : List (Ty.den wp)) (m : Nat) (n : Int) (w : Ty.den wt) : List (Ty.den wp) := List.take m (List.drop 0 q) ++ [mkP (fo (wO w) n) (fs (wS w) (wO w) n)]
def part (v : List Int) (n : Int) : List Int := List.take n.toNat (List.drop 0 v)
def durS (dur vis : List Int) (n : Int) : List Int := cpy dur 0 n.toNat (part vis n)
def qS (q : List (Ty.den wp)) (m : Nat) : List (Ty.den wp) := List.take 0 (List.drop 0 q) ++ List.take m (List.drop 0 (List.replicate m wp.dflt)) ++ List.take (q.length - (0 + m)) (List.drop (0 + m) q)
/-- At the head of the law's loop. -/
noncomputable def hd (n i : Int) (dur vis b : List Int) (q : List (Ty.den wp)) (m : Nat) (l : List (Ty.den wt)) : St := St.of 79 [0, 1, 5, 6, 8, 9] [.si .i64 n, .slst .ro wt l, .b true, .ptr 0 0, .bs true 0 0 n.toNat, .si .i64 i]
  [some [.b false, .i .i64 0, .bs true 1 0 n.toNat, .bs true 2 0 n.toNat, .bs true 3 0 m]] [some (.live (.arr (.int .u8) b)), some (.live (.arr (.int .u8) dur)), some (.live (.arr (.int .u8) vis)), some (.live (.arr wp q))]
def lve : Ex → List Nat | .normal => [0, 1, 5, 6, 8, 9] | _ => [5]
def wy6 : FuncId → List V → Option (List Bool) := fun f _ => match Nat.beq f 21 with | true => some [false, true, true] | false => none
noncomputable def rnd (n i : Int) (dur vis b : List Int) (q : List (Ty.den wp)) (m : Nat) (l : List (Ty.den wt)) := outa lve (evCK Try.prog G0 (cfM Try.prog G0 (cfgR wy6) 30) ((cfgR wy6).lo 6) [] 60 1 (lp 6 0) (hd n i dur vis b q m l))
def dsA : List Bool := [true, true, true, true, true, true, false, true, false, false]
def dsB : List Bool := [true, true, true, true, true, true, true, true, true, false, false]
/-- What a write asks for. -/
def cW (dur b : List Int) (m : Nat) (n : Int) (o : Int) (s : ByteArray) : List Bool :=
  [decide (0 ≤ o ∧ o + (s.size : Int) ≤ (n.toNat : Int) ∧ n.toNat ≤ b.length ∧ n.toNat ≤ 4194304) && true,
   (!(!(bif decide (o ≥ 0) then bif decide ((s.size : Int) ≥ 0) then bif decide (o ≤ ((part dur n).length : Int)) then decide ((s.size : Int) ≤ IntKind.i64.wrap (((part dur n).length : Int) - o)) else false else false else false))) &&
     (some (decide ((m + 1) * 2 * 24 ≤ 281474976710656) && (some (decide (0 ≤ o ∧ o ≤ Bd.hi none n.toNat ∧ Bd.hi none n.toNat ≤ (n.toNat : Int)) && true && true)).getD true)).getD true]
def cR (dur vis b : List Int) (n : Int) : List Bool :=
  [decide (0 ≤ n ∧ n ≤ ((part dur n).length : Int) ∧ n ≤ ((part vis n).length : Int) ∧ (part dur n).length ≤ 4194304), false, !((strOfNums (List.take n.toNat (part vis n))).toList == (strOfNums (part b n)).toList)]
section
variable (n i : Int) (dur vis b : List Int) (q : List (Ty.den wp)) (m : Nat) (l : List (Ty.den wt))
theorem rnd_A : (rnd n i dur vis b q m l).path dsA = some (.normal, [.si .i64 n, .slst .ro wt l, .b true, .ptr 0 0, .bs true 0 0 n.toNat, .si .i64 (IntKind.i64.wrap (i + 1))],
  [some [.b false, .i .i64 0, .bs true 1 0 n.toNat, .bs true 2 0 n.toNat, .bs true 3 0 (m + 1)]], [some (.live (.arr (.int .u8) (bW b n (l.getD i.toNat wt.dflt)))), some (.live (.arr (.int .u8) dur)), some (.live (.arr (.int .u8) (visW vis n (l.getD i.toNat wt.dflt)))), some (.live (.arr wp (qW q m n (l.getD i.toNat wt.dflt))))], 79, 0, 0) := by kernel_rfl
theorem rnd_B : (rnd n i dur vis b q m l).path dsB = some (.normal, [.si .i64 n, .slst .ro wt l, .b true, .ptr 0 0, .bs true 0 0 n.toNat, .si .i64 (IntKind.i64.wrap (i + 1))],
  [some [.b false, .i .i64 0, .bs true 1 0 n.toNat, .bs true 2 0 n.toNat, .bs true 3 0 0]], [some (.live (.arr (.int .u8) (bW b n (l.getD i.toNat wt.dflt)))), some (.live (.arr (.int .u8) (durS dur (visW vis n (l.getD i.toNat wt.dflt)) n))), some (.live (.arr (.int .u8) (visW vis n (l.getD i.toNat wt.dflt)))), some (.live (.arr wp (qS (qW q m n (l.getD i.toNat wt.dflt)) (m + 1))))], 79, 0, 0) := by kernel_rfl
theorem rnd_E : (rnd n i dur vis b q m l).path [false] = some (.exit 0, [.b true], [], [], 79, 0, 0) := by kernel_rfl
theorem rnd_F : (rnd n i dur vis b q m l).path [true, false] = some (.exit 0, [.b true], [], [], 79, 0, 0) := by kernel_rfl
theorem rnd_EC : (rnd n i dur vis b q m l).conds [false] = [decide (i < (l.length : Int))] := by kernel_rfl
theorem rnd_FC : (rnd n i dur vis b q m l).conds [true, false] = [decide (i < (l.length : Int)), decide (i < 60)] := by kernel_rfl
theorem rnd_AC : (rnd n i dur vis b q m l).conds dsA = [decide (i < (l.length : Int)), decide (i < 60), decide (0 ≤ i ∧ i < (l.length : Int)), inr (wO (l.getD i.toNat wt.dflt)) && decide (0 ≤ n ∧ n ≤ 4194304)] ++
  cW dur b m n (fo (wO (l.getD i.toNat wt.dflt)) n) (fs (wS (l.getD i.toNat wt.dflt)) (wO (l.getD i.toNat wt.dflt)) n) ++ [wY (l.getD i.toNat wt.dflt)] ++ cR dur (visW vis n (l.getD i.toNat wt.dflt)) (bW b n (l.getD i.toNat wt.dflt)) n := by kernel_rfl
theorem rnd_BC : (rnd n i dur vis b q m l).conds dsB = [decide (i < (l.length : Int)), decide (i < 60), decide (0 ≤ i ∧ i < (l.length : Int)), inr (wO (l.getD i.toNat wt.dflt)) && decide (0 ≤ n ∧ n ≤ 4194304)] ++
  cW dur b m n (fo (wO (l.getD i.toNat wt.dflt)) n) (fs (wS (l.getD i.toNat wt.dflt)) (wO (l.getD i.toNat wt.dflt)) n) ++ [wY (l.getD i.toNat wt.dflt), decide ((0 : Int) ≤ 0 ∧ 0 ≤ Bd.hi (some (IntKind.i64, 0, false)) (m + 1) ∧ Bd.hi (some (IntKind.i64, 0, false)) (m + 1) ≤ ((m + 1 : Nat) : Int)) && true && true] ++
  cR (durS dur (visW vis n (l.getD i.toNat wt.dflt)) n) (visW vis n (l.getD i.toNat wt.dflt)) (bW b n (l.getD i.toNat wt.dflt)) n := by kernel_rfl
end
end D
end Go.Proofs.Ytnjjkobijjdnbaa

/- Calls by contracts that speak of a memory of their own: what the arguments lead to, under the names 0, 1, .. -/
set_option linter.unusedVariables false
set_option linter.unusedSimpArgs false
namespace Go.Proofs.Ytnjjkobijjdnbaa
open Go

/-- A table of contracts: what must hold, the value, the memory behind. -/
abbrev CallT := FuncId → List V → Ob → Nm → Option (Option Bool × V × Ob × Nm)
def CtOk (P : Program) (Γ : Nat → Option V) (T : CallT) : Prop :=
  ∀ f args ob nm c v ob1 nm1, T f args ob nm = some (c, v, ob1, nm1) → c.getD true = true → SemF P Γ f args ob nm v ob1 nm1 ∧ f ≠ yid ∧ ∃ fn, P.funcs[f]? = some fn ∧ fn.body.isSome = true ∧ (fn.name == "runtime.NumGoroutine") = false
def uniq : List Nat → List Nat → List Nat
  | acc, [] => acc.reverse
  | acc, x :: xs => match acc.contains x with | true => uniq acc xs | false => uniq (x :: acc) xs
/-- The names back: which new name has the one at each place; those that are further lie behind. -/
def backL (to : List Nat) (k x : Nat) : List Nat := (List.range k).map (fun o => match ixOf to o with | some i => i | none => to.length + x + o) ++ (List.range x).map (fun j => to.length + j)
def callC (T : CallT) : CallF := fun f args ob nm =>
  match uniq [] (dO ob nm 3 args), uniq [] (dN ob nm 3 args) with
  | to, tn =>
    match inB to.contains tn.contains args && allO to.contains (inB to.contains tn.contains) 0 ob && allN tn.contains (inB to.contains tn.contains) 0 nm && nodupB to && nodupB tn with
    | false => none
    | true =>
      match V.clL (renP to tn) args, renOb to tn ob to, renNm to tn nm tn with
      | some a, some o, some n =>
        match T f a o n with
        | some (c, v, o1, n1) =>
          match backL to ob.length (o1.length - o.length), backL tn nm.length (n1.length - n.length) with
          | po, pn =>
            match V.clL (renP po pn) [v], renOb po pn o1 po, renNm po pn n1 pn with
            | some [v'], some ob1, some nm1 =>
              match nodupB po && nodupB pn && freeKeep (maskO to 0 ob) ob1 && freeKeep (maskN tn 0 nm) nm1 && inB (fun o => to.contains o || Nat.ble ob.length o) (fun n => tn.contains n || Nat.ble nm.length n) [v'] &&
                  allO (fun o => to.contains o || Nat.ble ob.length o) (inB (fun o => to.contains o || Nat.ble ob.length o) (fun n => tn.contains n || Nat.ble nm.length n)) 0 ob1 &&
                  allN (fun n => tn.contains n || Nat.ble nm.length n) (inB (fun o => to.contains o || Nat.ble ob.length o) (fun n => tn.contains n || Nat.ble nm.length n)) 0 nm1 with
              | true => some (outC c v' { ro := to, rn := tn, blk := some (restO to 0 ob ob1, restN tn 0 nm nm1), bl := (ob.length, nm.length), ko := to, kn := tn })
              | false => none
            | _, _, _ => none
        | none => none
      | _, _, _ => none
theorem ixOf_mem : ∀ {l : List Nat} {o : Nat}, o ∈ l → ∃ i, ixOf l o = some i
  | x :: xs, o, h => by
    simp only [ixOf]
    by_cases e : x = o
    · exact ⟨0, by rw [if_pos e]⟩
    · obtain ⟨i, hi⟩ := ixOf_mem (l := xs) (by rcases List.mem_cons.1 h with h | h; exact absurd h.symm e; exact h)
      exact ⟨i + 1, by rw [if_neg e, hi]⟩
theorem backL_get {to : List Nat} {k x o i : Nat} (ho : o < k) (hi : ixOf to o = some i) : (backL to k x)[o]? = some i := by
  unfold backL
  rw [List.getElem?_append_left (by simpa using ho), List.getElem?_map, List.getElem?_range ho]
  simp [hi]
theorem renOb_congr {po pn : List Nat} {ob ob' : Ob} : ∀ {l : List Nat}, (∀ o ∈ l, ob[o]? = ob'[o]?) → renOb po pn ob l = renOb po pn ob' l
  | [], _ => rfl
  | o :: r, h => by
    simp only [renOb]
    rw [renOb_congr (l := r) fun x hx => h x (List.mem_cons_of_mem _ hx), h o (List.mem_cons_self ..)]
theorem renNm_congr {po pn : List Nat} {nm nm' : Nm} : ∀ {l : List Nat}, (∀ o ∈ l, nm[o]? = nm'[o]?) → renNm po pn nm l = renNm po pn nm' l
  | [], _ => rfl
  | o :: r, h => by
    simp only [renNm]
    rw [renNm_congr (l := r) fun x hx => h x (List.mem_cons_of_mem _ hx), h o (List.mem_cons_self ..)]
theorem maskO_in {to : List Nat} {ob : Ob} {o : Nat} (h : o ∈ to) : (maskO to 0 ob)[o]? = ob[o]? := by
  rw [maskO_get]
  cases hc : ob[o]? with
  | none => rfl
  | some c => cases c with | none => rfl | some d => simp [h]
theorem maskN_in {tn : List Nat} {nm : Nm} {o : Nat} (h : o ∈ tn) : (maskN tn 0 nm)[o]? = nm[o]? := by
  rw [maskN_get]
  cases hc : nm[o]? with
  | none => rfl
  | some c => cases c with | none => rfl | some d => simp [h]
section
variable {P : Program} {Γ : Nat → Option V}
/-- A contract under the names 0, 1, .., seen from the caller. -/
theorem SemF.backR {f : FuncId} {args a : List V} {ob o o1 ob1 : Ob} {nm n n1 nm1 : Nm} {v v' : V} {to tn : List Nat} {x y : Nat} (h : SemF P Γ f a o n v o1 n1)
    (e1 : V.clL (renP to tn) args = some a) (e2 : renOb to tn ob to = some o) (e3 : renNm to tn nm tn = some n) (d1 : nodupB to = true) (d2 : nodupB tn = true)
    (f1 : V.clL (renP (backL to ob.length x) (backL tn nm.length y)) [v] = some [v']) (f2 : renOb (backL to ob.length x) (backL tn nm.length y) o1 (backL to ob.length x) = some ob1) (f3 : renNm (backL to ob.length x) (backL tn nm.length y) n1 (backL tn nm.length y) = some nm1)
    (d3 : nodupB (backL to ob.length x) = true) (d4 : nodupB (backL tn nm.length y) = true) :
    ∀ (G : Gh) (w : World) (cargs : List Value), (∀ o, o ∉ to → G.H o = none) → (∀ n, n ∉ tn → G.T n = none) → WRel Γ G (maskO to 0 ob) (maskN tn 0 nm) w → Rels G args cargs →
      CallsX P f cargs.toArray w fun e w' => ∃ cv G', e = .returned cv ∧ G.le G' ∧ VRel G' v' cv ∧ WRel Γ G' ob1 nm1 w' := by
  intro G w cargs gH gT hw hr
  have e2' : renOb to tn (maskO to 0 ob) to = some o := (renOb_congr fun x hx => maskO_in hx).trans e2
  have e3' : renNm to tn (maskN tn 0 nm) tn = some n := (renNm_congr fun x hx => maskN_in hx).trans e3
  have hwc := hw.ren e2' e3' d1 d2
  have hrc : Rels (G.ren to tn) a cargs := Rels.cl (G := G) (G' := G.ren to tn) (renP_cell to tn) (fun _ _ _ h => h) (renP_rel to tn) hr e1
  refine (h (G.ren to tn) w cargs hwc hrc).mono ?_
  rintro e w' ⟨cv, G1, rfl, hle, hv, hw1⟩
  have hvl : Rels G1 [v] [cv] := Rels.cons hv (Rels.nil _)
  have hvr : Rels (G1.ren (backL to ob.length x) (backL tn nm.length y)) [v'] [cv] := Rels.cl (G := G1) (G' := G1.ren (backL to ob.length x) (backL tn nm.length y)) (renP_cell _ _) (fun _ _ _ h => h) (renP_rel _ _) hvl f1
  refine ⟨cv, G1.ren (backL to ob.length x) (backL tn nm.length y), rfl, ⟨⟨hle.m, fun q b hh => ?_, fun q z hh => ?_, hle.d⟩, hle.kh, hle.kt, hle.w0, hle.m0, hle.kd⟩, hvr.2 0 v' cv rfl rfl, hw1.ren f2 f3 d3 d4⟩
  · have hq : q ∈ to := Classical.byContradiction fun hq => by rw [gH q hq] at hh; cases hh
    obtain ⟨i, hi⟩ := ixOf_mem hq
    have hl := (hw.hlt q b hh).1
    rw [maskO_len] at hl
    show ((backL to ob.length x)[q]?).bind G1.H = some b
    rw [backL_get hl hi]
    exact hle.h i b (by show (to[i]?).bind G.H = some b; rw [ixOf_get hi]; exact hh)
  · have hq : q ∈ tn := Classical.byContradiction fun hq => by rw [gT q hq] at hh; cases hh
    obtain ⟨i, hi⟩ := ixOf_mem hq
    have hl := hw.tlt q z hh
    rw [maskN_len] at hl
    show ((backL tn nm.length y)[q]?).bind G1.T = some z
    rw [backL_get hl hi]
    exact hle.t i z (by show (tn[i]?).bind G.T = some z; rw [ixOf_get hi]; exact hh)
theorem callC_ok {T : CallT} (hT : CtOk P Γ T) {f : FuncId} {args : List V} {ob : Ob} {nm : Nm} {out : Out} (h : callC T f args ob nm = some out) :
    EffOk 0 false ob nm out.eff ∧ out.eff.lays = true ∧ (out.chk = true → SemF P Γ f args ob nm out.v (out.eff.ob ob) (out.eff.nm nm) ∧ f ≠ yid ∧ ∃ fn, P.funcs[f]? = some fn ∧ fn.body.isSome = true ∧ (fn.name == "runtime.NumGoroutine") = false) := by
  unfold callC at h
  simp only [] at h
  generalize uniq [] (dO ob nm 3 args) = to at h
  generalize uniq [] (dN ob nm 3 args) = tn at h
  split at h
  · cases h
  · rename_i hin
    simp only [Bool.and_eq_true] at hin
    obtain ⟨⟨⟨⟨i1, i2⟩, i3⟩, d1⟩, d2⟩ := hin
    split at h
    · rename_i a o n e1 e2 e3
      split at h
      · rename_i c v o1 n1 ht
        split at h
        · rename_i v' ob1 nm1 f1 f2 f3
          split at h
          · rename_i hk
            simp only [Bool.and_eq_true] at hk
            obtain ⟨⟨⟨⟨⟨⟨d3, d4⟩, k1⟩, k2⟩, k3⟩, k4⟩, k5⟩ := hk
            have l1 : ob.length ≤ ob1.length := by have := freeKeep_len k1; rwa [maskO_len] at this
            have l2 : nm.length ≤ nm1.length := by have := freeKeep_len k2; rwa [maskN_len] at this
            cases h
            refine ⟨?_, ?_, fun hchk => ?_⟩
            · rw [outC_eff]
              refine ⟨(fun p hp => by cases hp), (fun p hp => by cases hp), (fun p hp => by
                cases hp
                refine ⟨fun s hs => ?_, fun s hs => ?_, fun o ho hno => ?_, fun n hn hno => ?_⟩
                · show (restO to 0 ob ob1)[s]? = some none
                  rw [restO_get to 0 ob ob1 l1]
                  split
                  · exact hs
                  · exact freeKeep_get k1 s (by rw [maskO_get, hs]; rfl)
                · show (restN tn 0 nm nm1)[s]? = some none
                  rw [restN_get tn 0 nm nm1 l2]
                  split
                  · exact hs
                  · exact freeKeep_get k2 s (by rw [maskN_get, hs]; rfl)
                · show (restO to 0 ob ob1)[o]? = ob[o]?
                  rw [restO_get to 0 ob ob1 l1, if_pos ⟨ho, by simpa using hno⟩]
                · show (restN tn 0 nm nm1)[n]? = nm[n]?
                  rw [restN_get tn 0 nm nm1 l2, if_pos ⟨hn, by simpa using hno⟩])⟩
            · rw [outC_eff]; rfl
            · rw [outC_chk] at hchk
              rw [outC_eff, outC_v]
              obtain ⟨hs, hfn⟩ := hT f a o n c v o1 n1 ht hchk
              refine ⟨SemF.maskR (SemF.backR hs e1 e2 e3 d1 d2 f1 f2 f3 d3 d4) ((inB_ok i1).mono (fun o ho => by simpa using ho) (fun n hn => by simpa using hn)) (fun o ho cs hcs => ?_) (fun n hn c hc => ?_) l1 l2 ((inB_ok k3).mono (fun o ho => okB.1 ho) (fun n hn => okB.1 hn)) (fun o ho cs hcs => ?_) (fun n hn c hc => ?_), hfn⟩
              · exact (inB_ok (allO_get i2 o cs hcs (by simpa using ho))).mono (fun o ho => by simpa using ho) (fun n hn => by simpa using hn)
              · refine els_names fun sz xs e => ?_
                subst e
                exact (inB_ok (allN_get i3 n sz xs hc (by simpa using hn))).mono (fun o ho => by simpa using ho) (fun n hn => by simpa using hn)
              · exact (inB_ok (allO_get k4 o cs hcs (by rw [Nat.zero_add]; exact okB.2 ho))).mono (fun o ho => okB.1 ho) (fun n hn => okB.1 hn)
              · refine els_names fun sz xs e => ?_
                subst e
                exact (inB_ok (allN_get k5 n sz xs hc (by rw [Nat.zero_add]; exact okB.2 hn))).mono (fun o ho => okB.1 ho) (fun n hn => okB.1 hn)
          · cases h
        · cases h
      · cases h
    · cases h
theorem callC_calls {T : CallT} (hT : CtOk P Γ T) : CallsOk P Γ (callC T) := fun f args ob nm out h hchk => by
  obtain ⟨g1, g2⟩ := (callC_ok hT h).2.2 hchk
  exact ⟨g1, .inr g2⟩
theorem callC_fit {T : CallT} (hT : CtOk P Γ T) : CallsFit (callC T) where
  eff := fun f args ob nm out h => (callC_ok hT h).1
  frame := fun f args ob nm out h ob' nm' hs => by
    obtain ⟨rfl, rfl⟩ := hs.2.2 (callC_ok hT h).2.1
    exact h
/-- One function more in a table. -/
theorem CtOk.cons {T : CallT} (h : CtOk P Γ T) (f0 : FuncId) (g : List V → Ob → Nm → Option (Option Bool × V × Ob × Nm)) (hy : f0 ≠ yid) (fn : Func) (hf : P.funcs[f0]? = some fn) (hb : fn.body.isSome = true) (hn : (fn.name == "runtime.NumGoroutine") = false)
    (hg : ∀ args ob nm c v ob1 nm1, g args ob nm = some (c, v, ob1, nm1) → c.getD true = true → SemF P Γ f0 args ob nm v ob1 nm1) :
    CtOk P Γ (fun f args ob nm => match Nat.beq f f0 with | true => g args ob nm | false => T f args ob nm) := by
  intro f args ob nm c v ob1 nm1 hv hc
  simp only at hv
  split at hv
  · rename_i he
    obtain rfl := Nat.eq_of_beq_eq_true he
    exact ⟨hg _ _ _ _ _ _ _ hv hc, hy, fn, hf, hb, hn⟩
  · exact h _ _ _ _ _ _ _ _ hv hc
theorem CtOk.none : CtOk P Γ (fun _ _ _ _ => Option.none) := fun f args ob nm c v ob1 nm1 h => by cases h
end
end Go.Proofs.Ytnjjkobijjdnbaa

