/- Package disk: a write that fits, and what is read. -/
import Derived.Test.YtnjjkobijjdnbaaK2
set_option linter.unusedVariables false
set_option linter.unusedSimpArgs false
set_option maxRecDepth 100000
set_option maxHeartbeats 4000000
namespace Go.Proofs.Ytnjjkobijjdnbaa
open Go
namespace D
def wt : Ty := .agg [.int .i64, .str, .bool]
def wp : Ty := .agg [.int .i64, .str]
theorem fits_run (o n : Int) (s : ByteArray) (y : Bool) : run (cfg orc1 fun _ _ => none) 26 [.agg [.si .i64 o, .ss s, .sb y], .si .i64 n] = .ok (some (inr o && decide ((IntKind.i64.wrap (n + 1)) ≠ 0) && decide ((0 : Int) ≤ 0 ∧ 0 ≤ Bd.hi (some (IntKind.i64, if IntKind.i64.wrap (n - pickD o (IntKind.i64.wrap (n + 1))) < (Nat.cast (s.size) : Int) then IntKind.i64.wrap (n - pickD o (IntKind.i64.wrap (n + 1))) else (Nat.cast (s.size) : Int), true)) s.size ∧ Bd.hi (some (IntKind.i64, if IntKind.i64.wrap (n - pickD o (IntKind.i64.wrap (n + 1))) < (Nat.cast (s.size) : Int) then IntKind.i64.wrap (n - pickD o (IntKind.i64.wrap (n + 1))) else (Nat.cast (s.size) : Int), true)) s.size ≤ (Nat.cast (s.size) : Int)))) (V.agg [V.si IntKind.i64 (pickD o (IntKind.i64.wrap (n + 1))), V.ss (s.extract 0 (Bd.hi (some (IntKind.i64, if IntKind.i64.wrap (n - pickD o (IntKind.i64.wrap (n + 1))) < (Nat.cast (s.size) : Int) then IntKind.i64.wrap (n - pickD o (IntKind.i64.wrap (n + 1))) else (Nat.cast (s.size) : Int), true)) s.size).toNat), V.sb y]) := by kernel_rfl
theorem read_run (d v : List Int) (q : List (Ty.den wp)) (n : Int) : run (cfg orc1 fun _ _ => none) 14 [.pel [.agg [.b false, .i .i64 0, .slst .ro (.int .u8) d, .slst .ro (.int .u8) v, .slst .ro wp q]] 0 0, .i .i64 0, .si .i64 n] = .ok (some ((!bif decide (n ≥ 0) then bif decide (0 ≤ (Nat.cast (d.length) : Int)) then decide (n ≤ IntKind.i64.wrap ((Nat.cast (d.length) : Int) - 0)) else false else false) || decide ((0 : Int) ≤ 0 ∧ 0 ≤ Bd.hi none v.length ∧ Bd.hi none v.length ≤ (Nat.cast (v.length) : Int)) && decide ((0 : Int) ≤ 0 ∧ 0 ≤ Bd.hi (some (IntKind.i64, n, true)) (List.drop 0 (List.take (Bd.hi none v.length).toNat v)).length ∧ Bd.hi (some (IntKind.i64, n, true)) (List.drop 0 (List.take (Bd.hi none v.length).toNat v)).length ≤ (Nat.cast ((List.drop 0 (List.take (Bd.hi none v.length).toNat v)).length) : Int)))) (V.tup [V.ss (bif !bif decide (n ≥ 0) then bif decide (0 ≤ (Nat.cast (d.length) : Int)) then decide (n ≤ IntKind.i64.wrap ((Nat.cast (d.length) : Int) - 0)) else false else false then (ByteArray.mk #[]) else strOfNums (cast rfl (List.drop 0 (List.take (Bd.hi (some (IntKind.i64, n, true)) (List.drop 0 (List.take (Bd.hi none v.length).toNat v)).length).toNat (List.drop 0 (List.take (Bd.hi none v.length).toNat v)))))), V.si IntKind.i64 (bif !bif decide (n ≥ 0) then bif decide (0 ≤ (Nat.cast (d.length) : Int)) then decide (n ≤ IntKind.i64.wrap ((Nat.cast (d.length) : Int) - 0)) else false else false then (330 : Int) else (0 : Int))]) := by kernel_rfl
/-- Where a write is laid, and what of it. -/
def fo (o n : Int) : Int := pickD o (n + 1)
def fs (s : ByteArray) (o n : Int) : ByteArray := s.extract 0 (min (n - fo o n) s.size).toNat
theorem fo_in {o n : Int} (h : 0 ≤ n) : 0 ≤ fo o n ∧ fo o n ≤ n := by
  have := pickD_lt (k := o) (n := n + 1) (by omega)
  unfold fo; omega
theorem fs_size {s : ByteArray} {o n : Int} (h : 0 ≤ n) : (fs s o n).size ≤ n - fo o n := by
  have := fo_in (o := o) h
  simp only [fs, ByteArray.size_extract]
  omega
def fitsE (o n : Int) (s : ByteArray) (y : Bool) : Option Bool × V := (some (inr o && decide (0 ≤ n ∧ n ≤ 4194304)), .agg [.si .i64 (fo o n), .ss (fs s o n), .sb y])
theorem fits_ok (o n : Int) (s : ByteArray) (y : Bool) (h : (fitsE o n s y).1.getD true = true) : SemF Try.prog G0 26 [.agg [.si .i64 o, .ss s, .sb y], .si .i64 n] [] [] (fitsE o n s y).2 [] [] := by
  have h : (inr o && decide (0 ≤ n ∧ n ≤ 4194304)) = true := h
  rw [Bool.and_eq_true, decide_eq_true_eq] at h
  obtain ⟨h1, h2, h3⟩ := h
  have hw : IntKind.i64.wrap (n + 1) = n + 1 := wrap_in (by omega) (by omega)
  obtain ⟨p1, p2⟩ := pickD_lt (k := o) (n := n + 1) (by omega)
  have hw2 : IntKind.i64.wrap (n - pickD o (n + 1)) = n - pickD o (n + 1) := wrap_in (by omega) (by omega)
  have hm : (if n - pickD o (n + 1) < (s.size : Int) then n - pickD o (n + 1) else (s.size : Int)) = min (n - pickD o (n + 1)) s.size := by
    rw [Int.min_def]; split <;> split <;> omega
  refine of_run (cfg_ok orc1_ok) (fits_run o n s y) ?_ ?_
  · simp only [hw, hw2, Bd.hi, hm, h1, Option.getD_some, Bool.and_eq_true, decide_eq_true_eq]
    refine ⟨⟨trivial, by omega⟩, by omega, by omega, by omega⟩
  · simp only [hw, hw2, Bd.hi, hm, fitsE, fo, fs]
def readE (d v : List Int) (n : Int) : Option Bool × V := (some (decide (0 ≤ n ∧ n ≤ d.length ∧ n ≤ v.length ∧ d.length ≤ 4194304)), .tup [.ss (strOfNums (v.take n.toNat)), .si .i64 0])
theorem read_ok (d v : List Int) (q : List (Ty.den wp)) (n : Int) (h : (readE d v n).1.getD true = true) : SemF Try.prog G0 14 [.pel [.agg [.b false, .i .i64 0, .slst .ro (.int .u8) d, .slst .ro (.int .u8) v, .slst .ro wp q]] 0 0, .i .i64 0, .si .i64 n] [] [] (readE d v n).2 [] [] := by
  obtain ⟨h1, h2, h3, h4⟩ := of_decide_eq_true (show decide _ = true from h)
  have hw : IntKind.i64.wrap ((Nat.cast d.length : Int) - 0) = d.length := by rw [Int.sub_zero]; exact wrap_in (by omega) (by omega)
  have a1 : decide (n ≥ 0) = true := by simpa using h1
  have a2 : decide (0 ≤ (Nat.cast d.length : Int)) = true := by simp
  have a3 : decide (n ≤ (Nat.cast d.length : Int)) = true := by simpa using h2
  refine of_run (cfg_ok orc1_ok) (read_run d v q n) ?_ ?_
  · simp only [hw, Bd.hi, a1, a2, a3, cond_true, Bool.not_true, Bool.false_or, Option.getD_some, Bool.and_eq_true, decide_eq_true_eq, List.drop_zero, List.length_take, Int.toNat_natCast, Nat.min_self]
    exact ⟨decide_eq_true ⟨by omega, by omega, by omega⟩, by omega, by omega, by omega⟩
  · simp only [hw, Bd.hi, a1, a2, a3, cond_true, Bool.not_true, cond_false, List.drop_zero, Int.toNat_natCast, List.take_length, readE]
    rfl
/-- An entry of the table by a shape. -/
theorem orcPat {orc : Orc} {A : Type} (h : OrcOk Try.prog G0 orc) (f0 : FuncId) (pat : List V → Option A) (emb : A → List V) (hp : ∀ args a, pat args = some a → args = emb a) (g : A → Option Bool × V) (fn : Func) (hf : Try.prog.funcs[f0]? = some fn) (hb : fn.body.isSome = true) (hn : (fn.name == "runtime.NumGoroutine") = false)
    (hg : ∀ a, (g a).1.getD true = true → SemF Try.prog G0 f0 (emb a) [] [] (g a).2 [] []) : OrcOk Try.prog G0 (fun f args => match Nat.beq f f0 with | true => (pat args).map g | false => orc f args) := by
  intro f args c v hv hc
  simp only at hv
  split at hv
  · rename_i he
    obtain rfl := Nat.eq_of_beq_eq_true he
    rw [Option.map_eq_some_iff] at hv
    obtain ⟨x, hx, hgx⟩ := hv
    have hs := hg x (by rw [hgx]; exact hc)
    rw [hgx] at hs
    rw [hp args x hx]
    exact ⟨hs, fn, hf, hb, hn⟩
  · exact h f args c v hv hc
def fitsP : List V → Option (Int × Int × ByteArray × Bool)
  | [.agg [.si .i64 o, .ss s, .sb y], .si .i64 n] => some (o, n, s, y)
  | _ => none
def readP : List V → Option (List Int × List Int × List (Ty.den wp) × Int)
  | [.pel [.agg [.b false, .i .i64 l, .slst .ro (.int .u8) d, .slst .ro (.int .u8) v, .slst .ro (.agg [.int .i64, .str]) q]] 0 0, .i .i64 o, .si .i64 n] => if l = 0 ∧ o = 0 then some (d, v, q, n) else none
  | _ => none
noncomputable def orc2 : Orc := fun f args => match Nat.beq f 14 with | true => (readP args).map (fun a => readE a.1 a.2.1 a.2.2.2) | false => (fun f args => match Nat.beq f 26 with | true => (fitsP args).map (fun a => fitsE a.1 a.2.1 a.2.2.1 a.2.2.2) | false => orc1 f args) f args
theorem orc2_ok : OrcOk Try.prog G0 orc2 :=
  orcPat (orcPat orc1_ok 26 fitsP (fun a => [.agg [.si .i64 a.1, .ss a.2.2.1, .sb a.2.2.2], .si .i64 a.2.1]) (fun args a h => by
      unfold fitsP at h
      split at h
      · cases h; rfl
      · cases h) _ Try.f26 Try.func26 rfl (by kernel_rfl) (fun a h => fits_ok _ _ _ _ h))
    14 readP (fun a => [.pel [.agg [.b false, .i .i64 0, .slst .ro (.int .u8) a.1, .slst .ro (.int .u8) a.2.1, .slst .ro wp a.2.2.1]] 0 0, .i .i64 0, .si .i64 a.2.2.2]) (fun args a h => by
      unfold readP at h
      split at h
      · split at h
        · rename_i hc
          obtain ⟨rfl, rfl⟩ := hc
          cases h; rfl
        · cases h
      · cases h) _ Try.f14 Try.func14 rfl (by kernel_rfl) (fun a h => read_ok _ _ _ _ h)
end D
end Go.Proofs.Ytnjjkobijjdnbaa
