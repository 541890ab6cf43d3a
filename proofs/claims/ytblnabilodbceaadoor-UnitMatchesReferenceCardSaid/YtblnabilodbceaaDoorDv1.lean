/- Abstract values with deep lists, and their relation to the machine's values under a ghost state. Generic: no program in sight. -/
import Derived.WalkKit
import Derived.Deep.Draws
import Derived.Still
import Derived.KernelRfl
set_option linter.unusedVariables false
namespace Go.Proofs.YtblnabilodbceaaDoor
open Go

/-- What is known of a slice's room: nothing; none; a tail of the call's own under a name. -/
inductive Tag where
  | ro | full | own (n : Nat)
  deriving DecidableEq

inductive V where
  | b (x : Bool) | i (k : IntKind) (n : Int) | s (x : ByteArray)
  | sb (x : Bool) | si (k : IntKind) (n : Int) | ss (x : ByteArray)   -- the same, not known while the kernel reckons
  | nil | ptr (o off : Nat) | pel (xs : List V) (k off : Nat)
  | lst (t : Tag) (xs : List V) | sl (o off len : Nat)
  | fn (f : Fn) (first cap : List V) | nilfn
  | ifc (t : TypeId) (x : V) | nilifc
  | agg (cs : List V) | tup (xs : List V) | any

def V.cells : V → List V
  | .agg cs => cs
  | v => [v]
/-- One cell for sure. -/
def V.one : V → Bool
  | .agg _ | .tup _ | .any => false
  | _ => true
def flat (xs : List V) : List V := xs.flatMap V.cells

structure Tail where
  b : Nat
  lo : Nat
  hi : Nat

/-- Ghost: cells that never change, the blocks of objects, the tails of named slices; the world in which all began. -/
structure Gh where
  M : Nat → Nat → Option Value
  H : Nat → Option Nat
  T : Nat → Nat → Option Tail
  w0 : World
  M0 : Nat → Nat → Option Value

structure Gh.sub (G G' : Gh) : Prop where
  m : ∀ b off cv, G.M b off = some cv → G'.M b off = some cv
  h : ∀ o b, G.H o = some b → G'.H o = some b
  t : ∀ n l x, G.T n l = some x → G'.T n l = some x
structure Gh.le (G G' : Gh) : Prop extends toSub : Gh.sub G G' where
  w0 : G'.w0 = G.w0
  m0 : G'.M0 = G.M0
theorem Gh.le.refl (G : Gh) : G.le G := ⟨⟨fun _ _ _ h => h, fun _ _ h => h, fun _ _ _ h => h⟩, rfl, rfl⟩
theorem Gh.le.trans {A B C : Gh} (h : A.le B) (k : B.le C) : A.le C :=
  ⟨⟨fun _ _ _ x => k.m _ _ _ (h.m _ _ _ x), fun _ _ x => k.h _ _ (h.h _ _ x), fun _ _ _ x => k.t _ _ _ (h.t _ _ _ x)⟩, k.w0.trans h.w0, k.m0.trans h.m0⟩
/-- Without objects and names. -/
def Gh.bare (G : Gh) : Gh := { G with H := fun _ => none, T := fun _ _ => none }
theorem Gh.bare_sub (G : Gh) : G.bare.sub G := ⟨fun _ _ _ h => h, (fun _ _ h => by cases h), (fun _ _ _ h => by cases h)⟩
theorem Gh.sub.bare {G G' : Gh} (h : G.sub G') : G.bare.sub G'.bare := ⟨h.m, (fun _ _ h => by cases h), (fun _ _ _ h => by cases h)⟩

def TagOk (G : Gh) (len b off cap sz : Nat) : Tag → Prop
  | .ro => True
  | .full => cap = len
  | .own n => G.T n len = some ⟨b, off + len * sz, off + cap * sz⟩
theorem TagOk.mono {G G' : Gh} (h : G.sub G') {len b off cap sz : Nat} {t : Tag} (k : TagOk G len b off cap sz t) : TagOk G' len b off cap sz t := by
  cases t with
  | ro => trivial
  | full => exact k
  | own n => exact h.t _ _ _ k

inductive VRel (G : Gh) : V → Value → Prop
  | b (x : Bool) : VRel G (.b x) (.bool x)
  | i (k : IntKind) (n : Int) : VRel G (.i k n) (.int k n)
  | s (x : ByteArray) : VRel G (.s x) (.string x)
  | sb (x : Bool) : VRel G (.sb x) (.bool x)
  | si (k : IntKind) (n : Int) : VRel G (.si k n) (.int k n)
  | ss (x : ByteArray) : VRel G (.ss x) (.string x)
  | nil : VRel G .nil (.pointer none)
  | ptr {o off b : Nat} (h : G.H o = some b) : VRel G (.ptr o off) (.pointer (some ⟨b, off, none⟩))
  | pel {xs : List V} {k off b o0 sz : Nat} {cvs : List Value} (hsz : ∀ x ∈ xs, x.cells.length = sz) (hl : cvs.length = (flat xs).length)
      (hm : ∀ (j : Nat) (cv : Value), cvs[j]? = some cv → G.M b (o0 + j) = some cv) (hv : ∀ (j : Nat) (v : V) (cv : Value), (flat xs)[j]? = some v → cvs[j]? = some cv → VRel G v cv) :
      VRel G (.pel xs k off) (.pointer (some ⟨b, o0 + (k * sz + off), none⟩))
  | lst0 (t : Tag) : VRel G (.lst t []) (.slice none 0 0)
  | lst {t : Tag} {xs : List V} {b off cap sz : Nat} {cvs : List Value} (hsz : ∀ x ∈ xs, x.cells.length = sz) (hl : cvs.length = (flat xs).length)
      (hm : ∀ (j : Nat) (cv : Value), cvs[j]? = some cv → G.M b (off + j) = some cv) (hv : ∀ (j : Nat) (v : V) (cv : Value), (flat xs)[j]? = some v → cvs[j]? = some cv → VRel G v cv)
      (hc : xs.length ≤ cap) (ht : TagOk G xs.length b off cap sz t) : VRel G (.lst t xs) (.slice (some ⟨b, off, none⟩) xs.length cap)
  | sl {o off len cap b : Nat} (h : G.H o = some b) (hc : len ≤ cap) : VRel G (.sl o off len) (.slice (some ⟨b, off, none⟩) len cap)
  | fn {f : Fn} {xs ys : List V} {a c : Array Value} (ha : a.size = xs.length) (hc : c.size = ys.length) (h1 : ∀ (j : Nat) (v : V) (cv : Value), xs[j]? = some v → a[j]? = some cv → VRel G v cv)
      (h2 : ∀ (j : Nat) (v : V) (cv : Value), ys[j]? = some v → c[j]? = some cv → VRel G v cv) : VRel G (.fn f xs ys) (.func f a c)
  | nilfn : VRel G .nilfn .nilFunc
  | ifc {t : TypeId} {x : V} {v : Value} (h : VRel G x v) : VRel G (.ifc t x) (.iface t v)
  | nilifc : VRel G .nilifc .nilIface
  | agg {cs : List V} {c : Array Value} (hl : c.size = cs.length) (h : ∀ (j : Nat) (v : V) (cv : Value), cs[j]? = some v → c[j]? = some cv → VRel G v cv) : VRel G (.agg cs) (.agg c)
  | tup {cs : List V} {c : Array Value} (hl : c.size = cs.length) (h : ∀ (j : Nat) (v : V) (cv : Value), cs[j]? = some v → c[j]? = some cv → VRel G v cv) : VRel G (.tup cs) (.tuple c)
  | any (v : Value) : VRel G .any v

theorem VRel.mono' {G G' : Gh} (hle : G.sub G') {v : V} {cv : Value} (h : VRel G v cv) : VRel G' v cv := by
  induction h with
  | b x => exact .b x
  | i k n => exact .i k n
  | s x => exact .s x
  | sb x => exact .sb x
  | si k n => exact .si k n
  | ss x => exact .ss x
  | nil => exact .nil
  | ptr h => exact .ptr (hle.h _ _ h)
  | pel hsz hl hm hv ih => exact .pel hsz hl (fun j cv h => hle.m _ _ _ (hm j cv h)) ih
  | lst0 t => exact .lst0 t
  | lst hsz hl hm hv hc ht ih => exact .lst hsz hl (fun j cv h => hle.m _ _ _ (hm j cv h)) ih hc (ht.mono hle)
  | sl h hc => exact .sl (hle.h _ _ h) hc
  | fn ha hc h1 h2 i1 i2 => exact .fn ha hc i1 i2
  | nilfn => exact .nilfn
  | ifc h ih => exact .ifc ih
  | nilifc => exact .nilifc
  | agg hl h ih => exact .agg hl ih
  | tup hl h ih => exact .tup hl ih
  | any v => exact .any v

theorem VRel.mono {G G' : Gh} (hle : G.le G') {v : V} {cv : Value} (h : VRel G v cv) : VRel G' v cv := h.mono' hle.toSub

theorem VRel.oneCell {G : Gh} {v : V} {cv : Value} (h : VRel G v cv) (h1 : v.one = true) : cv.oneCell' = true := by
  cases h <;> first | rfl | simp [V.one] at h1

/-- Lists of values. -/
def Rels (G : Gh) (vs : List V) (cvs : List Value) : Prop := cvs.length = vs.length ∧ ∀ (j : Nat) (v : V) (cv : Value), vs[j]? = some v → cvs[j]? = some cv → VRel G v cv
theorem Rels.mono {G G' : Gh} (hle : G.le G') {vs : List V} {cvs : List Value} (h : Rels G vs cvs) : Rels G' vs cvs := ⟨h.1, fun j v cv a b => (h.2 j v cv a b).mono hle⟩
theorem Rels.mono' {G G' : Gh} (hle : G.sub G') {vs : List V} {cvs : List Value} (h : Rels G vs cvs) : Rels G' vs cvs := ⟨h.1, fun j v cv a b => (h.2 j v cv a b).mono' hle⟩
theorem Rels.nil (G : Gh) : Rels G [] [] := ⟨rfl, fun j v cv h => by simp at h⟩
theorem Rels.cons {G : Gh} {v : V} {cv : Value} {vs : List V} {cvs : List Value} (h : VRel G v cv) (k : Rels G vs cvs) : Rels G (v :: vs) (cv :: cvs) := by
  refine ⟨by simp [k.1], fun j x y hx hy => ?_⟩
  cases j with
  | zero => simp at hx hy; subst hx hy; exact h
  | succ j => simp at hx hy; exact k.2 j x y hx hy
theorem Rels.append {G : Gh} {a c : List V} {x y : List Value} (h : Rels G a x) (k : Rels G c y) : Rels G (a ++ c) (x ++ y) := by
  refine ⟨by simp [h.1, k.1], fun j v cv hv hc => ?_⟩
  rw [List.getElem?_append] at hv hc
  rw [h.1] at hc
  split at hv
  · rename_i hj; rw [if_pos hj] at hc; exact h.2 j v cv hv hc
  · rename_i hj; rw [if_neg hj] at hc; exact k.2 _ v cv hv hc
theorem Rels.of_get {G : Gh} {vs : List V} {cvs : List Value} (h : Rels G vs cvs) {j : Nat} {v : V} (hv : vs[j]? = some v) : ∃ cv, cvs[j]? = some cv ∧ VRel G v cv := by
  have hj : j < vs.length := by
    rcases Nat.lt_or_ge j vs.length with h' | h'
    · exact h'
    · simp [List.getElem?_eq_none h'] at hv
  have hc : cvs[j]? = some (cvs[j]'(by rw [h.1]; exact hj)) := List.getElem?_eq_getElem _
  exact ⟨_, hc, h.2 j v _ hv hc⟩
theorem Rels.take {G : Gh} {vs : List V} {cvs : List Value} (h : Rels G vs cvs) (n : Nat) : Rels G (vs.take n) (cvs.take n) := by
  refine ⟨by simp [h.1], fun j v cv hv hc => ?_⟩
  rw [List.getElem?_take] at hv hc
  split at hv
  · rename_i hj; rw [if_pos hj] at hc; exact h.2 j v cv hv hc
  · cases hv
theorem Rels.drop {G : Gh} {vs : List V} {cvs : List Value} (h : Rels G vs cvs) (n : Nat) : Rels G (vs.drop n) (cvs.drop n) := by
  refine ⟨by simp [h.1], fun j v cv hv hc => ?_⟩
  rw [List.getElem?_drop] at hv hc
  exact h.2 _ v cv hv hc
theorem Rels.set {G : Gh} {vs : List V} {cvs : List Value} (h : Rels G vs cvs) {v : V} {cv : Value} (k : VRel G v cv) (n : Nat) : Rels G (vs.set n v) (cvs.set n cv) := by
  refine ⟨by simp [h.1], fun j x y hx hy => ?_⟩
  rw [List.getElem?_set] at hx hy
  split at hx
  · rename_i hj
    subst hj
    rw [if_pos rfl] at hy
    rw [h.1] at hy
    split at hx
    · rename_i hl; rw [if_pos hl] at hy; simp at hx hy; subst hx hy; exact k
    · cases hx
  · rename_i hj; rw [if_neg hj] at hy; exact h.2 j x y hx hy
theorem Rels.replicate (G : Gh) {v : V} {cv : Value} (k : VRel G v cv) (n : Nat) : Rels G (List.replicate n v) (List.replicate n cv) := by
  refine ⟨by simp, fun j x y hx hy => ?_⟩
  rw [List.getElem?_replicate] at hx hy
  split at hx
  · rename_i hj; rw [if_pos hj] at hy; simp at hx hy; subst hx hy; exact k
  · cases hx

theorem VRel.cells {G : Gh} {v : V} {cv : Value} (h : VRel G v cv) (ha : v ≠ .any) : Rels G v.cells cv.cells.toList := by
  cases v with
  | any => exact absurd rfl ha
  | agg cs =>
    cases h with
    | agg hl h =>
      refine ⟨by simp [V.cells, Value.cells, hl], fun j x y hx hy => ?_⟩
      simp only [V.cells, Value.cells] at hx hy
      simp at hy
      exact h j x y hx hy
  | tup cs => cases h with | tup hl h => exact Rels.cons (.tup hl h) (Rels.nil G)
  | _ => cases h <;> exact Rels.cons (by constructor <;> assumption) (Rels.nil G)
end Go.Proofs.YtblnabilodbceaaDoor
