/- Parts of the library of texts, one after the other: Ev1. -/
import Derived.WalkKit
import Derived.Deep.Draws
import Derived.Still
import Derived.KernelRfl
/- Abstract values with deep lists, and their relation to the machine's values under a ghost state. Generic: no program in sight. -/
set_option linter.unusedVariables false
namespace Go.Proofs.Ytofbchcclkejgaa
open Go
inductive Ty where
 | bool | int (k : IntKind) | str | agg (fs : List Ty) | slice (e : Ty)
mutual
def Ty.den : Ty → Type
 | .bool => Bool
 | .int _ => Int
 | .str => ByteArray
 | .agg fs => Ty.dens fs
 | .slice e => List e.den
def Ty.dens : List Ty → Type
 | [] => Unit
 | t :: ts => t.den × Ty.dens ts
end
mutual
def Ty.dflt : (t : Ty) → t.den
 | .bool => false
 | .int _ => (0 : Int)
 | .str => ByteArray.empty
 | .agg fs => Ty.dflts fs
 | .slice _ => []
def Ty.dflts : (ts : List Ty) → Ty.dens ts
 | [] => ()
 | t :: ts => (t.dflt, Ty.dflts ts)
end
mutual
def Ty.size : Ty → Nat
 | .agg fs => Ty.sizes fs
 | .bool => 1
 | .int _ => 1
 | .str => 1
 | .slice _ => 1
def Ty.sizes : List Ty → Nat
 | [] => 0
 | t :: ts => t.size + Ty.sizes ts
end
inductive Tag where
 | ro | full
 deriving DecidableEq
inductive V where
 | b (x : Bool) | i (k : IntKind) (n : Int) | s (x : ByteArray)
 | sb (x : Bool) | si (k : IntKind) (n : Int) | ss (x : ByteArray)   -- the same, not known while the kernel reckons
 | nil | ptr (o off : Nat) | pel (xs : List V) (k off : Nat)
 | lst (t : Tag) (xs : List V) | sl (o off len : Nat)
 | fn (f : Fn) (first cap : List V) | nilfn
 | ifc (t : TypeId) (x : V) | nilifc
 | agg (cs : List V) | tup (xs : List V) | any
 | slst (t : Tag) (ty : Ty) (l : List ty.den)   -- a list that never changes, as plain data
 | bs (sy : Bool) (n off len : Nat)   -- a slice of a buffer of the call's own; sy: its place and length are not known while the kernel reckons
 | bp (n i off : Nat)   -- a pointer into an element of a buffer
 | yl (tm : List V) (ps : Array Tmp) (as bd : Code)   -- yield of a range over a function: what its rounds begin with, and their code
 | tp (E n o : Nat)   -- a pointer to the first cell of an object whose block is a row of E, of so many cells
 | nls   -- the nil slice, told so
 | els   -- an empty slice that is not nil
mutual
def Ty.cells : (t : Ty) → t.den → List V
 | .bool, x => [.sb x]
 | .int k, n => [.si k n]
 | .str, s => [.ss s]
 | .agg fs, x => Ty.cellss fs x
 | .slice e, l => [.slst .ro e l]
def Ty.cellss : (ts : List Ty) → Ty.dens ts → List V
 | [], _ => []
 | t :: ts, x => t.cells x.1 ++ Ty.cellss ts x.2
end
def Ty.val : (t : Ty) → t.den → V
 | .bool, x => .sb x
 | .int k, n => .si k n
 | .str, s => .ss s
 | .agg fs, x => .agg (Ty.cellss fs x)
 | .slice e, l => .slst .ro e l
def Ty.vals : (ts : List Ty) → Ty.dens ts → List V
 | [], _ => []
 | t :: ts, x => t.val x.1 :: Ty.vals ts x.2
def V.cells : V → List V
 | .agg cs => cs
 | v => [v]
def V.one : V → Bool
 | .agg _ | .tup _ | .any => false
 | _ => true
def flat (xs : List V) : List V := xs.flatMap V.cells
structure Tail where
 b : Nat
 lo : Nat
 sz : Nat
 len : Nat
 cap : Nat
structure W0 extends World where
 S : Nat → Bool
 bd : List Deferred := []   -- the calls that the function itself has deferred
def W0.own (x : W0) (b : Nat) : Prop := x.heap.size ≤ b ∨ x.S b = true
theorem W0.own_lt {x : W0} {b : Nat} (h : ¬ x.own b) : b < x.heap.size := by
 rcases Nat.lt_or_ge b x.heap.size with h' | h'
 · exact h'
 · exact absurd (.inl h') h
theorem W0.own_ne {x : W0} {b k : Nat} (h : x.own b) (hk : ¬ x.own k) : k ≠ b := fun e => hk (e ▸ h)
def W0.of (w : World) : W0 := { w with S := fun _ => false }
theorem W0.own_of {w : World} {b : Nat} (h : (W0.of w).own b) : w.heap.size ≤ b := by
 rcases h with h | h
 · exact h
 · cases h
theorem W0.not_of {w : World} {b : Nat} (h : b < w.heap.size) : ¬ (W0.of w).own b := fun k => by have := W0.own_of k; omega
structure Gh where
 M : Nat → Nat → Option Value
 H : Nat → Option Nat
 T : Nat → Option Tail
 D : Nat → Option Obj   -- blocks that are no cells: the records of ranges over functions, the blocks for deferred calls
 kh : Nat
 kt : Nat
 w0 : W0
 M0 : Nat → Nat → Option Value
 kd : Nat   -- the blocks that lay when the function began
structure Gh.sub (G G' : Gh) : Prop where
 m : ∀ b off cv, G.M b off = some cv → G'.M b off = some cv
 h : ∀ o b, G.H o = some b → G'.H o = some b
 t : ∀ n x, G.T n = some x → G'.T n = some x
 d : ∀ l o, G.D l = some o → G'.D l = some o
structure Gh.le (G G' : Gh) : Prop extends toSub : Gh.sub G G' where
 kh : G'.kh = G.kh
 kt : G'.kt = G.kt
 w0 : G'.w0 = G.w0
 m0 : G'.M0 = G.M0
 kd : G'.kd = G.kd
theorem Gh.le.refl (G : Gh) : G.le G := ⟨⟨fun _ _ _ h => h, fun _ _ h => h, fun _ _ h => h, fun _ _ h => h⟩, rfl, rfl, rfl, rfl, rfl⟩
theorem Gh.le.trans {A B C : Gh} (h : A.le B) (k : B.le C) : A.le C :=
 ⟨⟨fun _ _ _ x => k.m _ _ _ (h.m _ _ _ x), fun _ _ x => k.h _ _ (h.h _ _ x), fun _ _ x => k.t _ _ (h.t _ _ x), fun _ _ x => k.d _ _ (h.d _ _ x)⟩, k.kh.trans h.kh, k.kt.trans h.kt, k.w0.trans h.w0, k.m0.trans h.m0, k.kd.trans h.kd⟩
structure Gh.leW (G G' : Gh) : Prop where
 m : ∀ b off cv, G.M b off = some cv → G'.M b off = some cv
 h : ∀ o b, o < G.kh → G.H o = some b → G'.H o = some b
 t : ∀ n x, n < G.kt → G.T n = some x → G'.T n = some x
 d : ∀ l o, G.D l = some o → G'.D l = some o
 kh : G'.kh = G.kh
 kt : G'.kt = G.kt
 w0 : G'.w0 = G.w0
 m0 : G'.M0 = G.M0
 kd : G'.kd = G.kd
theorem Gh.le.weak {G G' : Gh} (h : G.le G') : G.leW G' := ⟨h.m, fun o b _ => h.h o b, fun n x _ => h.t n x, h.d, h.kh, h.kt, h.w0, h.m0, h.kd⟩
theorem Gh.leW.refl (G : Gh) : G.leW G := (Gh.le.refl G).weak
theorem Gh.leW.trans {A B C : Gh} (h : A.leW B) (k : B.leW C) : A.leW C :=
 ⟨fun _ _ _ x => k.m _ _ _ (h.m _ _ _ x), fun o b l x => k.h _ _ (by rw [h.kh]; exact l) (h.h _ _ l x), fun n b l x => k.t _ _ (by rw [h.kt]; exact l) (h.t _ _ l x), fun _ _ x => k.d _ _ (h.d _ _ x), k.kh.trans h.kh, k.kt.trans h.kt, k.w0.trans h.w0, k.m0.trans h.m0, k.kd.trans h.kd⟩
def Gh.bare (G : Gh) : Gh := { G with H := fun _ => none, T := fun _ => none, D := fun _ => none }
theorem Gh.bare_sub (G : Gh) : G.bare.sub G := ⟨fun _ _ _ h => h, (fun _ _ h => by cases h), (fun _ _ h => by cases h), (fun _ _ h => by cases h)⟩
theorem Gh.sub.bare {G G' : Gh} (h : G.sub G') : G.bare.sub G'.bare := ⟨h.m, (fun _ _ h => by cases h), (fun _ _ h => by cases h), (fun _ _ h => by cases h)⟩
def TagOk (G : Gh) (len b off cap sz : Nat) : Tag → Prop
 | .ro => True
 | .full => cap = len
theorem TagOk.mono {G : Gh} (G' : Gh) {len b off cap sz : Nat} {t : Tag} (k : TagOk G len b off cap sz t) : TagOk G' len b off cap sz t := by
 cases t with
 | ro => trivial
 | full => exact k
def tyFact (E : TypeId) (n : Nat) : Obj := .cells (Array.replicate n .nilFunc) E (0, 0)
inductive VRel (G : Gh) : V → Value → Prop
 | b (x : Bool) : VRel G (.b x) (.bool x)
 | i (k : IntKind) (n : Int) : VRel G (.i k n) (.int k n)
 | s (x : ByteArray) : VRel G (.s x) (.string x)
 | sb (x : Bool) : VRel G (.sb x) (.bool x)
 | si (k : IntKind) (n : Int) : VRel G (.si k n) (.int k n)
 | ss (x : ByteArray) : VRel G (.ss x) (.string x)
 | nil : VRel G .nil (.pointer none)
 | ptr {o off b : Nat} (h : G.H o = some b) : VRel G (.ptr o off) (.pointer (some ⟨b, off, none⟩))
 | pel {xs : List V} {k off b o0 sz : Nat} {cvs : List Value} (hsz : ∀ x ∈ xs, x.cells.length = sz) (hl : cvs.length = (flat xs).length)
  (hm : ∀ (j : Nat) (cv : Value), cvs[j]? = some cv → G.M b (o0 + j) = some cv) (hv : ∀ (j : Nat) (v : V) (cv : Value), (flat xs)[j]? = some v → cvs[j]? = some cv → VRel G v cv) :
  VRel G (.pel xs k off) (.pointer (some ⟨b, o0 + (k * sz + off), none⟩))
 | lst0 (t : Tag) (p : Option Addr) : VRel G (.lst t []) (.slice p 0 0)
 | lst1 (p : Addr) (cap : Nat) : VRel G (.lst .ro []) (.slice (some p) 0 cap)
 | lst {t : Tag} {xs : List V} {b off cap sz : Nat} {cvs : List Value} (hsz : ∀ x ∈ xs, x.cells.length = sz) (hl : cvs.length = (flat xs).length)
  (hm : ∀ (j : Nat) (cv : Value), cvs[j]? = some cv → G.M b (off + j) = some cv) (hv : ∀ (j : Nat) (v : V) (cv : Value), (flat xs)[j]? = some v → cvs[j]? = some cv → VRel G v cv)
  (hc : xs.length ≤ cap) (ht : TagOk G xs.length b off cap sz t) : VRel G (.lst t xs) (.slice (some ⟨b, off, none⟩) xs.length cap)
 | sl {o off len cap b : Nat} (h : G.H o = some b) (hc : len ≤ cap) : VRel G (.sl o off len) (.slice (some ⟨b, off, none⟩) len cap)
 | fn {f : Fn} {xs ys : List V} {a c : Array Value} (ha : a.size = xs.length) (hc : c.size = ys.length) (h1 : ∀ (j : Nat) (v : V) (cv : Value), xs[j]? = some v → a[j]? = some cv → VRel G v cv)
  (h2 : ∀ (j : Nat) (v : V) (cv : Value), ys[j]? = some v → c[j]? = some cv → VRel G v cv) : VRel G (.fn f xs ys) (.func f a c)
 | nilfn : VRel G .nilfn .nilFunc
 | ifc {t : TypeId} {x : V} {v : Value} (h : VRel G x v) : VRel G (.ifc t x) (.iface t v)
 | nilifc : VRel G .nilifc .nilIface
 | agg {cs : List V} {c : Array Value} (hl : c.size = cs.length) (h : ∀ (j : Nat) (v : V) (cv : Value), cs[j]? = some v → c[j]? = some cv → VRel G v cv) : VRel G (.agg cs) (.agg c)
 | tup {cs : List V} {c : Array Value} (hl : c.size = cs.length) (h : ∀ (j : Nat) (v : V) (cv : Value), cs[j]? = some v → c[j]? = some cv → VRel G v cv) : VRel G (.tup cs) (.tuple c)
 | any (v : Value) : VRel G .any v
 | slst {t : Tag} {ty : Ty} {l : List ty.den} {cv : Value} (h : VRel G (.lst t (l.map ty.val)) cv) : VRel G (.slst t ty l) cv
 | bs0 (sy : Bool) (n off : Nat) : VRel G (.bs sy n off 0) (.slice none 0 0)
 | bs1 (sy : Bool) (n off : Nat) (a : Addr) : VRel G (.bs sy n off 0) (.slice (some a) 0 0)
 | bs {sy : Bool} {n off len : Nat} {x : Tail} (h : G.T n = some x) (hl : off + len ≤ x.len) : VRel G (.bs sy n off len) (.slice (some ⟨x.b, x.lo + off * x.sz, none⟩) len (x.cap - off))
 | bp {n i off : Nat} {x : Tail} (h : G.T n = some x) : VRel G (.bp n i off) (.pointer (some ⟨x.b, x.lo + (i * x.sz + off), none⟩))
 | yl {tm : List V} {ps : Array Tmp} {as bd : Code} {l : Nat} {r : Loop} (h : G.D l = some (.loop r)) (hs : r.state = .ready ∧ r.pending = none ∧ r.params = ps ∧ r.assign = as ∧ r.body = bd) (hl : r.tmps.size = tm.length)
  (ht : ∀ (j : Nat) (v : V) (cv : Value), tm[j]? = some v → r.tmps[j]? = some cv → VRel G v cv) : VRel G (.yl tm ps as bd) (.func (.yield l) #[] #[])
 | tp {E n o b : Nat} (h : G.H o = some b) (hd : G.D b = some (tyFact E n)) : VRel G (.tp E n o) (.pointer (some ⟨b, 0, none⟩))
 | nls : VRel G .nls (.slice none 0 0)
 | els (a : Addr) (c : Nat) : VRel G .els (.slice (some a) 0 c)
theorem VRel.mono0 {G G' : Gh} (gm : ∀ b off cv, G.M b off = some cv → G'.M b off = some cv) (gh : ∀ o b, G.H o = some b → G'.H o = some b) (gt : ∀ n x, G.T n = some x → G'.T n = some x)
 (gd : ∀ l r, r.state = .ready → G.D l = some (.loop r) → G'.D l = some (.loop r)) (ge : ∀ l E n, G.D l = some (tyFact E n) → G'.D l = some (tyFact E n)) {v : V} {cv : Value} (h : VRel G v cv) : VRel G' v cv := by
 induction h with
 | b x => exact .b x
 | i k n => exact .i k n
 | s x => exact .s x
 | sb x => exact .sb x
 | si k n => exact .si k n
 | ss x => exact .ss x
 | nil => exact .nil
 | ptr h => exact .ptr (gh _ _ h)
 | pel hsz hl hm hv ih => exact .pel hsz hl (fun j cv h => gm _ _ _ (hm j cv h)) ih
 | lst0 t p => exact .lst0 t p
 | lst1 p cap => exact .lst1 p cap
 | lst hsz hl hm hv hc ht ih => exact .lst hsz hl (fun j cv h => gm _ _ _ (hm j cv h)) ih hc (ht.mono G')
 | sl h hc => exact .sl (gh _ _ h) hc
 | fn ha hc h1 h2 i1 i2 => exact .fn ha hc i1 i2
 | nilfn => exact .nilfn
 | ifc h ih => exact .ifc ih
 | nilifc => exact .nilifc
 | agg hl h ih => exact .agg hl ih
 | tup hl h ih => exact .tup hl ih
 | any v => exact .any v
 | slst h ih => exact .slst ih
 | bs0 sy n off => exact .bs0 sy n off
 | bs1 sy n off a => exact .bs1 sy n off a
 | bs h hl => exact .bs (gt _ _ h) hl
 | bp h => exact .bp (gt _ _ h)
 | yl h hs hl ht ih => exact .yl (gd _ _ hs.1 h) hs hl ih
 | tp h hd => exact .tp (gh _ _ h) (ge _ _ _ hd)
 | nls => exact .nls
 | els a c => exact .els a c
theorem VRel.mono' {G G' : Gh} (hle : G.sub G') {v : V} {cv : Value} (h : VRel G v cv) : VRel G' v cv := h.mono0 hle.m hle.h hle.t (fun l r _ h => hle.d l _ h) (fun l E n h => hle.d l _ h)
theorem VRel.mono {G G' : Gh} (hle : G.le G') {v : V} {cv : Value} (h : VRel G v cv) : VRel G' v cv := h.mono' hle.toSub
theorem VRel.slice_form {G : Gh} {t : Tag} {xs : List V} {cv : Value} (h : VRel G (.lst t xs) cv) : ∃ p c, cv = .slice p xs.length c := by
 cases h with
 | lst0 t p => exact ⟨p, 0, rfl⟩
 | lst1 p cap => exact ⟨_, cap, rfl⟩
 | lst hsz hl hm hv hc ht => exact ⟨_, _, rfl⟩
theorem VRel.oneCell {G : Gh} {v : V} {cv : Value} (h : VRel G v cv) (h1 : v.one = true) : cv.oneCell' = true := by
 cases h <;> first | rfl | (simp [V.one] at h1; done) | (rename_i h; obtain ⟨_, _, rfl⟩ := h.slice_form; rfl)
def Rels (G : Gh) (vs : List V) (cvs : List Value) : Prop := cvs.length = vs.length ∧ ∀ (j : Nat) (v : V) (cv : Value), vs[j]? = some v → cvs[j]? = some cv → VRel G v cv
theorem Rels.mono {G G' : Gh} (hle : G.le G') {vs : List V} {cvs : List Value} (h : Rels G vs cvs) : Rels G' vs cvs := ⟨h.1, fun j v cv a b => (h.2 j v cv a b).mono hle⟩
theorem Rels.mono' {G G' : Gh} (hle : G.sub G') {vs : List V} {cvs : List Value} (h : Rels G vs cvs) : Rels G' vs cvs := ⟨h.1, fun j v cv a b => (h.2 j v cv a b).mono' hle⟩
theorem Rels.nil (G : Gh) : Rels G [] [] := ⟨rfl, fun j v cv h => by simp at h⟩
theorem Rels.cons {G : Gh} {v : V} {cv : Value} {vs : List V} {cvs : List Value} (h : VRel G v cv) (k : Rels G vs cvs) : Rels G (v :: vs) (cv :: cvs) := by
 refine ⟨by simp [k.1], fun j x y hx hy => ?_⟩
 cases j with
 | zero => simp at hx hy; subst hx hy; exact h
 | succ j => simp at hx hy; exact k.2 j x y hx hy
theorem Rels.append {G : Gh} {a c : List V} {x y : List Value} (h : Rels G a x) (k : Rels G c y) : Rels G (a ++ c) (x ++ y) := by
 refine ⟨by simp [h.1, k.1], fun j v cv hv hc => ?_⟩
 rw [List.getElem?_append] at hv hc
 rw [h.1] at hc
 split at hv
 · rename_i hj; rw [if_pos hj] at hc; exact h.2 j v cv hv hc
 · rename_i hj; rw [if_neg hj] at hc; exact k.2 _ v cv hv hc
theorem Rels.of_get {G : Gh} {vs : List V} {cvs : List Value} (h : Rels G vs cvs) {j : Nat} {v : V} (hv : vs[j]? = some v) : ∃ cv, cvs[j]? = some cv ∧ VRel G v cv := by
 have hj : j < vs.length := by
  rcases Nat.lt_or_ge j vs.length with h' | h'
  · exact h'
  · simp [List.getElem?_eq_none h'] at hv
 have hc : cvs[j]? = some (cvs[j]'(by rw [h.1]; exact hj)) := List.getElem?_eq_getElem _
 exact ⟨_, hc, h.2 j v _ hv hc⟩
theorem Rels.take {G : Gh} {vs : List V} {cvs : List Value} (h : Rels G vs cvs) (n : Nat) : Rels G (vs.take n) (cvs.take n) := by
 refine ⟨by simp [h.1], fun j v cv hv hc => ?_⟩
 rw [List.getElem?_take] at hv hc
 split at hv
 · rename_i hj; rw [if_pos hj] at hc; exact h.2 j v cv hv hc
 · cases hv
theorem Rels.drop {G : Gh} {vs : List V} {cvs : List Value} (h : Rels G vs cvs) (n : Nat) : Rels G (vs.drop n) (cvs.drop n) := by
 refine ⟨by simp [h.1], fun j v cv hv hc => ?_⟩
 rw [List.getElem?_drop] at hv hc
 exact h.2 _ v cv hv hc
theorem Rels.set {G : Gh} {vs : List V} {cvs : List Value} (h : Rels G vs cvs) {v : V} {cv : Value} (k : VRel G v cv) (n : Nat) : Rels G (vs.set n v) (cvs.set n cv) := by
 refine ⟨by simp [h.1], fun j x y hx hy => ?_⟩
 rw [List.getElem?_set] at hx hy
 split at hx
 · rename_i hj
   subst hj
   rw [if_pos rfl] at hy
   rw [h.1] at hy
   split at hx
   · rename_i hl; rw [if_pos hl] at hy; simp at hx hy; subst hx hy; exact k
   · cases hx
 · rename_i hj; rw [if_neg hj] at hy; exact h.2 j x y hx hy
theorem Rels.replicate (G : Gh) {v : V} {cv : Value} (k : VRel G v cv) (n : Nat) : Rels G (List.replicate n v) (List.replicate n cv) := by
 refine ⟨by simp, fun j x y hx hy => ?_⟩
 rw [List.getElem?_replicate] at hx hy
 split at hx
 · rename_i hj; rw [if_pos hj] at hy; simp at hx hy; subst hx hy; exact k
 · cases hx
theorem VRel.cells {G : Gh} {v : V} {cv : Value} (h : VRel G v cv) (ha : v ≠ .any) : Rels G v.cells cv.cells.toList := by
 cases v with
 | any => exact absurd rfl ha
 | agg cs =>
  cases h with
  | agg hl h =>
   refine ⟨by simp [V.cells, Value.cells, hl], fun j x y hx hy => ?_⟩
   simp only [V.cells, Value.cells] at hx hy
   simp at hy
   exact h j x y hx hy
 | tup cs => cases h with | tup hl h => exact Rels.cons (.tup hl h) (Rels.nil G)
 | slst t ty l =>
  cases h with
  | slst h =>
   have k := h
   obtain ⟨_, _, rfl⟩ := h.slice_form
   exact Rels.cons (.slst k) (Rels.nil G)
 | _ => cases h <;> exact Rels.cons (by constructor <;> assumption) (Rels.nil G)
end Go.Proofs.Ytofbchcclkejgaa

