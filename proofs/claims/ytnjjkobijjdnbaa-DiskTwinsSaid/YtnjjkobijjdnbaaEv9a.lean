/- Types of plain data compared; a list of one as a list of the other. -/
import Derived.Test.YtnjjkobijjdnbaaEv9
set_option linter.unusedVariables false
set_option linter.unusedSimpArgs false
namespace Go.Proofs.Ytnjjkobijjdnbaa
open Go
mutual
def Ty.eqb : Ty → Ty → Bool
  | .bool, .bool => true
  | .int k, .int k' => decide (k = k')
  | .str, .str => true
  | .agg a, .agg b => Ty.eqbs a b
  | .slice a, .slice b => Ty.eqb a b
  | _, _ => false
def Ty.eqbs : List Ty → List Ty → Bool
  | [], [] => true
  | a :: as, b :: bs => Ty.eqb a b && Ty.eqbs as bs
  | _, _ => false
end
mutual
theorem Ty.eqb_eq : ∀ {a b : Ty}, Ty.eqb a b = true → a = b
  | .bool, b, h => by cases b <;> simp [Ty.eqb] at h; rfl
  | .int k, b, h => by cases b <;> simp [Ty.eqb] at h; rw [h]
  | .str, b, h => by cases b <;> simp [Ty.eqb] at h; rfl
  | .agg x, b, h => by
    cases b <;> simp only [Ty.eqb] at h <;> first | (cases h; done) | rw [Ty.eqbs_eq h]
  | .slice x, b, h => by
    cases b <;> simp only [Ty.eqb] at h <;> first | (cases h; done) | rw [Ty.eqb_eq h]
theorem Ty.eqbs_eq : ∀ {a b : List Ty}, Ty.eqbs a b = true → a = b
  | [], b, h => by cases b <;> simp [Ty.eqbs] at h; rfl
  | x :: xs, b, h => by
    cases b with
    | nil => simp [Ty.eqbs] at h
    | cons y ys =>
      simp only [Ty.eqbs, Bool.and_eq_true] at h
      rw [Ty.eqb_eq h.1, Ty.eqbs_eq h.2]
end
/-- A list of one type as a list of another one that is the same. -/
def listAs {a : Ty} (b : Ty) (l : List a.den) : Option (List b.den) := if h : a.eqb b = true then some (cast (by rw [Ty.eqb_eq h]) l) else none
theorem listAs_eq {a b : Ty} {l : List a.den} {l' : List b.den} (h : listAs b l = some l') : l'.map b.val = l.map a.val := by
  unfold listAs at h
  split at h
  · rename_i he
    obtain rfl := Ty.eqb_eq he
    cases h
    rfl
  · cases h
theorem VRel.lst_ro {G : Gh} {t : Tag} {xs : List V} {cv : Value} (h : VRel G (.lst t xs) cv) : VRel G (.lst .ro xs) cv := by
  cases h with
  | lst0 => exact .lst0 _
  | lst1 p cap => exact .lst1 p cap
  | lst hsz hl hm hv hc ht => exact .lst hsz hl hm hv hc trivial
end Go.Proofs.Ytnjjkobijjdnbaa
