/- Parts of the library of texts, one after the other: L39, L40, L41, L42, L43, L44, L45. -/
import Derived.Test.YthjiodeaepigmaaDoorLlm
/- Package label: the laws of unions and of joins, in plain terms. -/
set_option linter.unusedVariables false
set_option linter.unusedSimpArgs false
set_option maxRecDepth 100000
set_option maxHeartbeats 4000000
namespace Go.Proofs.YthjiodeaepigmaaDoor
open Go
namespace L
section
variable {α : Type} {cmp : α → α → Int} {cb : α → α → α}
theorem un_nil (b : List α) : unD cmp cb [] b = b := by unfold unD; rw [mgA_nil]; rfl
theorem un_end (a : List α) : unD cmp cb a [] = a := by unfold unD; rw [mgA_end]; simp
theorem un_cons (x y : α) (a b : List α) : unD cmp cb (x :: a) (y :: b) = if cmp x y < 0 then x :: unD cmp cb a (y :: b) else if cmp x y > 0 then y :: unD cmp cb (x :: a) b else cb x y :: unD cmp cb a b := by
  unfold unD
  rw [mgA_cons]
  split
  · rfl
  · split <;> rfl
/-- A comparison that orders, and what is made of equal ones. -/
structure Ord (cmp : α → α → Int) (cb : α → α → α) : Prop where
  tr : ∀ {x y z}, cmp x y < 0 → cmp y z < 0 → cmp x z < 0
  sy : ∀ {x y}, cmp x y > 0 ↔ cmp y x < 0
  zl : ∀ {x y} z, cmp x y = 0 → cmp y z = cmp x z
  cb1 : ∀ {x y} z, cmp x y = 0 → cmp (cb x y) z = cmp x z
  cbc : ∀ {x y}, cmp x y = 0 → cb x y = cb y x
  cba : ∀ {x y z}, cmp x y = 0 → cmp y z = 0 → cb (cb x y) z = cb x (cb y z)
  cbi : ∀ x, cb x x = x
namespace Ord
variable (h : Ord cmp cb)
include h
theorem z0 {x y : α} : cmp x y = 0 → cmp y x = 0 := fun e => by
  have h1 := h.sy (x := x) (y := y)
  have h2 := h.sy (x := y) (y := x)
  omega
theorem refl (x : α) : cmp x x = 0 := by
  have h1 := h.sy (x := x) (y := x)
  omega
theorem zr {x y : α} (z : α) (e : cmp x y = 0) : (cmp z y < 0 ↔ cmp z x < 0) ∧ (cmp z y = 0 ↔ cmp z x = 0) ∧ (cmp z y > 0 ↔ cmp z x > 0) := by
  have e1 := h.zl z e
  have a1 := h.sy (x := z) (y := y)
  have a2 := h.sy (x := y) (y := z)
  have a3 := h.sy (x := z) (y := x)
  have a4 := h.sy (x := x) (y := z)
  omega
theorem cb2 {x y : α} (z : α) (e : cmp x y = 0) : (cmp z (cb x y) < 0 ↔ cmp z x < 0) ∧ (cmp z (cb x y) = 0 ↔ cmp z x = 0) ∧ (cmp z (cb x y) > 0 ↔ cmp z x > 0) := by
  have e1 := h.cb1 z e
  have a1 := h.sy (x := z) (y := cb x y)
  have a2 := h.sy (x := cb x y) (y := z)
  have a3 := h.sy (x := z) (y := x)
  have a4 := h.sy (x := x) (y := z)
  omega
theorem tr_le {x y z : α} (a : cmp x y < 0) (b : cmp y z ≤ 0) : cmp x z < 0 := by
  by_cases e : cmp y z = 0
  · exact (h.zr x e).1.2 a
  · exact h.tr a (by omega)
/-- What holds of all that is put together. -/
theorem all {p : α → Prop} (hp : ∀ x y, cmp x y = 0 → (p (cb x y) ↔ p x ∧ p y)) : ∀ (n : Nat) (a b : List α), a.length + b.length ≤ n → ((∀ w ∈ unD cmp cb a b, p w) ↔ (∀ x ∈ a, p x) ∧ ∀ y ∈ b, p y)
  | _, [], b, _ => by have _ := h.refl; rw [un_nil]; simp
  | _, x :: a, [], _ => by rw [un_end]; simp
  | 0, x :: a, y :: b, hn => by simp at hn
  | n + 1, x :: a, y :: b, hn => by
    simp only [List.length_cons] at hn
    rw [un_cons]
    split
    · rw [List.forall_mem_cons, all hp n a (y :: b) (by simp only [List.length_cons]; omega), List.forall_mem_cons (a := x), and_assoc]
    · split
      · rw [List.forall_mem_cons, all hp n (x :: a) b (by simp only [List.length_cons]; omega), List.forall_mem_cons (a := y)]
        constructor
        · rintro ⟨q1, q2, q3⟩; exact ⟨q2, q1, q3⟩
        · rintro ⟨q1, q2, q3⟩; exact ⟨q2, q1, q3⟩
      · rw [List.forall_mem_cons, all hp n a b (by omega), List.forall_mem_cons (a := x), List.forall_mem_cons (a := y), hp x y (by omega)]
        constructor
        · rintro ⟨⟨q1, q2⟩, q3, q4⟩; exact ⟨⟨q1, q3⟩, q2, q4⟩
        · rintro ⟨⟨q1, q3⟩, q2, q4⟩; exact ⟨⟨q1, q2⟩, q3, q4⟩
theorem sorted : ∀ (n : Nat) (a b : List α), a.length + b.length ≤ n → a.Pairwise (fun x y => cmp x y < 0) → b.Pairwise (fun x y => cmp x y < 0) → (unD cmp cb a b).Pairwise (fun x y => cmp x y < 0)
  | _, [], b, _, _, hb => by rw [un_nil]; exact hb
  | _, x :: a, [], _, ha, _ => by rw [un_end]; exact ha
  | 0, x :: a, y :: b, hn, _, _ => by simp at hn
  | n + 1, x :: a, y :: b, hn, ha, hb => by
    simp only [List.length_cons] at hn
    rw [un_cons]
    obtain ⟨a1, a2⟩ := List.pairwise_cons.1 ha
    obtain ⟨b1, b2⟩ := List.pairwise_cons.1 hb
    have key : ∀ (z : α), ∀ u v, cmp u v = 0 → (cmp z (cb u v) < 0 ↔ cmp z u < 0 ∧ cmp z v < 0) := fun z u v e => by
      rw [(h.cb2 z e).1, (h.zr z e).1, and_self]
    split
    · rename_i c
      refine List.pairwise_cons.2 ⟨(h.all (key x) _ a (y :: b) (Nat.le_refl _)).2 ⟨a1, fun w hw => ?_⟩, sorted n a (y :: b) (by simp only [List.length_cons]; omega) a2 hb⟩
      rcases List.mem_cons.1 hw with rfl | hw
      · exact c
      · exact h.tr c (b1 w hw)
    · split
      · rename_i c
        have c := h.sy.1 c
        refine List.pairwise_cons.2 ⟨(h.all (key y) _ (x :: a) b (Nat.le_refl _)).2 ⟨fun w hw => ?_, b1⟩, sorted n (x :: a) b (by simp only [List.length_cons]; omega) ha b2⟩
        rcases List.mem_cons.1 hw with rfl | hw
        · exact c
        · exact h.tr c (a1 w hw)
      · rename_i c1 c2
        have e : cmp x y = 0 := by omega
        refine List.pairwise_cons.2 ⟨(h.all (key (cb x y)) _ a b (Nat.le_refl _)).2 ⟨fun w hw => ?_, fun w hw => ?_⟩, sorted n a b (by omega) a2 b2⟩
        · rw [h.cb1 w e]; exact a1 w hw
        · rw [h.cb1 w e, ← h.zl w e]; exact b1 w hw
theorem comm : ∀ (n : Nat) (a b : List α), a.length + b.length ≤ n → unD cmp cb a b = unD cmp cb b a
  | _, [], b, _ => by rw [un_nil, un_end]
  | _, x :: a, [], _ => by rw [un_nil, un_end]
  | 0, x :: a, y :: b, hn => by simp at hn
  | n + 1, x :: a, y :: b, hn => by
    simp only [List.length_cons] at hn
    rw [un_cons, un_cons]
    have s1 := h.sy (x := x) (y := y)
    have s2 := h.sy (x := y) (y := x)
    by_cases c1 : cmp x y < 0
    · rw [if_pos c1, if_neg (by omega), if_pos (by omega), comm n a (y :: b) (by simp only [List.length_cons]; omega)]
    · by_cases c2 : cmp x y > 0
      · rw [if_neg c1, if_pos c2, if_pos (by omega), comm n (x :: a) b (by simp only [List.length_cons]; omega)]
      · rw [if_neg c1, if_neg c2, if_neg (by omega), if_neg (by omega), comm n a b (by omega), h.cbc (by omega)]
theorem idem : ∀ (a : List α), unD cmp cb a a = a
  | [] => un_nil _
  | x :: a => by
    have := h.refl x
    rw [un_cons, if_neg (by omega), if_neg (by omega), idem a, h.cbi]
/-- A list all of whose elements another one has adds nothing. -/
theorem absorb (hz : ∀ x y, cmp x y = 0 → x = y) : ∀ (n : Nat) (a b : List α), a.length + b.length ≤ n → a.Pairwise (fun x y => cmp x y < 0) → b.Pairwise (fun x y => cmp x y < 0) → (∀ x ∈ a, x ∈ b) → unD cmp cb a b = b
  | _, [], b, _, _, _, _ => un_nil _
  | _, x :: a, [], _, _, _, hs => by cases hs x (List.mem_cons_self ..)
  | 0, x :: a, y :: b, hn, _, _, _ => by simp at hn
  | n + 1, x :: a, y :: b, hn, ha, hb, hs => by
    simp only [List.length_cons] at hn
    obtain ⟨a1, a2⟩ := List.pairwise_cons.1 ha
    obtain ⟨b1, b2⟩ := List.pairwise_cons.1 hb
    have r := h.refl x
    rw [un_cons]
    rcases List.mem_cons.1 (hs x (List.mem_cons_self ..)) with e | hx
    · subst e
      rw [if_neg (by omega), if_neg (by omega), h.cbi, absorb hz n a b (by omega) a2 b2 fun z hz' => ?_]
      rcases List.mem_cons.1 (hs z (List.mem_cons_of_mem _ hz')) with e | hm
      · subst e
        have := a1 z hz'
        have := h.refl z
        omega
      · exact hm
    · have c := h.sy.2 (b1 x hx)
      rw [if_neg (by omega), if_pos c, absorb hz n (x :: a) b (by simp only [List.length_cons]; omega) ha b2 fun z hz' => ?_]
      rcases List.mem_cons.1 (hs z hz') with e | hm
      · subst e
        rcases List.mem_cons.1 hz' with e | hm2
        · subst e; exact hx
        · have k1 := a1 z hm2
          have k2 := h.sy.1 c
          have k3 := h.tr k1 k2
          omega
      · exact hm
theorem assoc : ∀ (n : Nat) (a b c : List α), a.length + b.length + c.length ≤ n → unD cmp cb (unD cmp cb a b) c = unD cmp cb a (unD cmp cb b c)
  | _, [], b, c, _ => by rw [un_nil, un_nil]
  | _, x :: a, [], c, _ => by rw [un_nil, un_end]
  | _, x :: a, y :: b, [], _ => by rw [un_end, un_end]
  | 0, x :: a, y :: b, z :: c, hn => by simp at hn
  | n + 1, x :: a, y :: b, z :: c, hn => by
    simp only [List.length_cons] at hn
    have L : ∀ (l : List α) (w : α), (w :: l).length = l.length + 1 := fun l w => rfl
    have syxy := h.sy (x := x) (y := y)
    have syyx := h.sy (x := y) (y := x)
    have syyz := h.sy (x := y) (y := z)
    have syzy := h.sy (x := z) (y := y)
    have syxz := h.sy (x := x) (y := z)
    have syzx := h.sy (x := z) (y := x)
    by_cases c1 : cmp x y < 0
    · by_cases d1 : cmp y z < 0
      · -- x < y < z
        have e1 := h.tr c1 d1
        rw [un_cons x y, if_pos c1, un_cons x z, if_pos e1, un_cons y z, if_pos d1, un_cons x y, if_pos c1, assoc n a (y :: b) (z :: c) (by simp only [List.length_cons]; omega), un_cons y z, if_pos d1]
      · by_cases d2 : cmp y z > 0
        · -- x < y, z < y
          by_cases e1 : cmp x z < 0
          · rw [un_cons x y, if_pos c1, un_cons x z, if_pos e1, un_cons y z, if_neg d1, if_pos d2, un_cons x z, if_pos e1, assoc n a (y :: b) (z :: c) (by simp only [List.length_cons]; omega), un_cons y z, if_neg d1, if_pos d2]
          · by_cases e2 : cmp x z > 0
            · have := assoc n (x :: a) (y :: b) c (by simp only [List.length_cons]; omega)
              rw [un_cons x y, if_pos c1] at this
              rw [un_cons x y, if_pos c1, un_cons x z, if_neg e1, if_pos e2, un_cons y z, if_neg d1, if_pos d2, un_cons x z, if_neg e1, if_pos e2, this]
            · have := assoc n a (y :: b) c (by simp only [List.length_cons]; omega)
              rw [un_cons x y, if_pos c1, un_cons x z, if_neg e1, if_neg e2, un_cons y z, if_neg d1, if_pos d2, un_cons x z, if_neg e1, if_neg e2, this]
        · -- x < y = z
          have e1 : cmp x z < 0 := h.tr_le c1 (by omega)
          rw [un_cons x y, if_pos c1, un_cons x z, if_pos e1, un_cons y z, if_neg d1, if_neg d2, un_cons x (cb y z), if_pos ((h.cb2 x (by omega)).1.2 c1), assoc n a (y :: b) (z :: c) (by simp only [List.length_cons]; omega), un_cons y z, if_neg d1, if_neg d2]
    · by_cases c2 : cmp x y > 0
      · -- y < x
        have c3 := h.sy.1 c2
        by_cases d1 : cmp y z < 0
        · have := assoc n (x :: a) b (z :: c) (by simp only [List.length_cons]; omega)
          rw [un_cons x y, if_neg c1, if_pos c2, un_cons y z, if_pos d1, un_cons y z, if_pos d1, un_cons x y, if_neg c1, if_pos c2, this]
        · by_cases d2 : cmp y z > 0
          · -- z < y < x
            have e2 : cmp x z > 0 := h.sy.2 (h.tr (h.sy.1 d2) c3)
            have := assoc n (x :: a) (y :: b) c (by simp only [List.length_cons]; omega)
            rw [un_cons x y, if_neg c1, if_pos c2] at this
            rw [un_cons x y, if_neg c1, if_pos c2, un_cons y z, if_neg d1, if_pos d2, un_cons y z, if_neg d1, if_pos d2, un_cons x z, if_neg (by omega), if_pos e2, this]
          · -- z = y < x
            have := assoc n (x :: a) b c (by simp only [List.length_cons]; omega)
            have k := (h.cb2 (x := y) (y := z) x (by omega)).2.2.2 c2
            rw [un_cons x y, if_neg c1, if_pos c2, un_cons y z, if_neg d1, if_neg d2, un_cons y z, if_neg d1, if_neg d2, un_cons x (cb y z), if_neg (by omega), if_pos k, this]
      · -- x = y
        have c0 : cmp x y = 0 := by omega
        have q1 := h.zl z c0
        have q2 := h.cb1 z c0
        by_cases d1 : cmp y z < 0
        · have := assoc n a b (z :: c) (by simp only [List.length_cons]; omega)
          rw [un_cons x y, if_neg c1, if_neg c2, un_cons (cb x y) z, if_pos (by omega), un_cons y z, if_pos d1, un_cons x y, if_neg c1, if_neg c2, this]
        · by_cases d2 : cmp y z > 0
          · have := assoc n (x :: a) (y :: b) c (by simp only [List.length_cons]; omega)
            rw [un_cons x y, if_neg c1, if_neg c2] at this
            rw [un_cons x y, if_neg c1, if_neg c2, un_cons (cb x y) z, if_neg (by omega), if_pos (by omega), un_cons y z, if_neg d1, if_pos d2, un_cons x z, if_neg (by omega), if_pos (by omega), this]
          · have k := (h.cb2 (x := y) (y := z) x (by omega)).2.1.2 c0
            have := assoc n a b c (by omega)
            rw [un_cons x y, if_neg c1, if_neg c2, un_cons (cb x y) z, if_neg (by omega), if_neg (by omega), un_cons y z, if_neg d1, if_neg d2, un_cons x (cb y z), if_neg (by omega), if_neg (by omega), this, h.cba c0 (by omega)]
end Ord
end
theorem sgn_cases (a b : Int) : (sgn a b < 0 ↔ a < b) ∧ (sgn a b > 0 ↔ b < a) ∧ (sgn a b = 0 ↔ a = b) := by
  unfold sgn
  split
  · omega
  · split <;> omega
theorem ordI : Ord sgn cbI where
  tr := fun {x y z} a b => by
    rw [(sgn_cases _ _).1] at *
    omega
  sy := fun {x y} => by rw [(sgn_cases _ _).2.1, (sgn_cases _ _).1]
  zl := fun z e => by rw [sgn_zero.1 e]
  cb1 := fun z e => rfl
  cbc := fun e => sgn_zero.1 e
  cba := fun _ _ => rfl
  cbi := fun _ => rfl
theorem ordC : Ord cmpC cbC where
  tr := fun {x y z} a b => by
    unfold cmpC at *
    rw [(sgn_cases _ _).1] at *
    omega
  sy := fun {x y} => by unfold cmpC; rw [(sgn_cases _ _).2.1, (sgn_cases _ _).1]
  zl := fun z e => by unfold cmpC at *; rw [sgn_zero.1 e]
  cb1 := fun z e => rfl
  cbc := fun {x y} e => by
    rw [conf_ext]
    have e : cF x = cF y := sgn_zero.1 e
    refine ⟨e, ?_⟩
    show (if cC y > cC x then cC y else cC x) = (if cC x > cC y then cC x else cC y)
    split <;> split <;> omega
  cba := fun {x y z} _ _ => by
    rw [conf_ext]
    refine ⟨rfl, ?_⟩
    show (if cC z > (if cC y > cC x then cC y else cC x) then cC z else (if cC y > cC x then cC y else cC x)) = (if (if cC z > cC y then cC z else cC y) > cC x then (if cC z > cC y then cC z else cC y) else cC x)
    repeat' split
    all_goals omega
  cbi := fun x => by
    rw [conf_ext]
    refine ⟨rfl, ?_⟩
    show (if cC x > cC x then cC x else cC x) = cC x
    split <;> rfl
theorem lexC_sy : ∀ {a b : List Int}, lexC a b > 0 ↔ lexC b a < 0
  | [], [] => by simp [lexC]
  | [], y :: b => by simp [lexC]
  | x :: a, [] => by simp [lexC]
  | x :: a, y :: b => by
    have h1 := sgn_cases x y
    have h2 := sgn_cases y x
    unfold lexC
    by_cases e : sgn x y = 0
    · rw [if_neg (by simpa using e), if_neg (by have := h1.2.2.1 e; have := h2.2.2.2 this.symm; simpa using this)]
      exact lexC_sy
    · rw [if_pos e, if_pos (by intro k; exact e (h1.2.2.2 (h2.2.2.1 k).symm))]
      omega
theorem lexC_tr : ∀ {a b c : List Int}, lexC a b < 0 → lexC b c < 0 → lexC a c < 0
  | [], [], c, h, _ => by simp [lexC] at h
  | [], y :: b, [], _, h => by simp [lexC] at h
  | [], y :: b, z :: c, _, _ => by simp [lexC]
  | x :: a, [], c, h, _ => by simp [lexC] at h
  | x :: a, y :: b, [], _, h => by simp [lexC] at h
  | x :: a, y :: b, z :: c, h1, h2 => by
    unfold lexC at h1 h2 ⊢
    have k1 := sgn_cases x y
    have k2 := sgn_cases y z
    have k3 := sgn_cases x z
    by_cases e1 : sgn x y = 0
    · rw [if_neg (by simpa using e1)] at h1
      have := k1.2.2.1 e1
      subst this
      by_cases e2 : sgn x z = 0
      · rw [if_neg (by simpa using e2)] at h2 ⊢
        exact lexC_tr h1 h2
      · rw [if_pos e2] at h2 ⊢
        exact h2
    · rw [if_pos e1] at h1
      by_cases e2 : sgn y z = 0
      · have := k2.2.2.1 e2
        subst this
        rw [if_pos e1]
        exact h1
      · rw [if_pos e2] at h2
        rw [if_pos (by omega)]
        omega
theorem cmpL_lex (x y : Ty.den lockT) : cmpL x y = if sgn (kN x) (kN y) ≠ 0 then sgn (kN x) (kN y) else lexC (kK x) (kK y) := rfl
theorem ordL : Ord cmpL cbL where
  tr := fun {x y z} a b => by
    rw [cmpL_lex] at *
    generalize kN x = n at *
    generalize kN y = m at *
    generalize kN z = k at *
    have k1 := sgn_cases n m
    have k2 := sgn_cases m k
    have k3 := sgn_cases n k
    by_cases e1 : sgn n m = 0
    · rw [if_neg (by simpa using e1)] at a
      have := k1.2.2.1 e1
      subst this
      by_cases e2 : sgn n k = 0
      · rw [if_neg (by simpa using e2)] at b ⊢
        exact lexC_tr a b
      · rw [if_pos e2] at b ⊢
        exact b
    · rw [if_pos e1] at a
      by_cases e2 : sgn m k = 0
      · have := k2.2.2.1 e2
        subst this
        rw [if_pos e1]
        exact a
      · rw [if_pos e2] at b
        rw [if_pos (by omega)]
        omega
  sy := fun {x y} => by
    rw [cmpL_lex, cmpL_lex]
    generalize kN x = n
    generalize kN y = m
    have h1 := sgn_cases n m
    have h2 := sgn_cases m n
    by_cases e : sgn n m = 0
    · rw [if_neg (by simpa using e), if_neg (by have := h1.2.2.1 e; have := h2.2.2.2 this.symm; simpa using this)]
      exact lexC_sy
    · rw [if_pos e, if_pos (by intro k; exact e (h1.2.2.2 (h2.2.2.1 k).symm))]
      omega
  zl := fun z e => by rw [cmpL_zero.1 e]
  cb1 := fun z e => rfl
  cbc := fun e => cmpL_zero.1 e
  cba := fun _ _ => rfl
  cbi := fun _ => rfl
end L
end Go.Proofs.YthjiodeaepigmaaDoor


/- Package label: labels as a lattice, in plain terms. -/
set_option linter.unusedVariables false
set_option linter.unusedSimpArgs false
set_option maxRecDepth 100000
set_option maxHeartbeats 4000000
namespace Go.Proofs.YthjiodeaepigmaaDoor
open Go
namespace L
theorem valid_of {x : Ty.den labT} (h1 : 0 ≤ aU x ∧ aU x ≤ 50000000) (h2 : 0 ≤ aT x ∧ aT x ≤ 255) (h3 : 0 ≤ aK x ∧ aK x ≤ 255) (h4 : (aL x).length ≤ 4) (h5 : locksD (aL x) = true) (h6 : risingD (aE x) 19 = true) (h7 : countsD (aC x) 1 = true) : vX x = true := by
  unfold vX validE
  rw [inR_of h1.1 h1.2, inR_of h2.1 h2.2, inR_of h3.1 h3.2, h5, h6, h7, decide_eq_false (by omega)]; rfl
theorem locks_iff {l : List (Ty.den lockT)} : locksD l = true ↔ (∀ q ∈ l, risingD (kK q) 19 = true ∧ 1 ≤ kN q ∧ kN q ≤ (kK q).length) ∧ l.Pairwise fun x y => cmpL x y < 0 := by
  constructor
  · intro h
    refine ⟨locks_out h, ?_⟩
    have hb : ∀ j (hj : j + 1 < l.length), cmpL l[j] l[j + 1] < 0 := fun j hj => by
      have := allI_true.1 h (j + 1) hj
      unfold lkB at this
      have e0 : l.getD (j + 1 - 1) lockT.dflt = l[j] := getD_eq (show j < l.length by omega) _
      have e1 : l.getD (j + 1) lockT.dflt = l[j + 1] := getD_eq hj _
      rw [e0, e1] at this
      simp only [Bool.and_eq_true, Bool.or_eq_true, Bool.not_eq_true', decide_eq_true_eq, decide_eq_false_iff_not] at this
      rcases this.2 with k | k
      · omega
      · exact k
    rw [List.pairwise_iff_getElem]
    intro i j hi hj hij
    induction j with
    | zero => omega
    | succ j ih =>
      by_cases e : i = j
      · subst e; exact hb i hj
      · exact ordL.tr (ih (by omega) (by omega)) (hb j hj)
  · rintro ⟨h1, h2⟩
    refine allI_true.2 fun i hi => ?_
    unfold lkB
    have e1 : l.getD i lockT.dflt = l[i] := getD_eq hi _
    obtain ⟨a, b, c⟩ := h1 l[i] (List.getElem_mem hi)
    rw [e1, a, decide_eq_true (show kN l[i] ≥ 1 from b), decide_eq_true c]
    rw [List.pairwise_iff_getElem] at h2
    match i, hi, e1 with
    | 0, _, _ => rfl
    | i + 1, hi, _ =>
      have e0 : l.getD (i + 1 - 1) lockT.dflt = l[i] := getD_eq (show i < l.length by omega) _
      rw [e0, decide_eq_true (h2 i (i + 1) (by omega) hi (by omega)), Bool.or_true]
      rfl
theorem andI_nat {a b : Nat} (ha : a ≤ 255) : andI (a : Int) (b : Int) = ((a &&& b : Nat) : Int) ∧ a &&& b ≤ a := by
  have h0 : a &&& b ≤ a := Nat.and_le_left
  refine ⟨?_, h0⟩
  unfold andI
  have h : (BitVec.ofInt 64 (a : Int) &&& BitVec.ofInt 64 (b : Int)).toNat = a &&& b := by
    rw [BitVec.ofInt_natCast, BitVec.ofInt_natCast, BitVec.toNat_and, BitVec.toNat_ofNat, BitVec.toNat_ofNat, Nat.mod_eq_of_lt (by omega)]
    apply Nat.eq_of_testBit_eq
    intro i
    rw [Nat.testBit_and, Nat.testBit_and, Nat.testBit_mod_two_pow]
    by_cases hi : i < 64
    · simp [hi]
    · have : a.testBit i = false := Nat.testBit_lt_two_pow (by have : 2 ^ 64 ≤ 2 ^ i := Nat.pow_le_pow_right (by decide) (by omega); omega)
      simp [this]
  rw [h]
  exact wrap_in (by omega) (by omega)
theorem noBit_nat {a k : Nat} (ha : a ≤ 255) (hk : k ≤ 7) : noBit (a : Int) (k : Int) = !a.testBit k := by
  have e1 : (a : Int).fdiv (2 ^ min (k : Int).toNat 64) = ((a / 2 ^ k : Nat) : Int) := by
    rw [Int.toNat_natCast, Nat.min_eq_left (by omega), Int.fdiv_eq_ediv_of_nonneg _ (by exact Int.le_of_lt (Int.pow_pos (by decide)))]
    rw [Int.natCast_ediv, Int.natCast_pow]; rfl
  have e2 : a / 2 ^ k ≤ 255 := Nat.le_trans (Nat.div_le_self _ _) ha
  have e3 := (andI_nat (b := 1) e2).1
  unfold noBit
  rw [e1]
  have e4 : IntKind.i64.wrap (((BitVec.ofInt 64 ((a / 2 ^ k : Nat) : Int) &&& BitVec.ofInt 64 (1 : Int)).toNat : Nat) : Int) = andI ((a / 2 ^ k : Nat) : Int) ((1 : Nat) : Int) := rfl
  rw [e4, e3, Nat.and_one_is_mod, Nat.testBit_eq_decide_div_mod_eq]
  have : a / 2 ^ k % 2 < 2 := Nat.mod_lt _ (by decide)
  rcases (show a / 2 ^ k % 2 = 0 ∨ a / 2 ^ k % 2 = 1 by omega) with h | h <;> rw [h] <;> rfl
theorem noBit_and {a b r : Int} (ha : 0 ≤ a ∧ a ≤ 255) (hb : 0 ≤ b ∧ b ≤ 255) (hr : 0 ≤ r ∧ r ≤ 7) : noBit (andI a b) r = (noBit a r || noBit b r) := by
  obtain ⟨a, rfl⟩ := Int.eq_ofNat_of_zero_le ha.1
  obtain ⟨b, rfl⟩ := Int.eq_ofNat_of_zero_le hb.1
  obtain ⟨r, rfl⟩ := Int.eq_ofNat_of_zero_le hr.1
  obtain ⟨e1, e2⟩ := andI_nat (a := a) (b := b) (by omega)
  rw [e1, noBit_nat (by omega) (by omega), noBit_nat (by omega) (by omega), noBit_nat (by omega) (by omega), Nat.testBit_and, Bool.not_and]
theorem andI_in {a b : Int} (ha : 0 ≤ a ∧ a ≤ 255) (hb : 0 ≤ b ∧ b ≤ 255) : 0 ≤ andI a b ∧ andI a b ≤ 255 := by
  obtain ⟨a, rfl⟩ := Int.eq_ofNat_of_zero_le ha.1
  obtain ⟨b, rfl⟩ := Int.eq_ofNat_of_zero_le hb.1
  obtain ⟨e1, e2⟩ := andI_nat (a := a) (b := b) (by omega)
  rw [e1]
  omega
theorem andI_comm {a b : Int} (ha : 0 ≤ a ∧ a ≤ 255) (hb : 0 ≤ b ∧ b ≤ 255) : andI a b = andI b a := by
  obtain ⟨a, rfl⟩ := Int.eq_ofNat_of_zero_le ha.1
  obtain ⟨b, rfl⟩ := Int.eq_ofNat_of_zero_le hb.1
  rw [(andI_nat (a := a) (b := b) (by omega)).1, (andI_nat (a := b) (b := a) (by omega)).1, Nat.and_comm]
theorem andI_assoc {a b c : Int} (ha : 0 ≤ a ∧ a ≤ 255) (hb : 0 ≤ b ∧ b ≤ 255) (hc : 0 ≤ c ∧ c ≤ 255) : andI (andI a b) c = andI a (andI b c) := by
  obtain ⟨a, rfl⟩ := Int.eq_ofNat_of_zero_le ha.1
  obtain ⟨b, rfl⟩ := Int.eq_ofNat_of_zero_le hb.1
  obtain ⟨c, rfl⟩ := Int.eq_ofNat_of_zero_le hc.1
  obtain ⟨e1, e2⟩ := andI_nat (a := a) (b := b) (by omega)
  obtain ⟨e3, e4⟩ := andI_nat (a := b) (b := c) (by omega)
  rw [e1, e3, (andI_nat (by omega)).1, (andI_nat (by omega)).1, Nat.and_assoc]
theorem andI_self {a : Int} (ha : 0 ≤ a ∧ a ≤ 255) : andI a a = a := by
  obtain ⟨a, rfl⟩ := Int.eq_ofNat_of_zero_le ha.1
  rw [(andI_nat (by omega)).1, Nat.and_self]
theorem andI_all {a : Int} (ha : 0 ≤ a ∧ a ≤ 255) : andI a 255 = a := by
  obtain ⟨a, rfl⟩ := Int.eq_ofNat_of_zero_le ha.1
  rw [show (255 : Int) = ((255 : Nat) : Int) from rfl, (andI_nat (by omega)).1, show (255 : Nat) = 2 ^ 8 - 1 from rfl, Nat.and_two_pow_sub_one_eq_mod, Nat.mod_eq_of_lt (by omega)]
theorem un_len {α : Type} {cmp : α → α → Int} {cb : α → α → α} (a b : List α) : (unD cmp cb a b).length ≤ a.length + b.length := by
  have := mgA_len (cmp := cmp) (cb := cb) _ a b (Nat.le_refl _)
  unfold unD
  rw [List.length_append, List.length_append]
  omega
theorem maxI_le {a b c : Int} : maxI a b ≤ c ↔ a ≤ c ∧ b ≤ c := by unfold maxI; split <;> omega
theorem maxI_ge {a b : Int} : a ≤ maxI a b ∧ b ≤ maxI a b := by unfold maxI; split <;> omega
theorem un_locks {a b : List (Ty.den lockT)} (ha : locksD a = true) (hb : locksD b = true) : locksD (unD cmpL cbL a b) = true := by
  obtain ⟨a1, a2⟩ := locks_iff.1 ha
  obtain ⟨b1, b2⟩ := locks_iff.1 hb
  exact locks_iff.2 ⟨(ordL.all (fun x y e => by rw [cmpL_zero.1 e]; simp [cbL]) _ a b (Nat.le_refl _)).2 ⟨a1, b1⟩, ordL.sorted _ a b (Nat.le_refl _) a2 b2⟩
theorem pw_sgn {l : List Int} : l.Pairwise (fun x y => sgn x y < 0) ↔ l.Pairwise (· < ·) := by
  have : (fun x y => sgn x y < 0) = fun x y : Int => x < y := by funext x y; exact propext (sgn_cases x y).1
  rw [this]
theorem pw_cmpC {l : List (Ty.den conf)} : l.Pairwise (fun x y => cmpC x y < 0) ↔ l.Pairwise fun x y => cF x < cF y := by
  have : (fun x y => cmpC x y < 0) = fun x y : Ty.den conf => cF x < cF y := by funext x y; exact propext (sgn_cases (cF x) (cF y)).1
  rw [this]
theorem cbC_c {x y : Ty.den conf} : cC x ≤ cC (cbC x y) ∧ cC y ≤ cC (cbC x y) ∧ (cC (cbC x y) = cC x ∨ cC (cbC x y) = cC y) := by
  show cC x ≤ (if cC y > cC x then cC y else cC x) ∧ cC y ≤ (if cC y > cC x then cC y else cC x) ∧ ((if cC y > cC x then cC y else cC x) = cC x ∨ (if cC y > cC x then cC y else cC x) = cC y)
  split <;> omega
theorem un_rising {a b : List Int} (ha : risingD a 19 = true) (hb : risingD b 19 = true) : risingD (unD sgn cbI a b) 19 = true := by
  obtain ⟨a1, a2⟩ := rising_iff.1 ha
  obtain ⟨b1, b2⟩ := rising_iff.1 hb
  exact rising_iff.2 ⟨(ordI.all (fun x y e => by rw [sgn_zero.1 e]; simp [cbI]) _ a b (Nat.le_refl _)).2 ⟨a1, b1⟩, pw_sgn.1 (ordI.sorted _ a b (Nat.le_refl _) (pw_sgn.2 a2) (pw_sgn.2 b2))⟩
theorem un_all {α : Type} {cmp : α → α → Int} {cb : α → α → α} {p : α → Prop} (hc : ∀ x y, p x → p y → p (cb x y)) {a b : List α} (ha : ∀ x ∈ a, p x) (hb : ∀ x ∈ b, p x) : ∀ x ∈ unD cmp cb a b, p x := by
  obtain ⟨q1, q2, q3⟩ := mgA_all (cmp := cmp) hc _ a b (Nat.le_refl _) ha hb
  intro x hx
  unfold unD at hx
  rw [List.mem_append, List.mem_append] at hx
  rcases hx with (h | h) | h
  · exact q1 x h
  · exact q2 x h
  · exact q3 x h
theorem un_counts {a b : List (Ty.den conf)} (ha : countsD a 1 = true) (hb : countsD b 1 = true) : countsD (unD cmpC cbC a b) 1 = true := by
  obtain ⟨a1, a2⟩ := counts_out ha
  obtain ⟨b1, b2⟩ := counts_out hb
  refine counts_iff (un_all (fun x y hx hy => ?_) a1 b1) (pw_cmpC.1 (ordC.sorted _ a b (Nat.le_refl _) (pw_cmpC.2 a2) (pw_cmpC.2 b2)))
  have e : cF (cbC x y) = cF x := rfl
  have := cbC_c (x := x) (y := y)
  omega
theorem join_valid {x y : Ty.den labT} (hx : vX x = true) (hy : vX y = true) (h : (unL x y).length ≤ 4) : vX (joinT x y) = true := by
  obtain ⟨x1, x2, x3, x4, x5, x6, x7⟩ := valid_all hx
  obtain ⟨y1, y2, y3, y4, y5, y6, y7⟩ := valid_all hy
  have := maxI_ge (a := aU x) (b := aU y)
  exact valid_of (x := joinT x y) ⟨Int.le_trans x1.1 this.1, maxI_le.2 ⟨x1.2, y1.2⟩⟩ (andI_in x2 y2) (andI_in x3 y3) h (un_locks x5 y5) (un_rising x6 y6) (un_counts x7 y7)
theorem join_b {x y : Ty.den labT} (hx : vX x = true) (hy : vX y = true) (h : (unL x y).length ≤ 4) : joinV x y = joinT x y ∧ joinN x y = 0 := by
  have : joinB x y = true := by unfold joinB; rw [hx, hy, decide_eq_true h]; rfl
  unfold joinV joinN
  rw [this]
  exact ⟨rfl, rfl⟩
theorem hasQ_iff {l : List (Ty.den lockT)} {q : Ty.den lockT} : hasQ l q = true ↔ q ∈ l := by
  unfold hasQ
  rw [decide_eq_true_eq, List.findIdx_lt_length]
  constructor
  · rintro ⟨p, hp, e⟩; rw [← beqL_iff.1 e]; exact hp
  · intro h; exact ⟨q, h, beqL_iff.2 rfl⟩
theorem noL_valid {x : Ty.den labT} (hx : vX x = true) : vX (noL x) = true := by
  obtain ⟨x1, x2, x3, x4, x5, x6, x7⟩ := valid_all hx
  exact valid_of (x := noL x) x1 x2 x3 (Nat.zero_le _) (locks_iff.2 ⟨(fun q hq => nomatch hq), List.Pairwise.nil⟩) x6 x7
theorem noL_un (x y : Ty.den labT) : unL (noL x) y = aL y := un_nil _
theorem below_iff {x y : Ty.den labT} (hx : vX x = true) (hy : vX y = true) : belowB x y = true ↔ joinT x y = y := by
  obtain ⟨x1, x2, x3, x4, x5, x6, x7⟩ := valid_all hx
  obtain ⟨y1, y2, y3, y4, y5, y6, y7⟩ := valid_all hy
  have hl : (unL (noL x) y).length ≤ 4 := by rw [noL_un]; exact y4
  have hL : unL x y = aL y ↔ (aL x).all (hasQ (aL y)) = true := by
    rw [List.all_eq_true]
    constructor
    · intro e q hq
      have := (ordL.all (p := fun q => q ∈ unL x y) (fun u v e => by rw [cmpL_zero.1 e]; simp [cbL]) _ (aL x) (aL y) (Nat.le_refl _)).1 (fun w hw => hw)
      rw [hasQ_iff, ← e]
      exact this.1 q hq
    · intro h
      exact ordL.absorb (fun u v e => cmpL_zero.1 e) _ (aL x) (aL y) (Nat.le_refl _) (locks_iff.1 x5).2 (locks_iff.1 y5).2 fun q hq => hasQ_iff.1 (h q hq)
  unfold belowB
  rw [hx, hy, (join_b (noL_valid hx) hy hl).1, Bool.true_and, Bool.true_and, Bool.and_eq_true]
  unfold sameB
  rw [decide_eq_true_eq, ← hL, lab_ext, lab_ext]
  have e : aL (joinT (noL x) y) = aL y := noL_un x y
  constructor
  · rintro ⟨a, b1, b2, b3, b4, b5, _⟩
    exact ⟨b1, b2, b3, b4, b5, a⟩
  · rintro ⟨b1, b2, b3, b4, b5, a⟩
    exact ⟨a, b1, b2, b3, b4, b5, e⟩
end L
end Go.Proofs.YthjiodeaepigmaaDoor


/- Package label: LabelJoins. -/
set_option linter.unusedVariables false
set_option linter.unusedSimpArgs false
set_option maxRecDepth 100000
set_option maxHeartbeats 4000000
namespace Go.Proofs.YthjiodeaepigmaaDoor
open Go
namespace L
theorem none_valid : vX noneL = true := by decide +kernel
theorem made_locks (x0 x1 x2 x3 x4 x5 x6 : Int) : (aL (madeD x0 x1 x2 x3 x4 x5 x6)).length ≤ 2 := (madeL_ok x5 x6).2.1
end L
end Go.Proofs.YthjiodeaepigmaaDoor


/- Package label: LabelLattice's round, printed. -/
set_option linter.unusedVariables false
set_option linter.unusedSimpArgs false
set_option maxRecDepth 100000
set_option maxHeartbeats 4000000
namespace Go.Proofs.YthjiodeaepigmaaDoor
open Go
namespace L
def hp_la : HP := { n := 219, lv := [7, 8], sp := [.ty (.slice labT), .ty ity], op := [], bp := [] }
def lve_la : Ex → List Nat
  | .normal => [7, 8]
  | .ret => [6]
  | .exit 0 => []
  | _ => []
theorem bd_la : Tryd.f5.body = some (root 5) := by kernel_rfl
theorem le_la : (loops (root 5))[0]? = some (lp 5 0) := by kernel_rfl
theorem li_la : Lies (root 5) 1 (lp 5 0) := Lies.of_take (n := 0) (by kernel_rfl)
def st_la (i : Int) (ls : List (Ty.den labT)) : St := hp_la.st ⟨(ls, i, ()), (), ()⟩
noncomputable def rn_la (i : Int) (ls : List (Ty.den labT)) := outa lve_la (evCK Tryd.prog Γ (cfM Tryd.prog Γ cfg38 30) (cfg38.lo 5) [] 60 1 (lp 5 0) (st_la i ls))
theorem rn_la_eq (i : Int) (ls : List (Ty.den labT)) : (rn_la i ls).run = (bif decide (i < (3 : Int)) then (bif decide ((0 : Int) ≤ i ∧ i < (Nat.cast (ls.length) : Int)) then (bif decide ((0 : Int) ≤ (IntKind.i64.wrap (i + (1 : Int))).tmod (3 : Int) ∧ (IntKind.i64.wrap (i + (1 : Int))).tmod (3 : Int) < (Nat.cast (ls.length) : Int)) then (bif decide ((0 : Int) ≤ (IntKind.i64.wrap (i + (2 : Int))).tmod (3 : Int) ∧ (IntKind.i64.wrap (i + (2 : Int))).tmod (3 : Int) < (Nat.cast (ls.length) : Int)) then (bif decide (szX (ls.getD i.toNat labT.dflt) ∧ szX (ls.getD ((IntKind.i64.wrap (i + (1 : Int))).tmod (3 : Int)).toNat labT.dflt)) then (bif decide (szX (ls.getD ((IntKind.i64.wrap (i + (1 : Int))).tmod (3 : Int)).toNat labT.dflt) ∧ szX (ls.getD i.toNat labT.dflt)) then (bif decide (szX (ls.getD ((IntKind.i64.wrap (i + (1 : Int))).tmod (3 : Int)).toNat labT.dflt) ∧ szX (ls.getD ((IntKind.i64.wrap (i + (2 : Int))).tmod (3 : Int)).toNat labT.dflt)) then (bif decide (szX (ls.getD i.toNat labT.dflt) ∧ szX (ls.getD i.toNat labT.dflt)) then (bif decide (szX (ls.getD i.toNat labT.dflt) ∧ szX noneL) then (bif joinN (ls.getD i.toNat labT.dflt) (ls.getD ((IntKind.i64.wrap (i + (1 : Int))).tmod (3 : Int)).toNat labT.dflt) != (0 : Int) then (some ((Ex.ret, [V.b false], [], [], (219 : Nat), (0 : Nat), (0 : Nat)))) else (bif joinN (ls.getD ((IntKind.i64.wrap (i + (1 : Int))).tmod (3 : Int)).toNat labT.dflt) (ls.getD i.toNat labT.dflt) != (0 : Int) then (some ((Ex.ret, [V.b false], [], [], (219 : Nat), (0 : Nat), (0 : Nat)))) else (bif joinN (ls.getD ((IntKind.i64.wrap (i + (1 : Int))).tmod (3 : Int)).toNat labT.dflt) (ls.getD ((IntKind.i64.wrap (i + (2 : Int))).tmod (3 : Int)).toNat labT.dflt) != (0 : Int) then (some ((Ex.ret, [V.b false], [], [], (219 : Nat), (0 : Nat), (0 : Nat)))) else (bif joinN (ls.getD i.toNat labT.dflt) (ls.getD i.toNat labT.dflt) != (0 : Int) then (some ((Ex.ret, [V.b false], [], [], (219 : Nat), (0 : Nat), (0 : Nat)))) else (bif joinN (ls.getD i.toNat labT.dflt) noneL != (0 : Int) then (some ((Ex.ret, [V.b false], [], [], (219 : Nat), (0 : Nat), (0 : Nat)))) else (bif decide (szX (joinV (ls.getD i.toNat labT.dflt) (ls.getD ((IntKind.i64.wrap (i + (1 : Int))).tmod (3 : Int)).toNat labT.dflt)) ∧ szX (ls.getD ((IntKind.i64.wrap (i + (2 : Int))).tmod (3 : Int)).toNat labT.dflt)) then (bif decide (szX (ls.getD i.toNat labT.dflt) ∧ szX (joinV (ls.getD ((IntKind.i64.wrap (i + (1 : Int))).tmod (3 : Int)).toNat labT.dflt) (ls.getD ((IntKind.i64.wrap (i + (2 : Int))).tmod (3 : Int)).toNat labT.dflt))) then (bif joinN (joinV (ls.getD i.toNat labT.dflt) (ls.getD ((IntKind.i64.wrap (i + (1 : Int))).tmod (3 : Int)).toNat labT.dflt)) (ls.getD ((IntKind.i64.wrap (i + (2 : Int))).tmod (3 : Int)).toNat labT.dflt) != joinN (ls.getD i.toNat labT.dflt) (joinV (ls.getD ((IntKind.i64.wrap (i + (1 : Int))).tmod (3 : Int)).toNat labT.dflt) (ls.getD ((IntKind.i64.wrap (i + (2 : Int))).tmod (3 : Int)).toNat labT.dflt)) then (some ((Ex.ret, [V.b false], [], [], (219 : Nat), (0 : Nat), (0 : Nat)))) else (bif decide (fitB (joinV (joinV (ls.getD i.toNat labT.dflt) (ls.getD ((IntKind.i64.wrap (i + (1 : Int))).tmod (3 : Int)).toNat labT.dflt)) (ls.getD ((IntKind.i64.wrap (i + (2 : Int))).tmod (3 : Int)).toNat labT.dflt)) (joinV (ls.getD i.toNat labT.dflt) (joinV (ls.getD ((IntKind.i64.wrap (i + (1 : Int))).tmod (3 : Int)).toNat labT.dflt) (ls.getD ((IntKind.i64.wrap (i + (2 : Int))).tmod (3 : Int)).toNat labT.dflt)))) then (bif !sameB (joinV (joinV (ls.getD i.toNat labT.dflt) (ls.getD ((IntKind.i64.wrap (i + (1 : Int))).tmod (3 : Int)).toNat labT.dflt)) (ls.getD ((IntKind.i64.wrap (i + (2 : Int))).tmod (3 : Int)).toNat labT.dflt)) (joinV (ls.getD i.toNat labT.dflt) (joinV (ls.getD ((IntKind.i64.wrap (i + (1 : Int))).tmod (3 : Int)).toNat labT.dflt) (ls.getD ((IntKind.i64.wrap (i + (2 : Int))).tmod (3 : Int)).toNat labT.dflt))) then (some ((Ex.ret, [V.b false], [], [], (219 : Nat), (0 : Nat), (0 : Nat)))) else (bif decide (fitB (joinV (ls.getD i.toNat labT.dflt) (ls.getD ((IntKind.i64.wrap (i + (1 : Int))).tmod (3 : Int)).toNat labT.dflt)) (joinV (ls.getD ((IntKind.i64.wrap (i + (1 : Int))).tmod (3 : Int)).toNat labT.dflt) (ls.getD i.toNat labT.dflt))) then (bif !sameB (joinV (ls.getD i.toNat labT.dflt) (ls.getD ((IntKind.i64.wrap (i + (1 : Int))).tmod (3 : Int)).toNat labT.dflt)) (joinV (ls.getD ((IntKind.i64.wrap (i + (1 : Int))).tmod (3 : Int)).toNat labT.dflt) (ls.getD i.toNat labT.dflt)) then (some ((Ex.ret, [V.b false], [], [], (219 : Nat), (0 : Nat), (0 : Nat)))) else (bif decide (fitB (joinV (ls.getD i.toNat labT.dflt) (ls.getD i.toNat labT.dflt)) (ls.getD i.toNat labT.dflt)) then (bif !sameB (joinV (ls.getD i.toNat labT.dflt) (ls.getD i.toNat labT.dflt)) (ls.getD i.toNat labT.dflt) then (some ((Ex.ret, [V.b false], [], [], (219 : Nat), (0 : Nat), (0 : Nat)))) else (bif decide (fitB (joinV (ls.getD i.toNat labT.dflt) noneL) (ls.getD i.toNat labT.dflt)) then (bif !sameB (joinV (ls.getD i.toNat labT.dflt) noneL) (ls.getD i.toNat labT.dflt) then (some ((Ex.ret, [V.b false], [], [], (219 : Nat), (0 : Nat), (0 : Nat)))) else (bif decide (szX (ls.getD i.toNat labT.dflt) ∧ szX (ls.getD ((IntKind.i64.wrap (i + (1 : Int))).tmod (3 : Int)).toNat labT.dflt)) then (bif decide (fitB (joinV (ls.getD i.toNat labT.dflt) (ls.getD ((IntKind.i64.wrap (i + (1 : Int))).tmod (3 : Int)).toNat labT.dflt)) (ls.getD ((IntKind.i64.wrap (i + (1 : Int))).tmod (3 : Int)).toNat labT.dflt)) then (bif !belowB (ls.getD i.toNat labT.dflt) (ls.getD ((IntKind.i64.wrap (i + (1 : Int))).tmod (3 : Int)).toNat labT.dflt) == sameB (joinV (ls.getD i.toNat labT.dflt) (ls.getD ((IntKind.i64.wrap (i + (1 : Int))).tmod (3 : Int)).toNat labT.dflt)) (ls.getD ((IntKind.i64.wrap (i + (1 : Int))).tmod (3 : Int)).toNat labT.dflt) then (some ((Ex.ret, [V.b false], [], [], (219 : Nat), (0 : Nat), (0 : Nat)))) else (bif decide (szX (ls.getD i.toNat labT.dflt) ∧ szX (ls.getD i.toNat labT.dflt)) then (bif !belowB (ls.getD i.toNat labT.dflt) (ls.getD i.toNat labT.dflt) then (some ((Ex.ret, [V.b false], [], [], (219 : Nat), (0 : Nat), (0 : Nat)))) else (bif decide (szX (ls.getD i.toNat labT.dflt) ∧ szX (joinV (ls.getD i.toNat labT.dflt) (ls.getD ((IntKind.i64.wrap (i + (1 : Int))).tmod (3 : Int)).toNat labT.dflt))) then (bif !belowB (ls.getD i.toNat labT.dflt) (joinV (ls.getD i.toNat labT.dflt) (ls.getD ((IntKind.i64.wrap (i + (1 : Int))).tmod (3 : Int)).toNat labT.dflt)) then (some ((Ex.ret, [V.b false], [], [], (219 : Nat), (0 : Nat), (0 : Nat)))) else (bif decide (szX (ls.getD ((IntKind.i64.wrap (i + (1 : Int))).tmod (3 : Int)).toNat labT.dflt) ∧ szX (joinV (ls.getD i.toNat labT.dflt) (ls.getD ((IntKind.i64.wrap (i + (1 : Int))).tmod (3 : Int)).toNat labT.dflt))) then (bif !belowB (ls.getD ((IntKind.i64.wrap (i + (1 : Int))).tmod (3 : Int)).toNat labT.dflt) (joinV (ls.getD i.toNat labT.dflt) (ls.getD ((IntKind.i64.wrap (i + (1 : Int))).tmod (3 : Int)).toNat labT.dflt)) then (some ((Ex.ret, [V.b false], [], [], (219 : Nat), (0 : Nat), (0 : Nat)))) else (bif decide (szX noneL ∧ szX (ls.getD i.toNat labT.dflt)) then (bif !belowB noneL (ls.getD i.toNat labT.dflt) then (some ((Ex.ret, [V.b false], [], [], (219 : Nat), (0 : Nat), (0 : Nat)))) else (bif decide (szX (ls.getD i.toNat labT.dflt) ∧ szX (ls.getD ((IntKind.i64.wrap (i + (1 : Int))).tmod (3 : Int)).toNat labT.dflt)) then (bif belowB (ls.getD i.toNat labT.dflt) (ls.getD ((IntKind.i64.wrap (i + (1 : Int))).tmod (3 : Int)).toNat labT.dflt) then (bif decide (szX (ls.getD ((IntKind.i64.wrap (i + (1 : Int))).tmod (3 : Int)).toNat labT.dflt) ∧ szX (ls.getD i.toNat labT.dflt)) then (bif belowB (ls.getD ((IntKind.i64.wrap (i + (1 : Int))).tmod (3 : Int)).toNat labT.dflt) (ls.getD i.toNat labT.dflt) then (bif decide (fitB (ls.getD i.toNat labT.dflt) (ls.getD ((IntKind.i64.wrap (i + (1 : Int))).tmod (3 : Int)).toNat labT.dflt)) then (bif !sameB (ls.getD i.toNat labT.dflt) (ls.getD ((IntKind.i64.wrap (i + (1 : Int))).tmod (3 : Int)).toNat labT.dflt) then (some ((Ex.ret, [V.b false], [], [], (219 : Nat), (0 : Nat), (0 : Nat)))) else (bif decide (szX (ls.getD i.toNat labT.dflt) ∧ szX (ls.getD ((IntKind.i64.wrap (i + (1 : Int))).tmod (3 : Int)).toNat labT.dflt)) then (bif belowB (ls.getD i.toNat labT.dflt) (ls.getD ((IntKind.i64.wrap (i + (1 : Int))).tmod (3 : Int)).toNat labT.dflt) then (bif decide (szX (ls.getD ((IntKind.i64.wrap (i + (1 : Int))).tmod (3 : Int)).toNat labT.dflt) ∧ szX (ls.getD ((IntKind.i64.wrap (i + (2 : Int))).tmod (3 : Int)).toNat labT.dflt)) then (bif belowB (ls.getD ((IntKind.i64.wrap (i + (1 : Int))).tmod (3 : Int)).toNat labT.dflt) (ls.getD ((IntKind.i64.wrap (i + (2 : Int))).tmod (3 : Int)).toNat labT.dflt) then (bif decide (szX (ls.getD i.toNat labT.dflt) ∧ szX (ls.getD ((IntKind.i64.wrap (i + (2 : Int))).tmod (3 : Int)).toNat labT.dflt)) then (bif !belowB (ls.getD i.toNat labT.dflt) (ls.getD ((IntKind.i64.wrap (i + (2 : Int))).tmod (3 : Int)).toNat labT.dflt) then (some ((Ex.ret, [V.b false], [], [], (219 : Nat), (0 : Nat), (0 : Nat)))) else (bif decide (szX (ls.getD i.toNat labT.dflt) ∧ szX (ls.getD ((IntKind.i64.wrap (i + (2 : Int))).tmod (3 : Int)).toNat labT.dflt)) then (bif belowB (ls.getD i.toNat labT.dflt) (ls.getD ((IntKind.i64.wrap (i + (2 : Int))).tmod (3 : Int)).toNat labT.dflt) then (bif decide (szX (ls.getD ((IntKind.i64.wrap (i + (1 : Int))).tmod (3 : Int)).toNat labT.dflt) ∧ szX (ls.getD ((IntKind.i64.wrap (i + (2 : Int))).tmod (3 : Int)).toNat labT.dflt)) then (bif belowB (ls.getD ((IntKind.i64.wrap (i + (1 : Int))).tmod (3 : Int)).toNat labT.dflt) (ls.getD ((IntKind.i64.wrap (i + (2 : Int))).tmod (3 : Int)).toNat labT.dflt) then (bif decide (szX (joinV (ls.getD i.toNat labT.dflt) (ls.getD ((IntKind.i64.wrap (i + (1 : Int))).tmod (3 : Int)).toNat labT.dflt)) ∧ szX (ls.getD ((IntKind.i64.wrap (i + (2 : Int))).tmod (3 : Int)).toNat labT.dflt)) then (bif !belowB (joinV (ls.getD i.toNat labT.dflt) (ls.getD ((IntKind.i64.wrap (i + (1 : Int))).tmod (3 : Int)).toNat labT.dflt)) (ls.getD ((IntKind.i64.wrap (i + (2 : Int))).tmod (3 : Int)).toNat labT.dflt) then (some ((Ex.ret, [V.b false], [], [], (219 : Nat), (0 : Nat), (0 : Nat)))) else (some ((Ex.normal, [V.slst Tag.ro labT ls, V.si IntKind.i64 (IntKind.i64.wrap (i + (1 : Int)))], [], [], (219 : Nat), (0 : Nat), (0 : Nat))))) else none) else (some ((Ex.normal, [V.slst Tag.ro labT ls, V.si IntKind.i64 (IntKind.i64.wrap (i + (1 : Int)))], [], [], (219 : Nat), (0 : Nat), (0 : Nat))))) else none) else (some ((Ex.normal, [V.slst Tag.ro labT ls, V.si IntKind.i64 (IntKind.i64.wrap (i + (1 : Int)))], [], [], (219 : Nat), (0 : Nat), (0 : Nat))))) else none)) else none) else (bif decide (szX (ls.getD i.toNat labT.dflt) ∧ szX (ls.getD ((IntKind.i64.wrap (i + (2 : Int))).tmod (3 : Int)).toNat labT.dflt)) then (bif belowB (ls.getD i.toNat labT.dflt) (ls.getD ((IntKind.i64.wrap (i + (2 : Int))).tmod (3 : Int)).toNat labT.dflt) then (bif decide (szX (ls.getD ((IntKind.i64.wrap (i + (1 : Int))).tmod (3 : Int)).toNat labT.dflt) ∧ szX (ls.getD ((IntKind.i64.wrap (i + (2 : Int))).tmod (3 : Int)).toNat labT.dflt)) then (bif belowB (ls.getD ((IntKind.i64.wrap (i + (1 : Int))).tmod (3 : Int)).toNat labT.dflt) (ls.getD ((IntKind.i64.wrap (i + (2 : Int))).tmod (3 : Int)).toNat labT.dflt) then (bif decide (szX (joinV (ls.getD i.toNat labT.dflt) (ls.getD ((IntKind.i64.wrap (i + (1 : Int))).tmod (3 : Int)).toNat labT.dflt)) ∧ szX (ls.getD ((IntKind.i64.wrap (i + (2 : Int))).tmod (3 : Int)).toNat labT.dflt)) then (bif !belowB (joinV (ls.getD i.toNat labT.dflt) (ls.getD ((IntKind.i64.wrap (i + (1 : Int))).tmod (3 : Int)).toNat labT.dflt)) (ls.getD ((IntKind.i64.wrap (i + (2 : Int))).tmod (3 : Int)).toNat labT.dflt) then (some ((Ex.ret, [V.b false], [], [], (219 : Nat), (0 : Nat), (0 : Nat)))) else (some ((Ex.normal, [V.slst Tag.ro labT ls, V.si IntKind.i64 (IntKind.i64.wrap (i + (1 : Int)))], [], [], (219 : Nat), (0 : Nat), (0 : Nat))))) else none) else (some ((Ex.normal, [V.slst Tag.ro labT ls, V.si IntKind.i64 (IntKind.i64.wrap (i + (1 : Int)))], [], [], (219 : Nat), (0 : Nat), (0 : Nat))))) else none) else (some ((Ex.normal, [V.slst Tag.ro labT ls, V.si IntKind.i64 (IntKind.i64.wrap (i + (1 : Int)))], [], [], (219 : Nat), (0 : Nat), (0 : Nat))))) else none)) else none) else (bif decide (szX (ls.getD i.toNat labT.dflt) ∧ szX (ls.getD ((IntKind.i64.wrap (i + (2 : Int))).tmod (3 : Int)).toNat labT.dflt)) then (bif belowB (ls.getD i.toNat labT.dflt) (ls.getD ((IntKind.i64.wrap (i + (2 : Int))).tmod (3 : Int)).toNat labT.dflt) then (bif decide (szX (ls.getD ((IntKind.i64.wrap (i + (1 : Int))).tmod (3 : Int)).toNat labT.dflt) ∧ szX (ls.getD ((IntKind.i64.wrap (i + (2 : Int))).tmod (3 : Int)).toNat labT.dflt)) then (bif belowB (ls.getD ((IntKind.i64.wrap (i + (1 : Int))).tmod (3 : Int)).toNat labT.dflt) (ls.getD ((IntKind.i64.wrap (i + (2 : Int))).tmod (3 : Int)).toNat labT.dflt) then (bif decide (szX (joinV (ls.getD i.toNat labT.dflt) (ls.getD ((IntKind.i64.wrap (i + (1 : Int))).tmod (3 : Int)).toNat labT.dflt)) ∧ szX (ls.getD ((IntKind.i64.wrap (i + (2 : Int))).tmod (3 : Int)).toNat labT.dflt)) then (bif !belowB (joinV (ls.getD i.toNat labT.dflt) (ls.getD ((IntKind.i64.wrap (i + (1 : Int))).tmod (3 : Int)).toNat labT.dflt)) (ls.getD ((IntKind.i64.wrap (i + (2 : Int))).tmod (3 : Int)).toNat labT.dflt) then (some ((Ex.ret, [V.b false], [], [], (219 : Nat), (0 : Nat), (0 : Nat)))) else (some ((Ex.normal, [V.slst Tag.ro labT ls, V.si IntKind.i64 (IntKind.i64.wrap (i + (1 : Int)))], [], [], (219 : Nat), (0 : Nat), (0 : Nat))))) else none) else (some ((Ex.normal, [V.slst Tag.ro labT ls, V.si IntKind.i64 (IntKind.i64.wrap (i + (1 : Int)))], [], [], (219 : Nat), (0 : Nat), (0 : Nat))))) else none) else (some ((Ex.normal, [V.slst Tag.ro labT ls, V.si IntKind.i64 (IntKind.i64.wrap (i + (1 : Int)))], [], [], (219 : Nat), (0 : Nat), (0 : Nat))))) else none)) else none)) else none) else (bif decide (szX (ls.getD i.toNat labT.dflt) ∧ szX (ls.getD ((IntKind.i64.wrap (i + (1 : Int))).tmod (3 : Int)).toNat labT.dflt)) then (bif belowB (ls.getD i.toNat labT.dflt) (ls.getD ((IntKind.i64.wrap (i + (1 : Int))).tmod (3 : Int)).toNat labT.dflt) then (bif decide (szX (ls.getD ((IntKind.i64.wrap (i + (1 : Int))).tmod (3 : Int)).toNat labT.dflt) ∧ szX (ls.getD ((IntKind.i64.wrap (i + (2 : Int))).tmod (3 : Int)).toNat labT.dflt)) then (bif belowB (ls.getD ((IntKind.i64.wrap (i + (1 : Int))).tmod (3 : Int)).toNat labT.dflt) (ls.getD ((IntKind.i64.wrap (i + (2 : Int))).tmod (3 : Int)).toNat labT.dflt) then (bif decide (szX (ls.getD i.toNat labT.dflt) ∧ szX (ls.getD ((IntKind.i64.wrap (i + (2 : Int))).tmod (3 : Int)).toNat labT.dflt)) then (bif !belowB (ls.getD i.toNat labT.dflt) (ls.getD ((IntKind.i64.wrap (i + (2 : Int))).tmod (3 : Int)).toNat labT.dflt) then (some ((Ex.ret, [V.b false], [], [], (219 : Nat), (0 : Nat), (0 : Nat)))) else (bif decide (szX (ls.getD i.toNat labT.dflt) ∧ szX (ls.getD ((IntKind.i64.wrap (i + (2 : Int))).tmod (3 : Int)).toNat labT.dflt)) then (bif belowB (ls.getD i.toNat labT.dflt) (ls.getD ((IntKind.i64.wrap (i + (2 : Int))).tmod (3 : Int)).toNat labT.dflt) then (bif decide (szX (ls.getD ((IntKind.i64.wrap (i + (1 : Int))).tmod (3 : Int)).toNat labT.dflt) ∧ szX (ls.getD ((IntKind.i64.wrap (i + (2 : Int))).tmod (3 : Int)).toNat labT.dflt)) then (bif belowB (ls.getD ((IntKind.i64.wrap (i + (1 : Int))).tmod (3 : Int)).toNat labT.dflt) (ls.getD ((IntKind.i64.wrap (i + (2 : Int))).tmod (3 : Int)).toNat labT.dflt) then (bif decide (szX (joinV (ls.getD i.toNat labT.dflt) (ls.getD ((IntKind.i64.wrap (i + (1 : Int))).tmod (3 : Int)).toNat labT.dflt)) ∧ szX (ls.getD ((IntKind.i64.wrap (i + (2 : Int))).tmod (3 : Int)).toNat labT.dflt)) then (bif !belowB (joinV (ls.getD i.toNat labT.dflt) (ls.getD ((IntKind.i64.wrap (i + (1 : Int))).tmod (3 : Int)).toNat labT.dflt)) (ls.getD ((IntKind.i64.wrap (i + (2 : Int))).tmod (3 : Int)).toNat labT.dflt) then (some ((Ex.ret, [V.b false], [], [], (219 : Nat), (0 : Nat), (0 : Nat)))) else (some ((Ex.normal, [V.slst Tag.ro labT ls, V.si IntKind.i64 (IntKind.i64.wrap (i + (1 : Int)))], [], [], (219 : Nat), (0 : Nat), (0 : Nat))))) else none) else (some ((Ex.normal, [V.slst Tag.ro labT ls, V.si IntKind.i64 (IntKind.i64.wrap (i + (1 : Int)))], [], [], (219 : Nat), (0 : Nat), (0 : Nat))))) else none) else (some ((Ex.normal, [V.slst Tag.ro labT ls, V.si IntKind.i64 (IntKind.i64.wrap (i + (1 : Int)))], [], [], (219 : Nat), (0 : Nat), (0 : Nat))))) else none)) else none) else (bif decide (szX (ls.getD i.toNat labT.dflt) ∧ szX (ls.getD ((IntKind.i64.wrap (i + (2 : Int))).tmod (3 : Int)).toNat labT.dflt)) then (bif belowB (ls.getD i.toNat labT.dflt) (ls.getD ((IntKind.i64.wrap (i + (2 : Int))).tmod (3 : Int)).toNat labT.dflt) then (bif decide (szX (ls.getD ((IntKind.i64.wrap (i + (1 : Int))).tmod (3 : Int)).toNat labT.dflt) ∧ szX (ls.getD ((IntKind.i64.wrap (i + (2 : Int))).tmod (3 : Int)).toNat labT.dflt)) then (bif belowB (ls.getD ((IntKind.i64.wrap (i + (1 : Int))).tmod (3 : Int)).toNat labT.dflt) (ls.getD ((IntKind.i64.wrap (i + (2 : Int))).tmod (3 : Int)).toNat labT.dflt) then (bif decide (szX (joinV (ls.getD i.toNat labT.dflt) (ls.getD ((IntKind.i64.wrap (i + (1 : Int))).tmod (3 : Int)).toNat labT.dflt)) ∧ szX (ls.getD ((IntKind.i64.wrap (i + (2 : Int))).tmod (3 : Int)).toNat labT.dflt)) then (bif !belowB (joinV (ls.getD i.toNat labT.dflt) (ls.getD ((IntKind.i64.wrap (i + (1 : Int))).tmod (3 : Int)).toNat labT.dflt)) (ls.getD ((IntKind.i64.wrap (i + (2 : Int))).tmod (3 : Int)).toNat labT.dflt) then (some ((Ex.ret, [V.b false], [], [], (219 : Nat), (0 : Nat), (0 : Nat)))) else (some ((Ex.normal, [V.slst Tag.ro labT ls, V.si IntKind.i64 (IntKind.i64.wrap (i + (1 : Int)))], [], [], (219 : Nat), (0 : Nat), (0 : Nat))))) else none) else (some ((Ex.normal, [V.slst Tag.ro labT ls, V.si IntKind.i64 (IntKind.i64.wrap (i + (1 : Int)))], [], [], (219 : Nat), (0 : Nat), (0 : Nat))))) else none) else (some ((Ex.normal, [V.slst Tag.ro labT ls, V.si IntKind.i64 (IntKind.i64.wrap (i + (1 : Int)))], [], [], (219 : Nat), (0 : Nat), (0 : Nat))))) else none)) else none) else (bif decide (szX (ls.getD i.toNat labT.dflt) ∧ szX (ls.getD ((IntKind.i64.wrap (i + (2 : Int))).tmod (3 : Int)).toNat labT.dflt)) then (bif belowB (ls.getD i.toNat labT.dflt) (ls.getD ((IntKind.i64.wrap (i + (2 : Int))).tmod (3 : Int)).toNat labT.dflt) then (bif decide (szX (ls.getD ((IntKind.i64.wrap (i + (1 : Int))).tmod (3 : Int)).toNat labT.dflt) ∧ szX (ls.getD ((IntKind.i64.wrap (i + (2 : Int))).tmod (3 : Int)).toNat labT.dflt)) then (bif belowB (ls.getD ((IntKind.i64.wrap (i + (1 : Int))).tmod (3 : Int)).toNat labT.dflt) (ls.getD ((IntKind.i64.wrap (i + (2 : Int))).tmod (3 : Int)).toNat labT.dflt) then (bif decide (szX (joinV (ls.getD i.toNat labT.dflt) (ls.getD ((IntKind.i64.wrap (i + (1 : Int))).tmod (3 : Int)).toNat labT.dflt)) ∧ szX (ls.getD ((IntKind.i64.wrap (i + (2 : Int))).tmod (3 : Int)).toNat labT.dflt)) then (bif !belowB (joinV (ls.getD i.toNat labT.dflt) (ls.getD ((IntKind.i64.wrap (i + (1 : Int))).tmod (3 : Int)).toNat labT.dflt)) (ls.getD ((IntKind.i64.wrap (i + (2 : Int))).tmod (3 : Int)).toNat labT.dflt) then (some ((Ex.ret, [V.b false], [], [], (219 : Nat), (0 : Nat), (0 : Nat)))) else (some ((Ex.normal, [V.slst Tag.ro labT ls, V.si IntKind.i64 (IntKind.i64.wrap (i + (1 : Int)))], [], [], (219 : Nat), (0 : Nat), (0 : Nat))))) else none) else (some ((Ex.normal, [V.slst Tag.ro labT ls, V.si IntKind.i64 (IntKind.i64.wrap (i + (1 : Int)))], [], [], (219 : Nat), (0 : Nat), (0 : Nat))))) else none) else (some ((Ex.normal, [V.slst Tag.ro labT ls, V.si IntKind.i64 (IntKind.i64.wrap (i + (1 : Int)))], [], [], (219 : Nat), (0 : Nat), (0 : Nat))))) else none)) else none)) else none) else (bif decide (szX (ls.getD i.toNat labT.dflt) ∧ szX (ls.getD ((IntKind.i64.wrap (i + (1 : Int))).tmod (3 : Int)).toNat labT.dflt)) then (bif belowB (ls.getD i.toNat labT.dflt) (ls.getD ((IntKind.i64.wrap (i + (1 : Int))).tmod (3 : Int)).toNat labT.dflt) then (bif decide (szX (ls.getD ((IntKind.i64.wrap (i + (1 : Int))).tmod (3 : Int)).toNat labT.dflt) ∧ szX (ls.getD ((IntKind.i64.wrap (i + (2 : Int))).tmod (3 : Int)).toNat labT.dflt)) then (bif belowB (ls.getD ((IntKind.i64.wrap (i + (1 : Int))).tmod (3 : Int)).toNat labT.dflt) (ls.getD ((IntKind.i64.wrap (i + (2 : Int))).tmod (3 : Int)).toNat labT.dflt) then (bif decide (szX (ls.getD i.toNat labT.dflt) ∧ szX (ls.getD ((IntKind.i64.wrap (i + (2 : Int))).tmod (3 : Int)).toNat labT.dflt)) then (bif !belowB (ls.getD i.toNat labT.dflt) (ls.getD ((IntKind.i64.wrap (i + (2 : Int))).tmod (3 : Int)).toNat labT.dflt) then (some ((Ex.ret, [V.b false], [], [], (219 : Nat), (0 : Nat), (0 : Nat)))) else (bif decide (szX (ls.getD i.toNat labT.dflt) ∧ szX (ls.getD ((IntKind.i64.wrap (i + (2 : Int))).tmod (3 : Int)).toNat labT.dflt)) then (bif belowB (ls.getD i.toNat labT.dflt) (ls.getD ((IntKind.i64.wrap (i + (2 : Int))).tmod (3 : Int)).toNat labT.dflt) then (bif decide (szX (ls.getD ((IntKind.i64.wrap (i + (1 : Int))).tmod (3 : Int)).toNat labT.dflt) ∧ szX (ls.getD ((IntKind.i64.wrap (i + (2 : Int))).tmod (3 : Int)).toNat labT.dflt)) then (bif belowB (ls.getD ((IntKind.i64.wrap (i + (1 : Int))).tmod (3 : Int)).toNat labT.dflt) (ls.getD ((IntKind.i64.wrap (i + (2 : Int))).tmod (3 : Int)).toNat labT.dflt) then (bif decide (szX (joinV (ls.getD i.toNat labT.dflt) (ls.getD ((IntKind.i64.wrap (i + (1 : Int))).tmod (3 : Int)).toNat labT.dflt)) ∧ szX (ls.getD ((IntKind.i64.wrap (i + (2 : Int))).tmod (3 : Int)).toNat labT.dflt)) then (bif !belowB (joinV (ls.getD i.toNat labT.dflt) (ls.getD ((IntKind.i64.wrap (i + (1 : Int))).tmod (3 : Int)).toNat labT.dflt)) (ls.getD ((IntKind.i64.wrap (i + (2 : Int))).tmod (3 : Int)).toNat labT.dflt) then (some ((Ex.ret, [V.b false], [], [], (219 : Nat), (0 : Nat), (0 : Nat)))) else (some ((Ex.normal, [V.slst Tag.ro labT ls, V.si IntKind.i64 (IntKind.i64.wrap (i + (1 : Int)))], [], [], (219 : Nat), (0 : Nat), (0 : Nat))))) else none) else (some ((Ex.normal, [V.slst Tag.ro labT ls, V.si IntKind.i64 (IntKind.i64.wrap (i + (1 : Int)))], [], [], (219 : Nat), (0 : Nat), (0 : Nat))))) else none) else (some ((Ex.normal, [V.slst Tag.ro labT ls, V.si IntKind.i64 (IntKind.i64.wrap (i + (1 : Int)))], [], [], (219 : Nat), (0 : Nat), (0 : Nat))))) else none)) else none) else (bif decide (szX (ls.getD i.toNat labT.dflt) ∧ szX (ls.getD ((IntKind.i64.wrap (i + (2 : Int))).tmod (3 : Int)).toNat labT.dflt)) then (bif belowB (ls.getD i.toNat labT.dflt) (ls.getD ((IntKind.i64.wrap (i + (2 : Int))).tmod (3 : Int)).toNat labT.dflt) then (bif decide (szX (ls.getD ((IntKind.i64.wrap (i + (1 : Int))).tmod (3 : Int)).toNat labT.dflt) ∧ szX (ls.getD ((IntKind.i64.wrap (i + (2 : Int))).tmod (3 : Int)).toNat labT.dflt)) then (bif belowB (ls.getD ((IntKind.i64.wrap (i + (1 : Int))).tmod (3 : Int)).toNat labT.dflt) (ls.getD ((IntKind.i64.wrap (i + (2 : Int))).tmod (3 : Int)).toNat labT.dflt) then (bif decide (szX (joinV (ls.getD i.toNat labT.dflt) (ls.getD ((IntKind.i64.wrap (i + (1 : Int))).tmod (3 : Int)).toNat labT.dflt)) ∧ szX (ls.getD ((IntKind.i64.wrap (i + (2 : Int))).tmod (3 : Int)).toNat labT.dflt)) then (bif !belowB (joinV (ls.getD i.toNat labT.dflt) (ls.getD ((IntKind.i64.wrap (i + (1 : Int))).tmod (3 : Int)).toNat labT.dflt)) (ls.getD ((IntKind.i64.wrap (i + (2 : Int))).tmod (3 : Int)).toNat labT.dflt) then (some ((Ex.ret, [V.b false], [], [], (219 : Nat), (0 : Nat), (0 : Nat)))) else (some ((Ex.normal, [V.slst Tag.ro labT ls, V.si IntKind.i64 (IntKind.i64.wrap (i + (1 : Int)))], [], [], (219 : Nat), (0 : Nat), (0 : Nat))))) else none) else (some ((Ex.normal, [V.slst Tag.ro labT ls, V.si IntKind.i64 (IntKind.i64.wrap (i + (1 : Int)))], [], [], (219 : Nat), (0 : Nat), (0 : Nat))))) else none) else (some ((Ex.normal, [V.slst Tag.ro labT ls, V.si IntKind.i64 (IntKind.i64.wrap (i + (1 : Int)))], [], [], (219 : Nat), (0 : Nat), (0 : Nat))))) else none)) else none) else (bif decide (szX (ls.getD i.toNat labT.dflt) ∧ szX (ls.getD ((IntKind.i64.wrap (i + (2 : Int))).tmod (3 : Int)).toNat labT.dflt)) then (bif belowB (ls.getD i.toNat labT.dflt) (ls.getD ((IntKind.i64.wrap (i + (2 : Int))).tmod (3 : Int)).toNat labT.dflt) then (bif decide (szX (ls.getD ((IntKind.i64.wrap (i + (1 : Int))).tmod (3 : Int)).toNat labT.dflt) ∧ szX (ls.getD ((IntKind.i64.wrap (i + (2 : Int))).tmod (3 : Int)).toNat labT.dflt)) then (bif belowB (ls.getD ((IntKind.i64.wrap (i + (1 : Int))).tmod (3 : Int)).toNat labT.dflt) (ls.getD ((IntKind.i64.wrap (i + (2 : Int))).tmod (3 : Int)).toNat labT.dflt) then (bif decide (szX (joinV (ls.getD i.toNat labT.dflt) (ls.getD ((IntKind.i64.wrap (i + (1 : Int))).tmod (3 : Int)).toNat labT.dflt)) ∧ szX (ls.getD ((IntKind.i64.wrap (i + (2 : Int))).tmod (3 : Int)).toNat labT.dflt)) then (bif !belowB (joinV (ls.getD i.toNat labT.dflt) (ls.getD ((IntKind.i64.wrap (i + (1 : Int))).tmod (3 : Int)).toNat labT.dflt)) (ls.getD ((IntKind.i64.wrap (i + (2 : Int))).tmod (3 : Int)).toNat labT.dflt) then (some ((Ex.ret, [V.b false], [], [], (219 : Nat), (0 : Nat), (0 : Nat)))) else (some ((Ex.normal, [V.slst Tag.ro labT ls, V.si IntKind.i64 (IntKind.i64.wrap (i + (1 : Int)))], [], [], (219 : Nat), (0 : Nat), (0 : Nat))))) else none) else (some ((Ex.normal, [V.slst Tag.ro labT ls, V.si IntKind.i64 (IntKind.i64.wrap (i + (1 : Int)))], [], [], (219 : Nat), (0 : Nat), (0 : Nat))))) else none) else (some ((Ex.normal, [V.slst Tag.ro labT ls, V.si IntKind.i64 (IntKind.i64.wrap (i + (1 : Int)))], [], [], (219 : Nat), (0 : Nat), (0 : Nat))))) else none)) else none)) else none)) else none)) else none)) else none)) else none)) else none) else none)) else none)) else none)) else none)) else none)) else none) else none)))))) else none) else none) else none) else none) else none) else none) else none) else none) else (some ((Ex.exit (0 : Nat), [], [], [], (219 : Nat), (0 : Nat), (0 : Nat))))) := by kernel_rfl
theorem rn_la_c (i : Int) (ls : List (Ty.den labT)) {e : Ex} {vs : List V} {ob : Ob} {nm : Nm} {n' kh kt : Nat} (h : (rn_la i ls).run = some (e, vs, ob, nm, n', kh, kt)) : SemC Tryd.prog Γ (lp 5 0) (st_la i ls) e.to (St.of n' (lve_la e) vs ob nm kh kt) := SemC.of_evM cfg38_ok Tryd.func5 bd_la li_la h
end L
end Go.Proofs.YthjiodeaepigmaaDoor


/- Package label: LabelLattice's loop, in plain terms. -/
set_option linter.unusedVariables false
set_option linter.unusedSimpArgs false
set_option maxRecDepth 100000
set_option maxHeartbeats 4000000
namespace Go.Proofs.YthjiodeaepigmaaDoor
open Go
namespace L
/-- Small, and of numbers that fit. -/
def good (x : Ty.den labT) : Prop := szX x ∧ okR x = true
theorem rising_inr {l : List Int} (h : risingD l 19 = true) : l.all inr = true := by
  rw [List.all_eq_true]
  intro x hx
  obtain ⟨h1, h2⟩ := (rising_iff.1 h).1 x hx
  exact decide_eq_true ⟨by omega, by omega⟩
theorem good_valid {x : Ty.den labT} (h : vX x = true) : good x := by
  obtain ⟨s1, s2, s3, s4⟩ := valid_sz h
  obtain ⟨_, _, _, _, h5, h6, _⟩ := valid_all h
  refine ⟨⟨by omega, by omega, by omega, fun q hq => by have := s4 q hq; omega⟩, ?_⟩
  unfold okR
  rw [rising_inr h6, Bool.true_and, List.all_eq_true]
  exact fun q hq => rising_inr (locks_out h5 q hq).1
theorem good_zero : good zeroL := ⟨zero_sz, rfl⟩
theorem good_join {x y : Ty.den labT} (hx : vX x = true) (hy : vX y = true) : good (joinV x y) := by
  unfold joinV joinB
  by_cases h : (unL x y).length ≤ 4
  · rw [hx, hy, decide_eq_true h]
    exact good_valid (join_valid hx hy h)
  · rw [hx, hy, decide_eq_false h]
    exact good_zero
theorem sz_dec {x y : Ty.den labT} (hx : good x) (hy : good y) : decide (szX x ∧ szX y) = true := decide_eq_true ⟨hx.1, hy.1⟩
theorem fit_dec {x y : Ty.den labT} (hx : good x) (hy : good y) : decide (fitB x y) = true := decide_eq_true ⟨⟨hx.1, hy.1⟩, hx.2, hy.2⟩
theorem same_self (x : Ty.den labT) : sameB x x = true := decide_eq_true rfl
theorem maxI_comm (a b : Int) : maxI a b = maxI b a := by unfold maxI; split <;> split <;> omega
theorem maxI_assoc (a b c : Int) : maxI (maxI a b) c = maxI a (maxI b c) := by unfold maxI; repeat' split
                                                                               all_goals omega
theorem maxI_self (a : Int) : maxI a a = a := by unfold maxI; split <;> rfl
theorem joinT_comm {x y : Ty.den labT} (hx : vX x = true) (hy : vX y = true) : joinT x y = joinT y x := by
  obtain ⟨x1, x2, x3, x4, x5, x6, x7⟩ := valid_all hx
  obtain ⟨y1, y2, y3, y4, y5, y6, y7⟩ := valid_all hy
  exact (lab_ext _ _).2 ⟨maxI_comm _ _, ordI.comm _ _ _ (Nat.le_refl _), ordC.comm _ _ _ (Nat.le_refl _), andI_comm x2 y2, andI_comm x3 y3, ordL.comm _ _ _ (Nat.le_refl _)⟩
theorem joinT_assoc {x y z : Ty.den labT} (hx : vX x = true) (hy : vX y = true) (hz : vX z = true) : joinT (joinT x y) z = joinT x (joinT y z) := by
  obtain ⟨x1, x2, x3, x4, x5, x6, x7⟩ := valid_all hx
  obtain ⟨y1, y2, y3, y4, y5, y6, y7⟩ := valid_all hy
  obtain ⟨z1, z2, z3, z4, z5, z6, z7⟩ := valid_all hz
  exact (lab_ext _ _).2 ⟨maxI_assoc _ _ _, ordI.assoc _ _ _ _ (Nat.le_refl _), ordC.assoc _ _ _ _ (Nat.le_refl _), andI_assoc x2 y2 z2, andI_assoc x3 y3 z3, ordL.assoc _ _ _ _ (Nat.le_refl _)⟩
theorem joinT_self {x : Ty.den labT} (hx : vX x = true) : joinT x x = x := by
  obtain ⟨x1, x2, x3, x4, x5, x6, x7⟩ := valid_all hx
  exact (lab_ext _ _).2 ⟨maxI_self _, ordI.idem _, ordC.idem _, andI_self x2, andI_self x3, ordL.idem _⟩
theorem joinT_none {x : Ty.den labT} (hx : vX x = true) : joinT x noneL = x := by
  obtain ⟨x1, x2, x3, x4, x5, x6, x7⟩ := valid_all hx
  refine (lab_ext _ _).2 ⟨?_, un_end _, un_end _, andI_all x2, andI_all x3, un_end _⟩
  show maxI (aU x) 0 = aU x
  unfold maxI
  rw [if_neg (by omega)]
/-- The join of three, either way. -/
theorem joinV_assoc {x y z : Ty.den labT} (hx : vX x = true) (hy : vX y = true) (hz : vX z = true) (hxy : (unL x y).length ≤ 4) (hyz : (unL y z).length ≤ 4) : joinV (joinT x y) z = joinV x (joinT y z) ∧ joinN (joinT x y) z = joinN x (joinT y z) := by
  have e := joinT_assoc hx hy hz
  have eb : joinB (joinT x y) z = joinB x (joinT y z) := by
    unfold joinB
    rw [join_valid hx hy hxy, join_valid hy hz hyz, hx, hz]
    have : unL (joinT x y) z = unL x (joinT y z) := congrArg aL e
    rw [this]
  unfold joinV joinN
  rw [eb, e]
  exact ⟨rfl, rfl⟩
end L
end Go.Proofs.YthjiodeaepigmaaDoor


/- Package label: LabelLattice's loop; LabelLattice reckoned. -/
set_option linter.unusedVariables false
set_option linter.unusedSimpArgs false
set_option maxRecDepth 100000
set_option maxHeartbeats 4000000
namespace Go.Proofs.YthjiodeaepigmaaDoor
open Go
namespace L
abbrev pre_la (i : Int) (ls : List (Ty.den labT)) : Prop := i = 0 ∧ ls.length = 3 ∧ ∀ x ∈ ls, vX x = true ∧ (aL x).length ≤ 2
def rs_la (i : Int) (ls : List (Ty.den labT)) : Ex × St := (.exit 0, St.of 219 (lve_la (.exit 0)) [] [] [] hp_la.kh hp_la.kt)
def res_la (i : Int) (ls : List (Ty.den labT)) : Tr (Ex × St) := .br (decide (pre_la i ls)) (.leaf (some (.exit 0, St.of 219 (lve_la (.exit 0)) [] [] [] hp_la.kh hp_la.kt))) (.leaf none)
theorem res_la_run (i : Int) (ls : List (Ty.den labT)) (h : pre_la i ls) : (res_la i ls).run = some (rs_la i ls) := by
  unfold res_la rs_la
  rw [decide_eq_true h]
  exact rfl
theorem res_la_no (i : Int) (ls : List (Ty.den labT)) (h : ¬ pre_la i ls) : (res_la i ls).run = none := Tr.run_no h
def ent_la : LEnt := LEnt.by hp_la fun ⟨(ls, i, _), _, _⟩ => res_la i ls
theorem ent_la_ok (hgo : ∀ (i : Int) (ls : List (Ty.den labT)), pre_la i ls → SemL Tryd.prog Γ (lp 5 0) (st_la i ls) (rs_la i ls).1.to (rs_la i ls).2) : EntOk Tryd.prog Γ (lp 5 0) ent_la := LEnt.by_ok fun ⟨(ls, i, _), _, _⟩ ex_ s_ h_ => by
  have h_ : (res_la i ls).run = some (ex_, s_) := h_
  by_cases hp_ : pre_la i ls
  · rw [res_la_run i ls hp_] at h_
    obtain ⟨rfl, rfl⟩ := Prod.mk.inj (Option.some.inj h_)
    exact hgo i ls hp_
  · rw [res_la_no i ls hp_] at h_
    cases h_
theorem below_same {x y : Ty.den labT} (hx : vX x = true) (hy : vX y = true) : belowB x y = sameB (joinT x y) y := by
  unfold sameB
  rw [Bool.eq_iff_iff, below_iff hx hy, decide_eq_true_eq]
theorem same_iff {x y : Ty.den labT} : sameB x y = true ↔ x = y := decide_eq_true_iff
theorem joinV_none {x : Ty.den labT} (hx : vX x = true) : joinV x noneL = joinT x noneL ∧ joinN x noneL = 0 := by
  refine join_b hx none_valid ?_
  show (unD cmpL cbL (aL x) []).length ≤ 4
  rw [un_end]
  exact (valid_sz hx).2.2.1
theorem la_round (ls : List (Ty.den labT)) (hl : ls.length = 3) (hv : ∀ x ∈ ls, vX x = true ∧ (aL x).length ≤ 2) (i : Nat) (hi : i < 3) : (rn_la i ls).run = some (Ex.normal, [V.slst .ro labT ls, V.si IntKind.i64 ((i + 1 : Nat) : Int)], [], [], 219, 0, 0) := by
  have key : ∀ k, k < 3 → ∃ A, ls.getD k labT.dflt = A ∧ vX A = true ∧ (aL A).length ≤ 2 := fun k hk => by
    have hk' : k < ls.length := by omega
    obtain ⟨a, b⟩ := hv ls[k] (List.getElem_mem hk')
    exact ⟨ls[k], getD_eq hk' _, a, b⟩
  have w1 : IntKind.i64.wrap ((i : Int) + 1) = ((i + 1 : Nat) : Int) := by rw [wrap_in (by omega) (by omega)]; rfl
  have w2 : IntKind.i64.wrap ((i : Int) + 2) = ((i + 2 : Nat) : Int) := by rw [wrap_in (by omega) (by omega)]; rfl
  have m1 : (((i + 1 : Nat) : Int)).tmod 3 = (((i + 1) % 3 : Nat) : Int) := by rw [Int.tmod_eq_emod_of_nonneg (by omega)]; rfl
  have m2 : (((i + 2 : Nat) : Int)).tmod 3 = (((i + 2) % 3 : Nat) : Int) := by rw [Int.tmod_eq_emod_of_nonneg (by omega)]; rfl
  have l1 : (i + 1) % 3 < 3 := Nat.mod_lt _ (by decide)
  have l2 : (i + 2) % 3 < 3 := Nat.mod_lt _ (by decide)
  have eq := rn_la_eq i ls
  rw [w1, w2, m1, m2, hl] at eq
  generalize (i + 1) % 3 = k1 at *
  generalize (i + 2) % 3 = k2 at *
  obtain ⟨A, eA, vA, kA⟩ := key i hi
  obtain ⟨B, eB, vB, kB⟩ := key k1 l1
  obtain ⟨C, eC, vC, kC⟩ := key k2 l2
  rw [Int.toNat_natCast, Int.toNat_natCast, Int.toNat_natCast, eA, eB, eC,
    decide_eq_true (show (i : Int) < (3 : Int) by omega), decide_eq_true (show (0 : Int) ≤ (i : Int) ∧ (i : Int) < (Nat.cast 3 : Int) from ⟨by omega, Int.ofNat_lt.2 hi⟩),
    decide_eq_true (show (0 : Int) ≤ (k1 : Int) ∧ (k1 : Int) < (Nat.cast 3 : Int) from ⟨by omega, Int.ofNat_lt.2 l1⟩), decide_eq_true (show (0 : Int) ≤ (k2 : Int) ∧ (k2 : Int) < (Nat.cast 3 : Int) from ⟨by omega, Int.ofNat_lt.2 l2⟩)] at eq
  have lAB : (unL A B).length ≤ 4 := Nat.le_trans (un_len (aL A) (aL B)) (by omega)
  have lBA : (unL B A).length ≤ 4 := Nat.le_trans (un_len (aL B) (aL A)) (by omega)
  have lBC : (unL B C).length ≤ 4 := Nat.le_trans (un_len (aL B) (aL C)) (by omega)
  have lAA : (unL A A).length ≤ 4 := Nat.le_trans (un_len (aL A) (aL A)) (by omega)
  have vAB := join_valid vA vB lAB
  have vBC := join_valid vB vC lBC
  obtain ⟨a1, a2⟩ := join_b vA vB lAB
  obtain ⟨b1, b2⟩ := join_b vB vA lBA
  obtain ⟨c1, c2⟩ := join_b vB vC lBC
  obtain ⟨d1, d2⟩ := join_b vA vA lAA
  obtain ⟨e1, e2⟩ := joinV_none vA
  obtain ⟨f1, f2⟩ := joinV_assoc vA vB vC lAB lBC
  have gA := good_valid vA
  have gB := good_valid vB
  have gC := good_valid vC
  have gN := good_valid none_valid
  have gAB := good_valid vAB
  have gBC := good_valid vBC
  have gV := good_join vA vBC
  have hAB : belowB A B = sameB (joinT A B) B := below_same vA vB
  have hBA : belowB B A = sameB (joinT B A) A := below_same vB vA
  have hBC : belowB B C = sameB (joinT B C) C := below_same vB vC
  have hAC : belowB A C = sameB (joinT A C) C := below_same vA vC
  have hABC : belowB (joinT A B) C = sameB (joinT (joinT A B) C) C := below_same vAB vC
  have hAA : belowB A A = true := by rw [below_iff vA vA]; exact joinT_self vA
  have hAj : belowB A (joinT A B) = true := by rw [below_iff vA vAB, ← joinT_assoc vA vA vB, joinT_self vA]
  have hBj : belowB B (joinT A B) = true := by rw [below_iff vB vAB, joinT_comm vA vB, ← joinT_assoc vB vB vA, joinT_self vB]
  have hNA : belowB noneL A = true := by rw [below_iff none_valid vA, joinT_comm none_valid vA, joinT_none vA]
  rw [a1, a2, b1, b2, c1, c2, d1, d2, e1, e2, f1, f2, joinT_comm vB vA, joinT_self vA, joinT_none vA, hAA, hAj, hBj, hNA, hAB, hBA, hBC, hAC, hABC, joinT_comm vB vA, joinT_assoc vA vB vC] at eq
  simp only [sz_dec gA gB, sz_dec gB gA, sz_dec gB gC, sz_dec gA gA, sz_dec gA gN, sz_dec gAB gC, sz_dec gA gBC, sz_dec gA gAB, sz_dec gB gAB, sz_dec gN gA, sz_dec gA gC, fit_dec gV gV, fit_dec gAB gAB, fit_dec gA gA, fit_dec gAB gB, fit_dec gA gB, same_self, bne_self_eq_false, cond_true, cond_false, Bool.not_true] at eq
  rw [eq]
  have t1 : sameB (joinT A B) B = true → sameB (joinT A B) A = true → sameB A B = true := fun h1 h2 => by rw [same_iff] at *; rw [← h2, h1]
  have t2 : sameB (joinT A B) B = true → sameB (joinT B C) C = true → sameB (joinT A C) C = true := fun h1 h2 => by
    rw [same_iff] at *
    have := joinT_assoc vA vB vC
    rw [h1, h2] at this
    rw [← this]
  have t3 : sameB (joinT A C) C = true → sameB (joinT B C) C = true → sameB (joinT A (joinT B C)) C = true := fun h1 h2 => by
    rw [same_iff] at *
    rw [h2, h1]
  cases p1 : sameB (joinT A B) B <;> cases p2 : sameB (joinT A B) A <;> cases p3 : sameB (joinT B C) C <;> cases p4 : sameB (joinT A C) C <;> simp_all
theorem la_go (i : Int) (ls : List (Ty.den labT)) (h : pre_la i ls) : SemL Tryd.prog Γ (lp 5 0) (st_la i ls) (rs_la i ls).1.to (rs_la i ls).2 := by
  obtain ⟨rfl, hl, hv⟩ := h
  refine SemL.scan 3 0 (Nat.zero_le _) (fun i => st_la (i : Nat) ls) (fun _ => true) _ ?_ ?_ ?_
  · intro i _ hi _ _
    exact rn_la_c i ls (la_round ls hl hv i hi)
  · intro i _ _ _ h; cases h
  · intro _
    refine ⟨by simp [rs_la, Ex.to], ?_⟩
    have eq := rn_la_eq (3 : Nat) ls
    rw [decide_eq_false (by decide)] at eq
    exact rn_la_c (3 : Nat) ls (eq.trans rfl)
def lo44 : LOrc := (LOrc.add lo35 5 0 ent_la)
theorem lo44_ok : LOrcOk Tryd.prog Γ lo44 := (LOrcOk.add lo35_ok 5 0 Tryd.func5 bd_la le_la (ent_la_ok la_go))
noncomputable def cfg44 : Cfg := cfgT T36 isT36 orc38 lo44
theorem cfg44_ok : CfgOk Tryd.prog Γ cfg44 := cfgT_ok T36_ok orc38_ok lo44_ok
theorem c5_run (x0 x1 x2 x3 x4 x5 x6 y0 y1 y2 y3 y4 y5 y6 z0 z1 z2 z3 z4 z5 z6 : Int) : runL cfg44 5 [.agg [.si .i64 x0, .si .i64 x1, .si .i64 x2, .si .i64 x3, .si .i64 x4, .si .i64 x5, .si .i64 x6], .agg [.si .i64 y0, .si .i64 y1, .si .i64 y2, .si .i64 y3, .si .i64 y4, .si .i64 y5, .si .i64 y6], .agg [.si .i64 z0, .si .i64 z1, .si .i64 z2, .si .i64 z3, .si .i64 z4, .si .i64 z5, .si .i64 z6]] = .ok (some (inr x0 && inr x1 && inr x2 && inr x3 && inr x4 && inr x5 && inr x6 && (inr y0 && inr y1 && inr y2 && inr y3 && inr y4 && inr y5 && inr y6 && (inr z0 && inr z1 && inr z2 && inr z3 && inr z4 && inr z5 && inr z6 && decide (pre_la (0 : Int) [madeD x0 x1 x2 x3 x4 x5 x6, madeD y0 y1 y2 y3 y4 y5 y6, madeD z0 z1 z2 z3 z4 z5 z6]))))) (V.b true) := by kernel_rfl
end L
end Go.Proofs.YthjiodeaepigmaaDoor


/- Package label: LabelLattice. -/
set_option linter.unusedVariables false
set_option linter.unusedSimpArgs false
set_option maxRecDepth 100000
set_option maxHeartbeats 4000000
namespace Go.Proofs.YthjiodeaepigmaaDoor
open Go
namespace L
theorem law5 (x0 x1 x2 x3 x4 x5 x6 y0 y1 y2 y3 y4 y5 y6 z0 z1 z2 z3 z4 z5 z6 : Int) (hx : (inr x0 && inr x1 && inr x2 && inr x3 && inr x4 && inr x5 && inr x6) = true) (hy : (inr y0 && inr y1 && inr y2 && inr y3 && inr y4 && inr y5 && inr y6) = true) (hz : (inr z0 && inr z1 && inr z2 && inr z3 && inr z4 && inr z5 && inr z6) = true) :
    SemF Tryd.prog Γ 5 [.agg [.si .i64 x0, .si .i64 x1, .si .i64 x2, .si .i64 x3, .si .i64 x4, .si .i64 x5, .si .i64 x6], .agg [.si .i64 y0, .si .i64 y1, .si .i64 y2, .si .i64 y3, .si .i64 y4, .si .i64 y5, .si .i64 y6], .agg [.si .i64 z0, .si .i64 z1, .si .i64 z2, .si .i64 z3, .si .i64 z4, .si .i64 z5, .si .i64 z6]] [] [] (.sb true) [] [] := by
  have hp : pre_la 0 [madeD x0 x1 x2 x3 x4 x5 x6, madeD y0 y1 y2 y3 y4 y5 y6, madeD z0 z1 z2 z3 z4 z5 z6] := ⟨rfl, rfl, fun x hx => by
    simp only [List.mem_cons, List.not_mem_nil, or_false] at hx
    rcases hx with rfl | rfl | rfl
    · exact ⟨(made_valid ..).1, made_locks ..⟩
    · exact ⟨(made_valid ..).1, made_locks ..⟩
    · exact ⟨(made_valid ..).1, made_locks ..⟩⟩
  exact (of_runL cfg44_ok (c5_run x0 x1 x2 x3 x4 x5 x6 y0 y1 y2 y3 y4 y5 y6 z0 z1 z2 z3 z4 z5 z6) (by rw [hx, hy, hz, decide_eq_true hp]; rfl) rfl).weaken fun G cv h => by cases h; exact .sb _
end L
end Go.Proofs.YthjiodeaepigmaaDoor


