/- Operations, one by one. -/
import Derived.Test.YtnjjkobijjdnbaaEv2
set_option linter.unusedVariables false
namespace Go.Proofs.Ytnjjkobijjdnbaa
open Go

def ofCell : Value → V
  | .bool x => .b x
  | .int k n => .i k n
  | .string s => .s s
  | .pointer p => match p with | none => .nil | some _ => .any
  | .slice p l c => match p, l, c with | none, 0, 0 => .lst .full [] | _, _, _ => .any
  | .func f x c => if x.size = 0 ∧ c.size = 0 then .fn f [] [] else .any
  | .nilFunc => .nilfn
  | .nilIface => .nilifc
  | .float _ _ => .any
  | .complex _ _ _ => .any
  | .map _ => .any
  | .chan _ => .any
  | .iface _ _ => .any
  | .agg _ => .any
  | .tuple vs => if vs.size = 0 then .tup [] else .any
def ofVal : Value → V
  | .agg cs => .agg (cs.toList.map ofCell)
  | v => ofCell v
theorem ofCell_rel (G : Gh) (v : Value) : VRel G (ofCell v) v := by
  cases v with
  | bool x => exact .b _
  | int k n => exact .i _ _
  | string s => exact .s _
  | pointer p => cases p with | none => exact .nil | some _ => exact .any _
  | slice p l c => simp only [ofCell]; split <;> first | exact .lst0 _ | exact .any _
  | func f x c =>
    simp only [ofCell]
    split
    · rename_i h
      exact .fn (by simpa using h.1) (by simpa using h.2) (fun j v cv h => by simp at h) (fun j v cv h => by simp at h)
    · exact .any _
  | nilFunc => exact .nilfn
  | nilIface => exact .nilifc
  | tuple vs =>
    simp only [ofCell]
    split
    · rename_i h; exact .tup (by simpa using h) (fun j v cv h => by simp at h)
    · exact .any _
  | _ => exact .any _
theorem ofVal_rel (G : Gh) (v : Value) : VRel G (ofVal v) v := by
  cases v with
  | agg cs =>
    refine .agg (by simp) (fun j v cv h k => ?_)
    simp only [List.getElem?_map, Array.getElem?_toList, k, Option.map_some, Option.some.injEq] at h
    subst h
    exact ofCell_rel G cv
  | _ => simp only [ofVal]; exact ofCell_rel G _

def St.eval (Γ : Nat → Option V) (σ : St) : Operand → V
  | .tmp t => (σ.tm[t]?).getD (.tup [])
  | .const v => ofVal v
  | .global g => (Γ g).getD .any
  | .func f => .fn (.func f) [] []

theorem VRel.bool_eq {G : Gh} {t : Bool} {cv : Value} (h : VRel G (.b t) cv) : cv = .bool t := by cases h; rfl
theorem VRel.int_eq {G : Gh} {k : IntKind} {n : Int} {cv : Value} (h : VRel G (.i k n) cv) : cv = .int k n := by cases h; rfl
theorem VRel.str_eq {G : Gh} {s : ByteArray} {cv : Value} (h : VRel G (.s s) cv) : cv = .string s := by cases h; rfl

/-! ### Views -/
def V.bool? : V → Option (Bool × Bool)
  | .b x => some (x, false)
  | .sb x => some (x, true)
  | _ => none
def V.int? : V → Option (IntKind × Int × Bool)
  | .i k n => some (k, n, false)
  | .si k n => some (k, n, true)
  | _ => none
def V.str? : V → Option (ByteArray × Bool)
  | .s x => some (x, false)
  | .ss x => some (x, true)
  | _ => none
def mkB (s x : Bool) : V := match s with | true => .sb x | false => .b x
def mkI (s : Bool) (k : IntKind) (n : Int) : V := match s with | true => .si k n | false => .i k n
def mkS (s : Bool) (x : ByteArray) : V := match s with | true => .ss x | false => .s x
theorem mkB_rel (G : Gh) (s x : Bool) : VRel G (mkB s x) (.bool x) := by cases s <;> constructor
theorem mkI_rel (G : Gh) (s : Bool) (k : IntKind) (n : Int) : VRel G (mkI s k n) (.int k n) := by cases s <;> constructor
theorem mkS_rel (G : Gh) (s : Bool) (x : ByteArray) : VRel G (mkS s x) (.string x) := by cases s <;> constructor
theorem bool?_eq {G : Gh} {v : V} {cv : Value} {x s : Bool} (h : v.bool? = some (x, s)) (hr : VRel G v cv) : cv = .bool x := by
  cases v <;> simp [V.bool?] at h <;> obtain ⟨rfl, rfl⟩ := h <;> cases hr <;> rfl
theorem int?_eq {G : Gh} {v : V} {cv : Value} {k : IntKind} {n : Int} {s : Bool} (h : v.int? = some (k, n, s)) (hr : VRel G v cv) : cv = .int k n := by
  cases v <;> simp [V.int?] at h <;> obtain ⟨rfl, rfl, rfl⟩ := h <;> cases hr <;> rfl
theorem str?_eq {G : Gh} {v : V} {cv : Value} {x : ByteArray} {s : Bool} (h : v.str? = some (x, s)) (hr : VRel G v cv) : cv = .string x := by
  cases v <;> simp [V.str?] at h <;> obtain ⟨rfl, rfl⟩ := h <;> cases hr <;> rfl

section
variable {P : Program} {Γ : Nat → Option V} {σ : St} {G : Gh} {a : Act} {w : World}

theorem Rel.eval (h : Rel Γ G σ a w) (x : Operand) : VRel G (σ.eval Γ x) (a.eval x) := by
  cases x with
  | tmp t =>
    simp only [St.eval, Act.eval]
    cases hv : σ.tm[t]? with
    | none =>
      have hl := h.tm.1
      have : σ.tm.length ≤ t := by
        rcases Nat.lt_or_ge t σ.tm.length with h' | h'
        · simp [List.getElem?_eq_getElem h'] at hv
        · exact h'
      have : a.tmps.size ≤ t := by simp at hl; omega
      simp only [Option.getD_none, Array.getD_eq_getD_getElem?, Array.getElem?_eq_none this]
      exact VRel.undef G
    | some v =>
      obtain ⟨cv, hc, hr⟩ := h.tm.of_get hv
      have : a.tmps[t]? = some cv := by simpa using hc
      simpa [Array.getD_eq_getD_getElem?, this] using hr
  | const v => exact ofVal_rel G v
  | global g =>
    simp only [St.eval, Act.eval]
    cases hv : Γ g with
    | none => exact .any _
    | some v => exact (h.wr.gl g v hv).mono' G.bare_sub
  | func f => exact .fn rfl rfl (fun j v cv h => by simp at h) (fun j v cv h => by simp at h)

/-- In a round an operation that is no defer statement is carried out as everywhere. -/
theorem semAt_of {ro : Option Nat} {o : Oper} {ρ : Operand → Value} {n : Next} {w w' : World} (h : (execOp ρ o).run P w = .ok n w') (hn : ∀ d, n ≠ .defer d) : (o.semAt ro ρ).run P w = .ok n w' := by
  rw [Oper.semAt_eq ro ρ o ?_]
  · exact h
  · intro c hc
    simp only [execOp, hc, Sem.run_bind] at h
    cases hr : (resolve ρ c o.type).run P w with
    | ok d w1 => rw [hr] at h; simp [Result.andThen] at h; exact hn _ h.1.symm
    | halt x w1 => rw [hr] at h; simp [Result.andThen] at h
theorem semAt_val {ro : Option Nat} {o : Oper} {ρ : Operand → Value} {cv : Value} {w w' : World} (h : (execOp ρ o).run P w = .ok (.value cv) w') : (o.semAt ro ρ).run P w = .ok (.value cv) w' :=
  semAt_of h (fun _ h => by cases h)
theorem semAt_skip {ro : Option Nat} {o : Oper} {ρ : Operand → Value} {w w' : World} (h : (execOp ρ o).run P w = .ok .skip w') : (o.semAt ro ρ).run P w = .ok .skip w' :=
  semAt_of h (fun _ h => by cases h)
/-- An operation that yields a value. -/
theorem SemV.of_val {o : Oper} {v : V} {ob' : Ob} {nm' : Nm} (h : ∀ G a w, Rel Γ G σ a w → ∃ cv w' G', (execOp a.eval o).run P w = .ok (.value cv) w' ∧ G.le G' ∧ VRel G' v cv ∧ WRel Γ G' ob' nm' w') :
    SemV P Γ o σ v (ob') (nm') := by
  intro ro G a w K Q hr hk
  obtain ⟨cv, w', G', hrun, hle, hv, hw⟩ := h G a w hr
  refine ⟨fun _ _ => trivial, ?_⟩
  rw [semAt_val hrun]
  exact hk G' _ w' hle hv hw
/-- The same where neither the memory nor the ghost changes. -/
theorem SemV.of_pure {o : Oper} {v : V} (h : ∀ G a w, Rel Γ G σ a w → ∃ cv, (execOp a.eval o).run P w = .ok (.value cv) w ∧ VRel G v cv) : SemV P Γ o σ v σ.ob σ.nm :=
  SemV.of_val (ob' := σ.ob) (nm' := σ.nm) fun G a w hr => let ⟨cv, h1, h2⟩ := h G a w hr; ⟨cv, w, G, h1, .refl G, h2, hr.wr⟩

theorem SemV.move {o : Oper} {x : Operand} (ho : o.op = .move x) : SemV P Γ o σ (σ.eval Γ x) σ.ob σ.nm :=
  SemV.of_pure fun G a w hr => ⟨_, by simp [execOp, ho], hr.eval x⟩
theorem SemV.assign {o : Oper} {x : Operand} (ho : o.op = .assign x) : SemV P Γ o σ (σ.eval Γ x) σ.ob σ.nm :=
  SemV.of_pure fun G a w hr => ⟨_, by simp [execOp, ho], hr.eval x⟩
theorem SemV.pick {o : Oper} {c x y : Operand} {t : Bool} (ho : o.op = .pick c x y) (hc : σ.eval Γ c = .b t) : SemV P Γ o σ (bif t then σ.eval Γ x else σ.eval Γ y) σ.ob σ.nm :=
  SemV.of_pure fun G a w hr => by
    have h := hr.eval c
    rw [hc] at h
    have hb : a.eval c = .bool t := h.bool_eq
    refine ⟨_, by simp [execOp, ho, hb, asBool]; rfl, ?_⟩
    cases t
    · exact hr.eval y
    · exact hr.eval x
theorem SemV.makeFunc {o : Oper} {fn : Fn} {first cap : Array Operand} (ho : o.op = .makeFunc fn first cap) :
    SemV P Γ o σ (.fn fn (first.toList.map (σ.eval Γ)) (cap.toList.map (σ.eval Γ))) σ.ob σ.nm :=
  SemV.of_pure fun G a w hr => by
    refine ⟨_, by simp [execOp, ho, Instr.makeFunc]; rfl, ?_⟩
    refine .fn (by simp) (by simp) (fun j v cv h k => ?_) (fun j v cv h k => ?_) <;>
    · simp only [List.getElem?_map, Array.getElem?_toList, Array.getElem?_map, Option.map_eq_some_iff] at h k
      obtain ⟨x, hx, rfl⟩ := h
      obtain ⟨y, hy, rfl⟩ := k
      rw [hx] at hy
      cases hy
      exact hr.eval x
theorem SemV.makeInterface {o : Oper} {T : TypeId} {x : Operand} {d : TypeDesc} (ho : o.op = .makeInterface T x) (hd : P.underlying T = some d) (hn : ∀ m, d ≠ .interface m) :
    SemV P Γ o σ (.ifc T (σ.eval Γ x)) σ.ob σ.nm :=
  SemV.of_pure fun G a w hr => by
    refine ⟨.iface T (a.eval x), ?_, .ifc (hr.eval x)⟩
    cases d with
    | interface m => exact absurd rfl (hn m)
    | _ => simp [execOp, ho, Instr.makeInterface, run_underlying hd]
theorem SemV.extract {o : Oper} {x : Operand} {ix : Nat} {vs : List V} {v : V} (ho : o.op = .extract x ix) (hx : σ.eval Γ x = .tup vs) (hv : vs[ix]? = some v) : SemV P Γ o σ v σ.ob σ.nm :=
  SemV.of_pure fun G a w hr => by
    have h := hr.eval x
    rw [hx] at h
    cases he : a.eval x <;> rw [he] at h <;> cases h
    rename_i c hl hh
    have hlt : ix < c.size := by
      rw [hl]
      rcases Nat.lt_or_ge ix vs.length with h' | h'
      · exact h'
      · simp [List.getElem?_eq_none h'] at hv
    exact ⟨c[ix], by simp [execOp, ho, Instr.extract, he, Array.getElem?_eq_getElem hlt], hh ix v _ hv (Array.getElem?_eq_getElem hlt)⟩

/-! ### Numbers -/
/-- An operator on numbers: what must hold, and the value. -/
def intOpV (op : BinOp) (k : IntKind) (x : Int) (k' : IntKind) (y : Int) (sx sy : Bool) : Option (Bool × Bool × V) :=
  match op with
  | .shl => some (decide (0 ≤ y), sy, mkI (sx || sy) k (k.wrap (x * 2 ^ (min y.toNat k.bits))))
  | .shr => some (decide (0 ≤ y), sy, mkI (sx || sy) k (x.fdiv (2 ^ (min y.toNat k.bits))))
  | _ =>
    if k ≠ k' then none else
    match op with
    | .add => some (true, false, mkI (sx || sy) k (k.wrap (x + y)))
    | .sub => some (true, false, mkI (sx || sy) k (k.wrap (x - y)))
    | .mul => some (true, false, mkI (sx || sy) k (k.wrap (x * y)))
    | .quo => some (decide (y ≠ 0), sy, mkI (sx || sy) k (k.wrap (x.tdiv y)))
    | .rem => some (decide (y ≠ 0), sy, mkI (sx || sy) k (x.tmod y))
    | .and => some (true, false, mkI (sx || sy) k (k.wrap (BitVec.ofInt k.bits x &&& BitVec.ofInt k.bits y).toNat))
    | .or => some (true, false, mkI (sx || sy) k (k.wrap (BitVec.ofInt k.bits x ||| BitVec.ofInt k.bits y).toNat))
    | .xor => some (true, false, mkI (sx || sy) k (k.wrap (BitVec.ofInt k.bits x ^^^ BitVec.ofInt k.bits y).toNat))
    | .andNot => some (true, false, mkI (sx || sy) k (k.wrap (BitVec.ofInt k.bits x &&& ~~~BitVec.ofInt k.bits y).toNat))
    | .eql => some (true, false, mkB (sx || sy) (x == y))
    | .neq => some (true, false, mkB (sx || sy) (x != y))
    | .lss => some (true, false, mkB (sx || sy) (x < y))
    | .leq => some (true, false, mkB (sx || sy) (x ≤ y))
    | .gtr => some (true, false, mkB (sx || sy) (x > y))
    | .geq => some (true, false, mkB (sx || sy) (x ≥ y))
    | _ => none
def strOpV (op : BinOp) (x y : ByteArray) (s : Bool) : Option (Bool × Bool × V) :=
  match op with
  | .add => some (decide (((x.size + y.size : Nat) : Int) ≤ 9223372036854775807), s, mkS s (x ++ y))
  | .eql => some (true, false, mkB s (x.toList == y.toList))
  | .neq => some (true, false, mkB s (!(x.toList == y.toList)))
  | .lss => some (true, false, mkB s (Op.bytesLess x.toList y.toList))
  | .leq => some (true, false, mkB s (Op.bytesLess x.toList y.toList || x.toList == y.toList))
  | .gtr => some (true, false, mkB s (!(Op.bytesLess x.toList y.toList || x.toList == y.toList)))
  | .geq => some (true, false, mkB s (!Op.bytesLess x.toList y.toList))
  | _ => none
def binX (op : BinOp) (x y : V) : Option (Bool × Bool × V) :=
  match x.int?, y.int? with
  | some (k, a, s), some (k', b, s') => intOpV op k a k' b s s'
  | _, _ =>
    match x.str?, y.str? with
    | some (a, s), some (b, s') => strOpV op a b (s || s')
    | _, _ => none
theorem i64_max : IntKind.i64.max = 9223372036854775807 := rfl
theorem binX_run {op : BinOp} {x y r : V} {c : Bool} {cx cy : Value} (T : TypeId) (hx : VRel G x cx) (hy : VRel G y cy) (h : binX op x y = some (true, c, r)) (w : World) :
    (∃ cv, (Go.binOp op T cx cy).run P w = .ok cv w ∧ VRel G r cv) ∧ ((∀ a b, ¬ (cx = .agg a ∧ cy = .agg b)) ∧ ¬ (cx = .nilIface ∧ cy = .nilIface)) := by
  unfold binX at h
  split at h
  · rename_i k x' s k' y' s' hix hiy
    have := int?_eq hix hx; have := int?_eq hiy hy; subst_vars
    refine ⟨?_, (fun a b hh => by cases hh.1), fun hh => by cases hh.1⟩
    unfold intOpV at h
    split at h
    · simp only [Option.some.injEq, Prod.mk.injEq, decide_eq_true_eq] at h
      obtain ⟨h1, _, rfl⟩ := h
      exact ⟨_, by simp only [Go.binOp, Op.shift, Int.not_lt.2 h1, ↓reduceIte]; rfl, mkI_rel _ _ _ _⟩
    · simp only [Option.some.injEq, Prod.mk.injEq, decide_eq_true_eq] at h
      obtain ⟨h1, _, rfl⟩ := h
      exact ⟨_, by simp only [Go.binOp, Op.shift, Int.not_lt.2 h1, ↓reduceIte]; rfl, mkI_rel _ _ _ _⟩
    · split at h
      · cases h
      · rename_i hk
        have hk : k = k' := by simpa using hk
        subst hk
        split at h <;> first
          | (cases h; done)
          | (simp only [Option.some.injEq, Prod.mk.injEq, decide_eq_true_eq] at h
             obtain ⟨h1, _, rfl⟩ := h
             first
              | exact ⟨_, by simp only [Go.binOp, ne_eq, not_true_eq_false, ↓reduceIte, Op.intArith, Op.intBits, Op.intCmp]; rfl, by first | exact mkI_rel _ _ _ _ | exact mkB_rel _ _ _⟩
              | exact ⟨_, by simp only [Go.binOp, ne_eq, not_true_eq_false, ↓reduceIte, Op.intDiv, h1]; rfl, mkI_rel _ _ _ _⟩)
  · split at h
    · rename_i a s b s' hix hiy
      have := str?_eq hix hx; have := str?_eq hiy hy; subst_vars
      refine ⟨?_, (fun a b hh => by cases hh.1), fun hh => by cases hh.1⟩
      unfold strOpV at h
      split at h <;> first
        | (cases h; done)
        | (simp only [Option.some.injEq, Prod.mk.injEq, decide_eq_true_eq] at h
           obtain ⟨h1, _, rfl⟩ := h
           first
            | exact ⟨_, by simp only [Go.binOp, Op.stringOp]; rfl, mkB_rel _ _ _⟩
            | exact ⟨_, by simp only [Go.binOp, Op.stringOp, i64_max, Int.not_lt.2 h1, ↓reduceIte]; rfl, mkS_rel _ _ _⟩)
    · cases h
end
end Go.Proofs.Ytnjjkobijjdnbaa
