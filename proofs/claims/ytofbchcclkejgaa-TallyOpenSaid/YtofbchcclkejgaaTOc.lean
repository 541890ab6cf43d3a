/- Parts of the library of texts, one after the other: Ev7, Ev8, Ev9, Ev9a, Ev10, Ev11, Ev11a, Ev11b, Ev11c. -/
import Derived.Test.YtofbchcclkejgaaTOb
import Derived.LaidEqlPtr
/- Equality of structs and arrays; comparisons with nil. -/
set_option linter.unusedVariables false
set_option linter.unusedSimpArgs false
namespace Go.Proofs.Ytofbchcclkejgaa
open Go
section
variable {P : Program} {Γ : Nat → Option V} {G : Gh} {ob : Ob} {nm : Nm} {w : World} {σ : St}
def partV (P : Program) (T : TypeId) (cs : List V) (off : Nat) : Option V :=
 match tyAgg P T, tySize P T with
 | some agg, some sz => getV agg sz cs off
 | _, _ => none
def andO : Option (Bool × Bool) → Option (Bool × Bool) → Option (Bool × Bool)
 | some (a, s), some (b, s') => some (a && b, s || s')
 | _, _ => none
def eqV (P : Program) : Nat → TypeId → V → V → Option (Bool × Bool)
 | 0, _, _, _ => none
 | d + 1, T, x, y =>
  match P.underlying T with
  | some .bool => match x.bool?, y.bool? with | some (a, s), some (b, s') => some (a == b, s || s') | _, _ => none
  | some (.int _) => match x.int?, y.int? with | some (k, a, s), some (k', b, s') => if k = k' then some (a == b, s || s') else none | _, _ => none
  | some .string => match x.str?, y.str? with | some (a, s), some (b, s') => some (a == b, s || s') | _, _ => none
  | some (.pointer e) =>
   match x, y with
   | .nil, .nil => some (true, false)
   | .nil, .tp _ _ _ => some (false, false)
   | .tp _ _ _, .nil => some (false, false)
   | .tp _ _ o, .tp _ _ o' => match Nat.beq o o', P.info? e with | true, some _ => some (true, false) | _, _ => none
   | .nil, .ptr _ _ => some (false, false)
   | .nil, .pel _ _ _ => some (false, false)
   | .ptr _ _, .nil => some (false, false)
   | .pel _ _ _, .nil => some (false, false)
   | _, _ => none
  | some (.func _ _ _) =>
   match x, y with
   | .nilfn, .nilfn => some (true, false)
   | .nilfn, .fn _ _ _ => some (false, false)
   | .fn _ _ _, .nilfn => some (false, false)
   | _, _ => none
  | some (.interface _) =>
   match x, y with
   | .nilifc, .nilifc => some (true, false)
   | .nilifc, .ifc _ _ => some (false, false)
   | .ifc _ _, .nilifc => some (false, false)
   | _, _ => none
  | some (.struct fs) =>
   match x, y with
   | .agg xs, .agg ys =>
    if P.stoodInHeld T then none else
    fs.toList.foldr (fun f r => andO (if f.name = "_" then some (true, false) else
     match partV P f.type xs f.offset, partV P f.type ys f.offset with | some p, some q => eqV P d f.type p q | _, _ => none) r) (some (true, false))
   | _, _ => none
  | some (.array n e) =>
   match x, y, tySize P e with
   | .agg xs, .agg ys, some s =>
    (List.range n).foldr (fun i r => andO (match partV P e xs (i * s), partV P e ys (i * s) with | some p, some q => eqV P d e p q | _, _ => none) r) (some (true, false))
   | _, _, _ => none
  | _ => none
theorem partV_run {T : TypeId} {cs : List V} {c : Array Value} {off : Nat} {v : V} (h : partV P T cs off = some v) (hr : Rels G cs c.toList) (w : World) : ∃ cv, (part T c off).run P w = .ok cv w ∧ VRel G v cv := by
 unfold partV at h
 split at h
 · rename_i agg sz ha hs; exact run_part ha hs hr h w
 · cases h
theorem run_all_list {α : Type} (bd : α → Option Bool × PUnit → Sem (ForInStep (Option Bool × PUnit))) (val : α → Option (Bool × Bool)) (w : World) : ∀ (l : List α) (r : Bool) (z : Bool), l.foldr (fun x r => andO (val x) r) (some (true, false)) = some (r, z) →
 (∀ x ∈ l, ∀ t s, val x = some (t, s) → (bd x (none, PUnit.unit)).run P w = .ok (if t then ForInStep.yield (none, PUnit.unit) else ForInStep.done (some false, PUnit.unit)) w) →
 (forIn (m := Sem) l (none, PUnit.unit) bd).run P w = .ok ((if r then none else some false), PUnit.unit) w := by
 intro l
 induction l with
 | nil => intro r z h _; simp at h; obtain ⟨rfl, rfl⟩ := h; simp
 | cons x l ih =>
  intro r z h hg
  simp only [List.foldr_cons] at h
  cases hx : val x with
  | none => simp [hx, andO] at h
  | some t =>
   obtain ⟨t, ts⟩ := t
   generalize hl : l.foldr (fun x r => andO (val x) r) (some (true, false)) = rl at h
   cases rl with
   | none => simp [hx, andO] at h
   | some s =>
    obtain ⟨s, ss⟩ := s
    simp [hx, andO] at h
    obtain ⟨h, _⟩ := h
    subst h
    have h1 := hg x (by simp) t ts hx
    have h2 := ih s ss hl (fun y hy => hg y (by simp [hy]))
    cases t with
    | false => simp [h1]
    | true => simp [h1] at h2 ⊢; exact h2
theorem eqV_run : ∀ (d : Nat) (T : TypeId) (x y : V) (cx cy : Value) (r z : Bool) (w : World), VRel G x cx → VRel G y cy → eqV P d T x y = some (r, z) → ∀ k, (Op.equalIn (d + k) T cx cy).run P w = .ok r w := by
 intro d
 induction d with
 | zero => intro T x y cx cy r z w _ _ h; simp [eqV] at h
 | succ d ih =>
  intro T x y cx cy r z w hx hy h k
  rw [show d + 1 + k = (d + k) + 1 by omega]
  simp only [eqV] at h
  split at h
  · rename_i hu
    split at h <;> simp at h
    rename_i e1 e2
    obtain ⟨h, _⟩ := h
    have := bool?_eq e1 hx; have := bool?_eq e2 hy; subst_vars
    simp [Op.equalIn, run_underlying hu]
  · rename_i kk hu
    split at h <;> simp at h
    rename_i e1 e2
    obtain ⟨h1, h2, _⟩ := h
    have := int?_eq e1 hx; have := int?_eq e2 hy; subst_vars
    simp [Op.equalIn, run_underlying hu]
  · rename_i hu
    split at h <;> simp at h
    rename_i e1 e2
    obtain ⟨h, _⟩ := h
    have := str?_eq e1 hx; have := str?_eq e2 hy; subst_vars
    simp [Op.equalIn, run_underlying hu]
  · rename_i e hu
    split at h
    case h_4 =>
     split at h
     · rename_i o1 o2 _ j ho hj
       cases h
       obtain rfl := Nat.eq_of_beq_eq_true ho
       cases hx with
       | tp hb1 hd1 =>
        cases hy with
        | tp hb2 hd2 =>
         rw [hb1] at hb2
         cases hb2
         simp [Op.equalIn, run_underlying hu, sizeOf, typeInfo, hj, run_sameAddr_same]
     · cases h
    all_goals (simp at h <;> obtain ⟨rfl, _⟩ := h <;> cases hx <;> cases hy <;> simp [Op.equalIn, run_underlying hu])
  · rename_i p1 p2 p3 hu
    split at h <;> simp at h <;> obtain ⟨rfl, _⟩ := h <;> cases hx <;> cases hy <;> simp [Op.equalIn, run_underlying hu]
  · rename_i ms hu
    split at h <;> simp at h <;> obtain ⟨rfl, _⟩ := h <;> cases hx <;> cases hy <;> simp [Op.equalIn, run_underlying hu]
  · rename_i fs hu
    split at h <;> try cases h
    rename_i xs ys
    split at h
    · cases h
    · rename_i hst
      obtain ⟨cxs, rfl, rx⟩ := hx.agg_form
      obtain ⟨cys, rfl, ry⟩ := hy.agg_form
      have hl := run_all_list (P := P) (fun f (_ : Option Bool × PUnit) => (do
       if f.name ≠ "_" then
        if !(← Op.equalIn (d + k) f.type (← part f.type cxs f.offset) (← part f.type cys f.offset)) then pure (ForInStep.done (some false, PUnit.unit)) else pure (ForInStep.yield (none, PUnit.unit))
       else pure (ForInStep.yield (none, PUnit.unit)) : Sem (ForInStep (Option Bool × PUnit)))) _ w fs.toList r z h (fun f hf t ts ht => by
       by_cases hn : f.name = "_"
       · simp [hn] at ht; obtain ⟨rfl, _⟩ := ht; simp [hn]
       · simp only [hn, if_false] at ht
         split at ht
         · rename_i p q hp hq
           obtain ⟨cp, e1, e2⟩ := partV_run hp rx w
           obtain ⟨cq, e3, e4⟩ := partV_run hq ry w
           have e5 := ih f.type p q cp cq t ts w e2 e4 ht k
           cases t <;> simp [hn, e1, e3, e5]
         · cases ht)
      have hst : P.stoodInHeld T = false := by simpa using hst
      simp only [Op.equalIn, Sem.run_bind, run_underlying hu, Result.andThen_ok, run_program, hst]
      rw [← Array.forIn_toList]
      simp only [Bool.false_eq_true, if_false, ne_eq, ite_not, Bool.not_eq_true'] at hl ⊢
      rw [Sem.run_bind]
      refine Eq.trans (congrArg (fun z => Result.andThen z _) hl) ?_
      cases r <;> rfl
  · rename_i n e hu
    split at h <;> try cases h
    rename_i xs ys s hs
    obtain ⟨cxs, rfl, rx⟩ := hx.agg_form
    obtain ⟨cys, rfl, ry⟩ := hy.agg_form
    have hl := run_all_list (P := P) (fun i (_ : Option Bool × PUnit) => (do
     if !(← Op.equalIn (d + k) e (← part e cxs (i * s)) (← part e cys (i * s))) then pure (ForInStep.done (some false, PUnit.unit)) else pure (ForInStep.yield (none, PUnit.unit)) : Sem (ForInStep (Option Bool × PUnit)))) _ w (List.range n) r z h (fun f hf t ts ht => by
     split at ht
     · rename_i p q hp hq
       obtain ⟨cp, e1, e2⟩ := partV_run hp rx w
       obtain ⟨cq, e3, e4⟩ := partV_run hq ry w
       have e5 := ih e p q cp cq t ts w e2 e4 ht k
       cases t <;> simp [e1, e3, e5]
     · cases ht)
    simp only [Op.equalIn, Sem.run_bind, run_underlying hu, Result.andThen_ok, run_program, run_sizeOf hs]
    rw [Std.Legacy.Range.forIn_eq_forIn_range']
    have hsz : ([:n] : Std.Legacy.Range).size = n := by simp [Std.Legacy.Range.size]
    simp only [Bool.not_eq_true', hsz, ← List.range_eq_range'] at hl ⊢
    refine Eq.trans (congrArg (fun z => Result.andThen z _) hl) ?_
    cases r <;> rfl
  · cases h
def V.plainEq : V → Bool
 | .tp _ _ _ | .b _ | .sb _ | .nil | .ptr _ _ | .pel _ _ _ | .fn _ _ _ | .nilfn | .ifc _ _ | .nilifc | .agg _ => true
 | _ => false
def constOp : Operand → Bool
 | .const _ => true
 | _ => false
def eqGuardOk (P : Program) (T : TypeId) (k : Bool) : V → V → Bool
 | .agg _, .agg _ => !P.eqGuardType P.depth T
 | .nilifc, .nilifc => k
 | _, _ => true
theorem binOp_eql {op : BinOp} {x y : V} {cx cy : Value} (T : TypeId) (hop : op = .eql ∨ op = .neq) (hx : VRel G x cx) (hy : VRel G y cy) (h1 : x.plainEq = true) (h2 : y.plainEq = true) {r : Bool} {w : World} (h : (Op.equal T cx cy).run P w = .ok r w) :
 (Go.binOp op T cx cy).run P w = .ok (.bool (if op = .eql then r else !r)) w := by
 rcases hop with rfl | rfl <;> cases hx <;> first
  | (simp [V.plainEq] at h1; done)
  | (cases hy <;> first
   | (simp [V.plainEq] at h2; done)
   | simp [Go.binOp, h])
theorem SemV.eq {o : Oper} {op : BinOp} {T T' : TypeId} {x y : Operand} {r z : Bool} (ho : o.op = .binOp op T x y T') (hop : op = .eql ∨ op = .neq) (d : Nat) (hd : d ≤ 10000) (h1 : (σ.eval Γ x).plainEq = true) (h2 : (σ.eval Γ y).plainEq = true)
 (hg : eqGuardOk P T (constOp x || constOp y) (σ.eval Γ x) (σ.eval Γ y) = true) (hv : eqV P d T (σ.eval Γ x) (σ.eval Γ y) = some (r, z)) : SemV P Γ o σ (mkB z (if op = .eql then r else !r)) σ.ob σ.nm :=
 SemV.of_pure fun G a w hr => by
  have hx := hr.eval x
  have hy := hr.eval y
  have he := eqV_run d T _ _ _ _ r z w hx hy hv (10000 - d)
  rw [show d + (10000 - d) = 10000 by omega] at he
  have hb := binOp_eql (P := P) T hop hx hy h1 h2 (w := w) (r := r) he
  have hgr : (eqGuard op T x y (a.eval x) (a.eval y)).run P w = .ok () w := by
   generalize hcx : a.eval x = cx at hx
   generalize hcy : a.eval y = cy at hy
   by_cases hag : (∃ p q, cx = .agg p ∧ cy = .agg q)
   · obtain ⟨p, q, rfl, rfl⟩ := hag
     have : P.eqGuardType P.depth T = false := by
      generalize σ.eval Γ x = vx at hx h1 hg
      generalize σ.eval Γ y = vy at hy h2 hg
      cases hx <;> first
       | (simp [V.plainEq] at h1; done)
       | (cases hy <;> first
        | (simp [V.plainEq] at h2; done)
        | simpa [eqGuardOk] using hg)
     rcases hop with rfl | rfl <;> simp [eqGuard, this]
   · by_cases hni : cx = .nilIface ∧ cy = .nilIface
     · obtain ⟨rfl, rfl⟩ := hni
       have hk : (constOp x || constOp y) = true := by
        generalize σ.eval Γ x = vx at hx h1 hg
        generalize σ.eval Γ y = vy at hy h2 hg
        cases hx <;> first
         | (simp [V.plainEq] at h1; done)
         | (cases hy <;> first
          | (simp [V.plainEq] at h2; done)
          | (simpa [eqGuardOk] using hg))
       cases x <;> cases y <;> first
        | (simp [constOp] at hk; done)
        | (rcases hop with rfl | rfl <;> simp [eqGuard])
     · exact run_eqGuard_none ⟨fun p q hh => hag ⟨p, q, hh⟩, hni⟩ w
  exact ⟨_, by simp [execOp, ho, hgr, hb], mkB_rel _ _ _⟩
end
end Go.Proofs.Ytofbchcclkejgaa

/- Structs, arrays and slices that are built. -/
set_option linter.unusedVariables false
set_option linter.unusedSimpArgs false
namespace Go.Proofs.Ytofbchcclkejgaa
open Go
section
variable {P : Program} {Γ : Nat → Option V} {G : Gh} {ob : Ob} {nm : Nm} {w : World} {σ : St}
def V.notAny : V → Bool
 | .any => false
 | _ => true
theorem V.notAny_ne {v : V} (h : v.notAny = true) : v ≠ .any := fun e => by subst e; simp [V.notAny] at h
def splice (cs : List V) (off : Nat) (vs : List V) : List V := cs.take off ++ vs ++ cs.drop (off + vs.length)
def fillV (place : Nat → Option (Nat × Nat)) : List V → List (Nat × V) → Option (List V)
 | cs, [] => some cs
 | cs, (i, v) :: rest =>
  match place i with
  | none => none
  | some (off, size) => if v.notAny ∧ v.cells.length = size ∧ off + size ≤ cs.length then fillV place (splice cs off v.cells) rest else none
theorem foldl_sets (off : Nat) : ∀ (vs : List Value) (k : Nat) (c : Array Value), off + k + vs.length ≤ c.size →
 ((vs.zipIdx k).foldl (fun (cs : Array Value) (x : Value × Nat) => cs.setIfInBounds (off + x.2) x.1) c).toList = c.toList.take (off + k) ++ vs ++ c.toList.drop (off + k + vs.length)
 | [], k, c, _ => by simp
 | v :: rest, k, c, h => by
  simp only [List.length_cons] at h
  have ih := foldl_sets off rest (k + 1) (c.setIfInBounds (off + k) v) (by simp; omega)
  simp only [List.zipIdx_cons, List.foldl_cons]
  rw [ih]
  have e := splice_step c.toList (off + k) v rest (by simp; omega)
  simp only [Array.toList_setIfInBounds, ← Nat.add_assoc, List.length_cons] at e ⊢
  exact e
theorem fill_run {place : Nat → Option (Nat × Nat)} : ∀ (parts : List (Nat × V)) (cparts : List (Nat × Value)) (cs cs' : List V) (c : Array Value), fillV place cs parts = some cs' → Rels G cs c.toList →
 cparts.map (·.1) = parts.map (·.1) → Rels G (parts.map (·.2)) (cparts.map (·.2)) → ∃ c', Instr.fill place c cparts = some c' ∧ Rels G cs' c'.toList
 | [], cparts, cs, cs', c, h, hr, h1, h2 => by
  have : cparts = [] := by simpa using h1
  subst this
  simp [fillV] at h
  subst h
  exact ⟨c, by simp [Instr.fill], hr⟩
 | (i, v) :: rest, cparts, cs, cs', c, h, hr, h1, h2 => by
  cases cparts with
  | nil => simp at h1
  | cons p cparts =>
   obtain ⟨ci, cv⟩ := p
   simp only [List.map_cons, List.cons.injEq] at h1
   obtain ⟨rfl, h1⟩ := h1
   have hv : VRel G v cv := h2.2 0 v cv (by simp) (by simp)
   have h2' : Rels G (rest.map (·.2)) (cparts.map (·.2)) := by
    have := h2.drop 1
    simpa using this
   simp only [fillV] at h
   split at h
   · cases h
   · rename_i off size hp
     split at h
     · rename_i hc
       obtain ⟨n1, n2, n3⟩ := hc
       have hcl := hv.cells (V.notAny_ne n1)
       have hsz : cv.cells.size = size := by have := hcl.1; simp at this; omega
       have hcsz : c.size = cs.length := by have := hr.1; simpa using this
       have hf := foldl_sets off cv.cells.toList 0 c (by simp [hsz]; omega)
       simp only [Nat.add_zero, Array.length_toList, hsz] at hf
       have hr2 : Rels G (splice cs off v.cells) ((cv.cells.toList.zipIdx 0).foldl (fun (cs : Array Value) (x : Value × Nat) => cs.setIfInBounds (off + x.2) x.1) c).toList := by
        rw [hf]
        unfold splice
        rw [n2]
        exact ((hr.take off).append hcl).append (hr.drop (off + size))
       obtain ⟨c', g1, g2⟩ := fill_run rest cparts _ cs' _ h hr2 h1 h2'
       refine ⟨c', ?_, g2⟩
       have hz : cv.cells.zipIdx.foldl (fun cs (x : Value × Nat) => cs.setIfInBounds (off + x.2) x.1) c = (cv.cells.toList.zipIdx 0).foldl (fun (cs : Array Value) (x : Value × Nat) => cs.setIfInBounds (off + x.2) x.1) c := by
        rw [← Array.foldl_toList]
        simp
       simp only [Instr.fill, hp, hsz]
       rw [if_neg (by simp; omega)]
       rw [← g1]
       exact congrArg (fun z => Instr.fill place z cparts) hz
     · cases h
def partsV (σ : St) (Γ : Nat → Option V) (ps : List (Nat × Operand)) : List (Nat × V) := ps.map fun (i, x) => (i, σ.eval Γ x)
theorem parts_rel {a : Act} (hr : Rel Γ G σ a w) (ps : List (Nat × Operand)) :
 ((ps.map fun (i, x) => (i, a.eval x)).map (·.1)) = (partsV σ Γ ps).map (·.1) ∧ Rels G ((partsV σ Γ ps).map (·.2)) ((ps.map fun (i, x) => (i, a.eval x)).map (·.2)) := by
 induction ps with
 | nil => exact ⟨rfl, Rels.nil G⟩
 | cons p ps ih => exact ⟨by simp [partsV] at ih ⊢, Rels.cons (hr.eval p.2) ih.2⟩
def tyPlaces (P : Program) (T : TypeId) : Option (List (Nat × Nat)) :=
 match P.underlying T with
 | some (.struct fs) => fs.toList.foldr (fun f r => match tySize P f.type, r with | some s, some l => some ((f.offset, s) :: l) | _, _ => none) (some [])
 | _ => none
theorem run_places {fs : List Field} {l : List (Nat × Nat)} (h : fs.foldr (fun f r => match tySize P f.type, r with | some s, some l => some ((f.offset, s) :: l) | _, _ => none) (some []) = some l) (w : World) :
 (fs.mapM (m := Sem) fun f => do pure (f.offset, ← sizeOf f.type)).run P w = .ok l w := by
 induction fs generalizing l with
 | nil => simp at h; subst h; simp
 | cons f fs ih =>
  simp only [List.foldr_cons] at h
  split at h
  · rename_i s l' hs hl
    cases h
    have := ih hl
    simp only [List.mapM_cons, Sem.run_bind, run_sizeOf hs, Result.andThen_ok, Sem.run_pure, this]
  · cases h
theorem SemV.build_struct {o : Oper} {T : TypeId} {ps : Array (Nat × Operand)} {pl : List (Nat × Nat)} {z : V} {cs : List V} (ho : o.op = .build T ps) (hz : tyZero P T = some z) (hn : z.notAny = true) (hp : tyPlaces P T = some pl)
 (hf : fillV (pl[·]?) z.cells (partsV σ Γ ps.toList) = some cs) : SemV P Γ o σ (.agg cs) σ.ob σ.nm :=
 SemV.of_pure fun G a w hr => by
  obtain ⟨zv, h1, rfl⟩ := run_zero hz w
  have hc := (ofVal_rel G zv).cells (V.notAny_ne hn)
  obtain ⟨q1, q2⟩ := parts_rel hr ps.toList
  obtain ⟨c', g1, g2⟩ := fill_run _ _ _ _ _ hf hc q1 q2
  unfold tyPlaces at hp
  split at hp
  · rename_i fs hu
    have hpl := run_places hp w
    refine ⟨.agg c', ?_, VRel.mk_agg g2⟩
    have hm : (fs.mapM (m := Sem) fun f => do pure (f.offset, ← sizeOf f.type)).run P w = .ok pl.toArray w := by
     rw [Array.mapM_eq_mapM_toList]
     simp only [Sem.run_map, hpl, Result.andThen_ok]
    have hm2 : (ps.map fun (x : Nat × Operand) => (x.1, a.eval x.2)).toList = ps.toList.map fun (x : Nat × Operand) => (x.1, a.eval x.2) := by simp
    have g1' : Instr.fill (fun x => (pl.toArray)[x]?) zv.cells (ps.map fun (x : Nat × Operand) => (x.1, a.eval x.2)).toList = some c' := by rw [hm2]; simpa using g1
    simp only [execOp, ho, Instr.build, Sem.run_bind, h1, Result.andThen_ok, run_underlying hu, hm]
    rw [g1']
    simp
  · cases hp
theorem SemV.build_array {o : Oper} {T e : TypeId} {n sz : Nat} {ps : Array (Nat × Operand)} {z : V} {cs : List V} (ho : o.op = .build T ps) (hz : tyZero P T = some z) (hn : z.notAny = true) (ht : tyElem P T = some (some n, e)) (hs : tySize P e = some sz)
 (hf : fillV (fun i => some (i * sz, sz)) z.cells (partsV σ Γ ps.toList) = some cs) : SemV P Γ o σ (.agg cs) σ.ob σ.nm :=
 SemV.of_pure fun G a w hr => by
  obtain ⟨zv, h1, rfl⟩ := run_zero hz w
  have hc := (ofVal_rel G zv).cells (V.notAny_ne hn)
  obtain ⟨q1, q2⟩ := parts_rel hr ps.toList
  obtain ⟨c', g1, g2⟩ := fill_run _ _ _ _ _ hf hc q1 q2
  refine ⟨.agg c', ?_, VRel.mk_agg g2⟩
  have hm2 : (ps.map fun (x : Nat × Operand) => (x.1, a.eval x.2)).toList = ps.toList.map fun (x : Nat × Operand) => (x.1, a.eval x.2) := by simp
  have g1' : Instr.fill (fun i => some (i * sz, sz)) zv.cells (ps.map fun (x : Nat × Operand) => (x.1, a.eval x.2)).toList = some c' := by rw [hm2]; exact g1
  simp only [execOp, ho, Instr.build, Sem.run_bind, h1, Result.andThen_ok, run_underlying (tyElem_array ht), run_sizeOf hs]
  rw [g1']
  simp
theorem flat_length {xs : List V} {sz : Nat} (h : ∀ x ∈ xs, x.cells.length = sz) : (flat xs).length = xs.length * sz := VRel.load.flat_length h
theorem flat_get {xs : List V} {sz : Nat} (h : ∀ x ∈ xs, x.cells.length = sz) {k : Nat} {x : V} (hx : xs[k]? = some x) (j : Nat) (v : V) (hj : x.cells[j]? = some v) : (flat xs)[k * sz + j]? = some v := VRel.load.flat_get h hx j v hj
theorem flat_append (xs ys : List V) : flat (xs ++ ys) = flat xs ++ flat ys := by simp [flat]
theorem flat_cons (x : V) (xs : List V) : flat (x :: xs) = x.cells ++ flat xs := by simp [flat]
theorem flat_set {sz : Nat} : ∀ {xs : List V} (h : ∀ x ∈ xs, x.cells.length = sz) {v : V} (hv : v.cells.length = sz) (i : Nat), i < xs.length → flat (xs.set i v) = splice (flat xs) (i * sz) v.cells
 | [], h, v, hv, i, hi => by simp at hi
 | x :: xs, h, v, hv, 0, hi => by
  simp [flat_cons, splice, hv, ← h x (by simp)]
 | x :: xs, h, v, hv, i + 1, hi => by
  have ih := flat_set (xs := xs) (fun y hy => h y (by simp [hy])) hv i (by simpa using hi)
  have hx := h x (by simp)
  simp only [List.set_cons_succ, flat_cons, ih, splice]
  have e1 : (x.cells ++ flat xs).take ((i + 1) * sz) = x.cells ++ (flat xs).take (i * sz) := by
   rw [List.take_append, hx, Nat.succ_mul, List.take_of_length_le (by rw [hx]; omega)]
   congr 2
   omega
  have e2 : (x.cells ++ flat xs).drop ((i + 1) * sz + v.cells.length) = (flat xs).drop (i * sz + v.cells.length) := by
   rw [List.drop_append, hx, Nat.succ_mul, List.drop_of_length_le (by rw [hx]; omega)]
   simp
   congr 1
   omega
  rw [e1, e2]
  simp
def fillE (sz : Nat) : List V → List (Nat × V) → Option (List V)
 | xs, [] => some xs
 | xs, (i, v) :: rest => if v.notAny ∧ v.cells.length = sz ∧ i < xs.length then fillE sz (xs.set i v) rest else none
theorem fillE_fillV {sz : Nat} : ∀ (parts : List (Nat × V)) (xs xs' : List V), (∀ x ∈ xs, x.cells.length = sz) → fillE sz xs parts = some xs' →
 fillV (fun i => some (i * sz, sz)) (flat xs) parts = some (flat xs') ∧ (∀ x ∈ xs', x.cells.length = sz) ∧ xs'.length = xs.length
 | [], xs, xs', h, hf => by simp [fillE] at hf; subst hf; exact ⟨rfl, h, rfl⟩
 | (i, v) :: rest, xs, xs', h, hf => by
  simp only [fillE] at hf
  split at hf
  · rename_i hc
    obtain ⟨h1, h2, h3⟩ := hc
    have hset : ∀ x ∈ xs.set i v, x.cells.length = sz := fun x hx => by
     rcases List.mem_or_eq_of_mem_set hx with hx | rfl
     · exact h x hx
     · exact h2
    obtain ⟨g1, g2, g3⟩ := fillE_fillV rest _ _ hset hf
    refine ⟨?_, g2, by simpa using g3⟩
    simp only [fillV]
    rw [if_pos ⟨h1, h2, by rw [flat_length h, ← Nat.succ_mul]; exact Nat.mul_le_mul_right _ h3⟩, ← flat_set h h2 i h3]
    exact g1
  · cases hf
theorem flat_replicate_get (x : V) (sz : Nat) (hx : x.cells.length = sz) : ∀ (n j : Nat), j < n * sz → (flat (List.replicate n x))[j]? = x.cells[j % sz]?
 | 0, j, h => by simp at h
 | n + 1, j, h => by
  rw [List.replicate_succ, flat_cons]
  by_cases hj : j < sz
  · rw [List.getElem?_append_left (by omega), Nat.mod_eq_of_lt hj]
  · rw [List.getElem?_append_right (by omega), hx, flat_replicate_get x sz hx n (j - sz) (by rw [Nat.succ_mul] at h; omega)]
    congr 1
    exact (Nat.mod_eq_sub_mod (by omega)).symm
theorem zeros_rel {z : Value} {x : V} {sz : Nat} (h : Rels G x.cells z.cells.toList) (hx : x.cells.length = sz) (n : Nat) : Rels G (flat (List.replicate n x)) ((Array.range (n * sz)).map (z.cells[· % z.cells.size]!)).toList := by
 have hzs : z.cells.size = sz := by have := h.1; simp at this; omega
 have hfl := flat_length (xs := List.replicate n x) (sz := sz) (fun y hy => (congrArg (fun q : V => q.cells.length) (List.eq_of_mem_replicate hy)).trans hx)
 refine ⟨by simp [hfl], fun j v cv h1 h2 => ?_⟩
 simp only [Array.toList_map, Array.toList_range, List.getElem?_map] at h2
 by_cases hj : j < n * sz
 · rw [flat_replicate_get x sz hx n j hj] at h1
   rw [List.getElem?_range hj] at h2
   simp only [Option.map_some, Option.some.injEq, hzs] at h2
   subst h2
   have hpos : 0 < sz := by
    rcases Nat.eq_zero_or_pos sz with h0 | h0
    · subst h0; simp at hj
    · exact h0
   have hlt : j % sz < z.cells.size := by rw [hzs]; exact Nat.mod_lt _ hpos
   rw [getElem!_pos z.cells (j % sz) hlt]
   exact h.2 _ v _ h1 (by rw [Array.getElem?_toList, Array.getElem?_eq_getElem hlt])
 · rw [List.getElem?_eq_none (by simp; omega)] at h2
   cases h2
theorem VRel.new_list {xs : List V} {sz : Nat} {c : Array Value} {b : Nat} (h1 : ∀ x ∈ xs, x.cells.length = sz) (h2 : Rels G (flat xs) c.toList) (hm : ∀ off, G.M b off = c[off]?) (t : Tag) (cap : Nat) (hc : xs.length ≤ cap) (ht : TagOk G xs.length b 0 cap sz t) :
 VRel G (.lst t xs) (.slice (some ⟨b, 0, none⟩) xs.length cap) :=
 .lst (cvs := c.toList) h1 h2.1 (fun j cv h => by rw [Nat.zero_add, hm]; simpa using h) h2.2 hc ht
theorem SemV.buildSlice {o : Oper} {T e : TypeId} {len sz : Nat} {ps : Array (Nat × Operand)} {z : V} {xs : List V} (ho : o.op = .buildSlice T len ps) (ht : tyElem P T = some (none, e)) (hs : tySize P e = some sz) (h24 : ¬ len * sz > 2 ^ 24)
 (hz : tyZero P e = some z) (hn : z.notAny = true) (hzs : z.cells.length = sz) (hf : fillE sz (List.replicate len z) (partsV σ Γ ps.toList) = some xs) : SemV P Γ o σ (.lst .full xs) σ.ob σ.nm :=
 SemV.of_val (ob' := σ.ob) (nm' := σ.nm) fun G a w hr => by
  obtain ⟨zv, h1, rfl⟩ := run_zero hz w
  have hc := (ofVal_rel G zv).cells (V.notAny_ne hn)
  obtain ⟨g1, g2, g3⟩ := fillE_fillV _ _ _ (fun y hy => by rw [List.eq_of_mem_replicate hy]; exact hzs) hf
  obtain ⟨q1, q2⟩ := parts_rel hr ps.toList
  obtain ⟨c', g4, g5⟩ := fill_run _ _ _ _ _ g1 (zeros_rel hc hzs len) q1 q2
  obtain ⟨hle, hw⟩ := hr.wr.newRow c' e
  have hxl : xs.length = len := by simpa using g3
  refine ⟨.slice (some ⟨w.heap.size, 0, none⟩) len len, _, _, ?_, hle, ?_, hw⟩
  · have hm2 : (ps.map fun (x : Nat × Operand) => (x.1, a.eval x.2)).toList = ps.toList.map fun (x : Nat × Operand) => (x.1, a.eval x.2) := by simp
    have g4' : ∀ (zs : Array Value), zs = (Array.range (len * sz)).map (zv.cells[· % zv.cells.size]!) → Instr.fill (fun i => some (i * sz, sz)) zs (ps.map fun (x : Nat × Operand) => (x.1, a.eval x.2)).toList = some c' := fun zs e => by rw [e, hm2]; exact g4
    by_cases h0 : len * sz = 0
    · have g5' := g4' ((Array.range (len * sz)).map ((#[] : Array Value)[· % (#[] : Array Value).size]!)) (by simp [h0])
      simp only [execOp, ho, Instr.buildSlice, Sem.run_bind, run_underlying (tyElem_slice ht), Result.andThen_ok, run_sizeOf hs, h24, if_false, Sem.run_ite, h0, if_true, Sem.run_pure]
      simp only [h0] at g5'
      rw [g5']
      simp [Go.newRow, World.alloc_eq]
    · have g5' := g4' _ rfl
      simp only [execOp, ho, Instr.buildSlice, Sem.run_bind, run_underlying (tyElem_slice ht), Result.andThen_ok, run_sizeOf hs, h24, if_false, Sem.run_ite, h0, Sem.run_pure, h1]
      rw [g5']
      simp [Go.newRow, World.alloc_eq]
  · have := VRel.new_list (G := G.addM w.heap.size c') (t := .full) (cap := xs.length) g2 (g5.mono hle) (fun off => addM_new _ _ _ _) (Nat.le_refl _) rfl
    rw [hxl] at this
    exact this
end
end Go.Proofs.Ytofbchcclkejgaa

/- Calls: values without objects, the frame of a call, the entry of a body. -/
set_option linter.unusedVariables false
set_option linter.unusedSimpArgs false
namespace Go.Proofs.Ytofbchcclkejgaa
open Go
mutual
def V.cl (p : V → Option V) : V → Option V
 | .b x => some (.b x)
 | .i k n => some (.i k n)
 | .s x => some (.s x)
 | .sb x => some (.sb x)
 | .si k n => some (.si k n)
 | .ss x => some (.ss x)
 | .nil => some .nil
 | .ptr o off => p (.ptr o off)
 | .sl o off n => p (.sl o off n)
 | .bs sy n off len => p (.bs sy n off len)
 | .bp n j off => p (.bp n j off)
 | .slst t ty l => some (.slst t ty l)
 | .pel xs k off => match V.clL p xs with | some ys => some (.pel ys k off) | none => none
 | .lst t xs => match V.clL p xs with | some ys => some (.lst t ys) | none => none
 | .fn f a c => match V.clL p a, V.clL p c with | some x, some y => some (.fn f x y) | _, _ => none
 | .nilfn => some .nilfn
 | .ifc t x => match V.cl p x with | some y => some (.ifc t y) | none => none
 | .nilifc => some .nilifc
 | .agg cs => match V.clL p cs with | some ys => some (.agg ys) | none => none
 | .tup cs => match V.clL p cs with | some ys => some (.tup ys) | none => none
 | .yl tm ps as bd => p (.yl tm ps as bd)
 | .tp E n o => p (.tp E n o)
 | .nls => some .nls
 | .els => some .els
 | .any => some .any
def V.clL (p : V → Option V) : List V → Option (List V)
 | [] => some []
 | v :: vs => match V.cl p v, V.clL p vs with | some x, some ys => some (x :: ys) | _, _ => none
end
def noPtr (_ : V) : Option V := none
def V.clnL (l : List V) : Option (List V) := V.clL noPtr l
def lendB (p : V → Option V) : BC → Nat → Nat → Option V
 | .cs _ xs, off, len => match V.clL p xs with | some ys => some (.lst .ro ((ys.drop off).take len)) | none => none
 | .arr ty l, off, len => some (.slst .ro ty ((l.drop off).take len))
 | .u8 _ _ _, _, _ => none
def lendN (ob : Ob) (nm : Nm) : Nat → V → Option V
 | 0, _ => none
 | k + 1, v =>
  match v with
  | .ptr o off =>
   match ob[o]? with
   | some (some cs) => match V.clL (lendN ob nm k) cs with | some ys => some (.pel [.agg ys] 0 off) | none => none
   | _ => none
  | .bs sy n off len =>
   match nm[n]? with
   | some (some (.live c)) => lendB (lendN ob nm k) c off len
   | _ => none
  | _ => none
def lendP (ob : Ob) (nm : Nm) : V → Option V := lendN ob nm 3
def V.lndL (ob : Ob) (nm : Nm) (l : List V) : Option (List V) := V.clL (lendP ob nm) l
theorem clnL_len {p : V → Option V} : ∀ {xs ys : List V}, V.clL p xs = some ys → ys.length = xs.length
 | [], ys, h => by simp [V.clL] at h; subst h; rfl
 | x :: xs, ys, h => by
  simp only [V.clL] at h
  split at h
  · rename_i a b h1 h2; cases h; simp [clnL_len h2]
  · cases h
theorem clnL_get {p : V → Option V} : ∀ {xs ys : List V}, V.clL p xs = some ys → ∀ (j : Nat) (v' : V), ys[j]? = some v' → ∃ v, xs[j]? = some v ∧ v.cl p = some v'
 | [], ys, h, j, v', hj => by simp [V.clL] at h; subst h; simp at hj
 | x :: xs, ys, h, j, v', hj => by
  simp only [V.clL] at h
  split at h
  · rename_i a b h1 h2
    cases h
    cases j with
    | zero => simp at hj; subst hj; exact ⟨x, by simp, h1⟩
    | succ j => simp at hj; simpa using clnL_get h2 j v' hj
  · cases h
theorem clnL_append {p : V → Option V} : ∀ {xs ys zs ws : List V}, V.clL p xs = some ys → V.clL p zs = some ws → V.clL p (xs ++ zs) = some (ys ++ ws)
 | [], ys, zs, ws, h, k => by simp [V.clL] at h; subst h; simpa using k
 | x :: xs, ys, zs, ws, h, k => by
  simp only [V.clL] at h
  split at h
  · rename_i a b h1 h2
    cases h
    simp [V.clL, h1, clnL_append h2 k]
  · cases h
theorem cln_cells {p : V → Option V} (hp : ∀ u q, p u = some q → q.cells = [q]) {v v' : V} (h : v.cl p = some v') : V.clL p v.cells = some v'.cells := by
 cases v with
 | agg cs =>
  simp only [V.cl] at h
  split at h
  · rename_i ys hy; cases h; simpa [V.cells] using hy
  · cases h
 | ptr o off =>
  simp only [V.cl] at h
  rw [hp _ v' h]
  simp only [V.cells, V.clL, V.cl, h]
 | sl o off len =>
  simp only [V.cl] at h
  rw [hp _ v' h]
  simp only [V.cells, V.clL, V.cl, h]
 | bs sy n off len =>
  simp only [V.cl] at h
  rw [hp _ v' h]
  simp only [V.cells, V.clL, V.cl, h]
 | bp n j off =>
  simp only [V.cl] at h
  rw [hp _ v' h]
  simp only [V.cells, V.clL, V.cl, h]
 | yl tm ps as bd =>
  simp only [V.cl] at h
  rw [hp _ v' h]
  simp only [V.cells, V.clL, V.cl, h]
 | tp E n o =>
  simp only [V.cl] at h
  rw [hp _ v' h]
  simp only [V.cells, V.clL, V.cl, h]
 | _ =>
  have hc : v'.cells = [v'] := by
   simp only [V.cl] at h
   repeat' (split at h)
   all_goals first | (cases h; rfl) | cases h
  rw [hc]
  simp only [V.cells, V.clL, h]
theorem clnL_flat {p : V → Option V} (hp : ∀ u q, p u = some q → q.cells = [q]) : ∀ {xs ys : List V}, V.clL p xs = some ys → V.clL p (flat xs) = some (flat ys)
 | [], ys, h => by simp [V.clL] at h; subst h; rfl
 | x :: xs, ys, h => by
  simp only [V.clL] at h
  split at h
  · rename_i a b h1 h2
    cases h
    rw [flat_cons, flat_cons]
    exact clnL_append (cln_cells hp h1) (clnL_flat hp h2)
  · cases h
mutual
theorem Ty.cells_cl (p : V → Option V) : ∀ (t : Ty) (x : t.den), V.clL p (t.cells x) = some (t.cells x)
 | .bool, x => rfl
 | .int k, x => rfl
 | .str, x => rfl
 | .agg fs, x => Ty.cellss_cl p fs x
 | .slice e, x => by simp only [Ty.cells, V.clL, V.cl]
theorem Ty.cellss_cl (p : V → Option V) : ∀ (ts : List Ty) (x : Ty.dens ts), V.clL p (Ty.cellss ts x) = some (Ty.cellss ts x)
 | [], x => rfl
 | t :: ts, x => by simp only [Ty.cellss]; exact clnL_append (Ty.cells_cl p t x.1) (Ty.cellss_cl p ts x.2)
end
theorem Ty.val_cl (p : V → Option V) (t : Ty) (x : t.den) : (t.val x).cl p = some (t.val x) := by
 cases t with
 | agg fs => simp only [Ty.val, V.cl, Ty.cellss_cl p fs x]
 | _ => simp only [Ty.val, V.cl]
theorem Ty.map_cl (p : V → Option V) (t : Ty) : ∀ (l : List t.den), V.clL p (l.map t.val) = some (l.map t.val)
 | [] => rfl
 | x :: l => by simp only [List.map_cons, V.clL, Ty.val_cl, Ty.map_cl p t l]
theorem u8_cl (p : V → Option V) (sy : Bool) (E : TypeId) : ∀ (l : List Int), V.clL p (BC.u8 sy E l).els = some (BC.u8 sy E l).els
 | [] => rfl
 | x :: l => by
  have ih := u8_cl p sy E l
  simp only [BC.els] at ih
  cases sy <;> simp only [BC.els, List.map_cons, V.clL, V.cl, ih]
theorem VRel.cl {p : V → Option V} {G G' : Gh} (hp : ∀ u q, p u = some q → q.cells = [q]) (hM : ∀ b off cv, G.M b off = some cv → G'.M b off = some cv) (hpr : ∀ u q cu, VRel G u cu → p u = some q → VRel G' q cu)
 {v : V} {cv : Value} (h : VRel G v cv) : ∀ {v' : V}, v.cl p = some v' → VRel G' v' cv := by
 induction h with
 | b x => intro v' h; simp [V.cl] at h; subst h; exact .b x
 | i k n => intro v' h; simp [V.cl] at h; subst h; exact .i k n
 | s x => intro v' h; simp [V.cl] at h; subst h; exact .s x
 | sb x => intro v' h; simp [V.cl] at h; subst h; exact .sb x
 | si k n => intro v' h; simp [V.cl] at h; subst h; exact .si k n
 | ss x => intro v' h; simp [V.cl] at h; subst h; exact .ss x
 | nil => intro v' h; simp [V.cl] at h; subst h; exact .nil
 | ptr h => intro v' h'; simp only [V.cl] at h'; exact hpr _ _ _ (.ptr h) h'
 | sl h hc => intro v' h'; simp only [V.cl] at h'; exact hpr _ _ _ (.sl h hc) h'
 | bs0 sy n off => intro v' h'; simp only [V.cl] at h'; exact hpr _ _ _ (.bs0 sy n off) h'
 | bs1 sy n off a => intro v' h'; simp only [V.cl] at h'; exact hpr _ _ _ (.bs1 sy n off a) h'
 | bs h hl => intro v' h'; simp only [V.cl] at h'; exact hpr _ _ _ (.bs h hl) h'
 | bp h => intro v' h'; simp only [V.cl] at h'; exact hpr _ _ _ (.bp h) h'
 | yl h hs hl ht ih => intro v' h'; simp only [V.cl] at h'; exact hpr _ _ _ (.yl h hs hl ht) h'
 | tp h hd => intro v' h'; simp only [V.cl] at h'; exact hpr _ _ _ (.tp h hd) h'
 | nls => intro v' h; simp [V.cl] at h; subst h; exact .nls
 | els a c => intro v' h; simp [V.cl] at h; subst h; exact .els a c
 | slst h ih =>
  intro v' h'
  simp only [V.cl] at h'
  cases h'
  exact .slst (ih (by simp only [V.cl, Ty.map_cl]))
 | nilfn => intro v' h; simp [V.cl] at h; subst h; exact .nilfn
 | nilifc => intro v' h; simp [V.cl] at h; subst h; exact .nilifc
 | any v => intro v' h; simp [V.cl] at h; subst h; exact .any v
 | ifc h ih =>
  intro v' h
  simp only [V.cl] at h
  split at h
  · rename_i y hy; cases h; exact .ifc (ih hy)
  · cases h
 | lst0 t p =>
  intro v' h
  simp [V.cl, V.clL] at h
  subst h
  exact .lst0 _ _
 | lst1 p cap =>
  intro v' h
  simp [V.cl, V.clL] at h
  subst h
  exact .lst1 _ _
 | @lst t xs b off cap sz cvs hsz hl hm hv hc ht ih =>
  intro v' h
  simp only [V.cl] at h
  split at h
  · rename_i ys hy
    cases h
    have hlen := clnL_len hy
    have hf := clnL_flat hp hy
    rw [← hlen]
    refine .lst (sz := sz) (cvs := cvs) (fun x hx => ?_) (by rw [hl, clnL_len hf]) (fun j cv h => hM _ _ _ (hm j cv h)) (fun j v cv h1 h2 => ?_) (by omega) ?_
    · obtain ⟨j, hj⟩ := List.getElem?_of_mem hx
      obtain ⟨z, hz, hcz⟩ := clnL_get hy j x hj
      rw [clnL_len (cln_cells hp hcz)]
      exact hsz z (List.mem_of_getElem? hz)
    · obtain ⟨z, hz, hcz⟩ := clnL_get hf j v h1
      exact ih j z cv hz h2 hcz
    · cases t with
      | ro => trivial
      | full => simp only [TagOk] at ht ⊢; omega
  · cases h
 | @pel xs k off b o0 sz cvs hsz hl hm hv ih =>
  intro v' h
  simp only [V.cl] at h
  split at h
  · rename_i ys hy
    cases h
    have hf := clnL_flat hp hy
    refine .pel (sz := sz) (cvs := cvs) (fun x hx => ?_) (by rw [hl, clnL_len hf]) (fun j cv h => hM _ _ _ (hm j cv h)) (fun j v cv h1 h2 => ?_)
    · obtain ⟨j, hj⟩ := List.getElem?_of_mem hx
      obtain ⟨z, hz, hcz⟩ := clnL_get hy j x hj
      rw [clnL_len (cln_cells hp hcz)]
      exact hsz z (List.mem_of_getElem? hz)
    · obtain ⟨z, hz, hcz⟩ := clnL_get hf j v h1
      exact ih j z cv hz h2 hcz
  · cases h
 | @fn f xs ys a c ha hc h1 h2 i1 i2 =>
  intro v' h
  simp only [V.cl] at h
  split at h
  · rename_i x y hx hy
    cases h
    refine .fn (by rw [ha, clnL_len hx]) (by rw [hc, clnL_len hy]) (fun j v cv g1 g2 => ?_) (fun j v cv g1 g2 => ?_)
    · obtain ⟨z, hz, hcz⟩ := clnL_get hx j v g1
      exact i1 j z cv hz g2 hcz
    · obtain ⟨z, hz, hcz⟩ := clnL_get hy j v g1
      exact i2 j z cv hz g2 hcz
  · cases h
 | @agg cs c hl h1 ih =>
  intro v' h
  simp only [V.cl] at h
  split at h
  · rename_i ys hy
    cases h
    refine .agg (by rw [hl, clnL_len hy]) (fun j v cv g1 g2 => ?_)
    obtain ⟨z, hz, hcz⟩ := clnL_get hy j v g1
    exact ih j z cv hz g2 hcz
  · cases h
 | @tup cs c hl h1 ih =>
  intro v' h
  simp only [V.cl] at h
  split at h
  · rename_i ys hy
    cases h
    refine .tup (by rw [hl, clnL_len hy]) (fun j v cv g1 g2 => ?_)
    obtain ⟨z, hz, hcz⟩ := clnL_get hy j v g1
    exact ih j z cv hz g2 hcz
  · cases h
theorem noP {u : V} {q : V} {α : Prop} (h : noPtr u = some q) : α := by cases h
theorem Rels.cl {p : V → Option V} {G G' : Gh} (hp : ∀ u q, p u = some q → q.cells = [q]) (hM : ∀ b off cv, G.M b off = some cv → G'.M b off = some cv) (hpr : ∀ u q cu, VRel G u cu → p u = some q → VRel G' q cu)
 {vs vs' : List V} {cvs : List Value} (h : Rels G vs cvs) (hc : V.clL p vs = some vs') : Rels G' vs' cvs :=
 ⟨by rw [h.1, clnL_len hc], fun j v cv h1 h2 => by
  obtain ⟨z, hz, hcz⟩ := clnL_get hc j v h1
  exact VRel.cl hp hM hpr (h.2 j z cv hz h2) hcz⟩
theorem Rels.clean {G : Gh} {vs vs' : List V} {cvs : List Value} (h : Rels G vs cvs) (hc : V.clnL vs = some vs') : Rels G.bare vs' cvs :=
 Rels.cl (p := noPtr) (G := G) (G' := G.bare) (fun _ _ h => noP h) (fun _ _ _ h => h) (fun _ _ _ _ h => noP h) h hc
def V.sc : V → Bool
 | .b _ | .i _ _ | .s _ | .sb _ | .si _ _ | .ss _ | .nil | .nilfn | .nilifc => true
 | _ => false
theorem VRel.sc {G : Gh} (G' : Gh) {v : V} {cv : Value} (h : VRel G v cv) (hs : v.sc = true) : VRel G' v cv := by
 cases h <;> first | (simp [V.sc] at hs; done) | constructor
theorem VRel.agg_sc {G : Gh} (G' : Gh) {cs : List V} {cv : Value} (h : VRel G (.agg cs) cv) (hs : cs.all V.sc = true) : VRel G' (.agg cs) cv := by
 obtain ⟨c, rfl, hc⟩ := h.agg_form
 refine VRel.mk_agg ⟨hc.1, fun j v cv h1 h2 => (hc.2 j v cv h1 h2).sc G' ?_⟩
 exact List.all_eq_true.1 hs v (List.mem_of_getElem? h1)
def V.flt : V → Bool
 | .agg cs => cs.all V.sc
 | .tup cs => cs.all fun c => match c with | .agg ds => ds.all V.sc | c => c.sc
 | v => v.sc
theorem VRel.flt {G : Gh} (G' : Gh) {v : V} {cv : Value} (h : VRel G v cv) (hs : v.flt = true) : VRel G' v cv := by
 cases v with
 | agg cs => exact h.agg_sc G' hs
 | tup cs =>
  cases h
  rename_i c hl hh
  refine .tup hl fun j v cv h1 h2 => ?_
  have := hh j v cv h1 h2
  have hv := List.all_eq_true.1 hs v (List.mem_of_getElem? h1)
  cases v with
  | agg ds => exact this.agg_sc G' hv
  | _ => exact this.sc G' hv
 | _ => exact h.sc G' hs
section
variable {P : Program} {Γ : Nat → Option V} {G : Gh} {ob : Ob} {nm : Nm} {w : World} {σ : St}
theorem SemF.frame {f : FuncId} {args args' : List V} {res : V} (h : SemF P Γ f args' [] [] res [] []) (hc : V.clnL args = some args') (ob : Ob) (nm : Nm) : SemF P Γ f args ob nm res ob nm := by
 intro G w cargs hw hr
 let G0 : Gh := { M := G.M, H := fun _ => none, T := fun _ => none, D := fun _ => none, kh := 0, kt := 0, w0 := .of w, M0 := G.M, kd := 0 }
 have hb0 : G.bare.sub G0 := ⟨fun _ _ _ h => h, (fun _ _ h => by cases h), (fun _ _ h => by cases h), (fun _ _ h => by cases h)⟩
 have hw0 : WRel Γ G0 [] [] w := {
  m := hw.m
  hob := fun o cs b h1 h2 => by simp at h1
  hlt := fun o b h1 => by cases h1
  habs := fun o h1 => rfl
  inj := fun o o' b h1 h2 => by cases h1
  hnm := fun n c x h1 h2 => by simp at h1
  hno := fun n c h1 => by simp at h1
  nmd := fun n n' c c' x x' _ h1 => by simp at h1
  tabs := fun n _ => rfl
  tlt := fun n t h1 => by cases h1
  dd := fun l o h => by cases h
  kdle := Nat.zero_le _
  gl := fun g v hg => (hw.gl g v hg).mono' hb0.bare
  mold := fun b off _ => rfl
  os := rfl
  tape := rfl
  output := rfl
  size := Nat.le_refl _
  block := fun k _ => rfl }
 refine (h G0 w cargs hw0 ((hr.clean hc).mono' hb0)).mono ?_
 rintro e w' ⟨cv, G1, rfl, hle, hv, hw1⟩
 have hH : ∀ o b, G1.H o ≠ some b := fun o b hh => by have := (hw1.hlt o b hh).1; simp at this
 have hT : ∀ n t, G1.T n ≠ some t := fun n t hh => by have := hw1.tlt n t hh; simp at this
 have hw0e : G1.w0 = .of w := hle.w0
 have hm0e : G1.M0 = G.M := hle.m0
 let G2 : Gh := { M := G1.M, H := G.H, T := G.T, D := fun l => match G.D l with | some o => some o | none => G1.D l, kh := G.kh, kt := G.kt, w0 := G.w0, M0 := G.M0, kd := G.kd }
 have hblk : ∀ k, k < w.heap.size → w'.heap[k]? = w.heap[k]? := fun k hk => by
  have := hw1.block k (by rw [hw0e]; exact W0.not_of hk)
  rwa [hw0e] at this
 have hs : G1.sub G2 := ⟨fun _ _ _ h => h, fun o b hh => absurd hh (hH o b), fun n t hh => absurd hh (hT n t), fun l o hl => by
  show (match G.D l with | some o => some o | none => G1.D l) = _
  cases hg : G.D l with
  | none => exact hl
  | some q => exact congrArg some (((hw.dd l q hg).1.to (hblk l (hw.dlt hg))).inj (hw1.dd l o hl).1)⟩
 have hle2 : G.le G2 := ⟨⟨hle.m, fun _ _ h => h, fun _ _ h => h, fun l o hl => by
  show (match G.D l with | some o => some o | none => G1.D l) = _
  rw [hl]⟩, rfl, rfl, rfl, rfl, rfl⟩
 have hmo : ∀ b off, b < w.heap.size → G1.M b off = G.M b off := fun b off hb => by
  have := hw1.mold b off (by rw [hw0e]; exact W0.not_of hb)
  rwa [hm0e] at this
 have hsz : w.heap.size ≤ w'.heap.size := by have := hw1.size; rwa [hw0e] at this
 refine ⟨cv, G2, rfl, hle2, hv.mono' hs, ?_⟩
 exact {
  m := hw1.m
  hob := fun o cs b h1 h2 => by
   obtain ⟨q1, ⟨q2, q3, q4, q5, q6, q7, q8⟩, q9⟩ := hw.hob o cs b h1 h2
   have hlt := (hw.hlt o b h2).2
   exact ⟨q1, ⟨q2, q3, q4, by rw [hblk b hlt]; exact q5, q6, q7, q8.mono hle2⟩, fun off => by show G1.M b off = none; rw [hmo b off hlt]; exact q9 off⟩
  hlt := fun o b h1 => ⟨(hw.hlt o b h1).1, Nat.lt_of_lt_of_le (hw.hlt o b h1).2 hsz⟩
  habs := hw.habs
  inj := hw.inj
  hnm := fun n c x h1 h2 => (hw.hnm n c x h1 h2).to (hblk _ (hw.hnm n c x h1 h2).lt) (fun _ _ h => h.mono hle2) (fun _ h => h) (fun off h => by show G1.M x.b off = none; rw [hmo _ off (hw.hnm n c x h1 h2).lt]; exact h) (hw.hnm n c x h1 h2).obj
  hno := hw.hno
  nmd := hw.nmd
  tabs := hw.tabs
  tlt := hw.tlt
  dd := fun l o hl => by
   have hl : (match G.D l with | some o => some o | none => G1.D l) = some o := hl
   cases hg : G.D l with
   | some q =>
    rw [hg] at hl
    cases hl
    have hd := hw.dd l _ hg
    exact ⟨hd.1.to (hblk l (hw.dlt hg)), hd.2⟩
   | none =>
    rw [hg] at hl
    have hd := hw1.dd l _ hl
    exact ⟨hd.1, fun hc => .inl (Nat.le_trans hw.size (W0.own_of (by have := hd.2 hc; rwa [hw0e] at this)))⟩
  kdle := Nat.le_trans hw.kdle hsz
  gl := fun g v hg => (hw.gl g v hg).mono' (hle2.toSub.bare)
  mold := fun b off hb => by
   show G1.M b off = G.M0 b off
   rw [hmo b off (Nat.lt_of_lt_of_le (W0.own_lt hb) hw.size)]
   exact hw.mold b off hb
  os := by have := hw1.os; rw [hw0e] at this; exact this.trans hw.os
  tape := by have := hw1.tape; rw [hw0e] at this; exact this.trans hw.tape
  output := by have := hw1.output; rw [hw0e] at this; exact this.trans hw.output
  size := Nat.le_trans hw.size hsz
  block := fun k hk => (hblk k (Nat.lt_of_lt_of_le (W0.own_lt hk) hw.size)).trans (hw.block k hk) }
theorem lendB_cell (p : V → Option V) (c : BC) (off len : Nat) (q : V) (h : lendB p c off len = some q) : q.cells = [q] := by
 cases c with
 | cs sz xs =>
  simp only [lendB] at h
  split at h
  · cases h; rfl
  · cases h
 | arr ty l => simp only [lendB] at h; cases h; rfl
 | u8 sy E l => cases h
theorem lendN_cell (ob : Ob) (nm : Nm) : ∀ (k : Nat) (u q : V), lendN ob nm k u = some q → q.cells = [q]
 | 0, u, q, h => by cases h
 | k + 1, u, q, h => by
  simp only [lendN] at h
  split at h
  · split at h
    · split at h
      · cases h; rfl
      · cases h
    · cases h
  · split at h
    · exact lendB_cell _ _ _ _ _ h
    · cases h
  · cases h
theorem lendP_cell (ob : Ob) (nm : Nm) : ∀ u q, lendP ob nm u = some q → q.cells = [q] := lendN_cell ob nm 3
theorem flat_take_drop {sz : Nat} {xs : List V} (h : ∀ x ∈ xs, x.cells.length = sz) (off len : Nat) : flat ((xs.drop off).take len) = ((flat xs).drop (off * sz)).take (len * sz) := by
 have h1 : ∀ (xs : List V) (off : Nat), (∀ x ∈ xs, x.cells.length = sz) → flat (xs.drop off) = (flat xs).drop (off * sz) := by
  intro xs
  induction xs with
  | nil => intro off _; simp [flat]
  | cons x xs ih =>
   intro off hx
   cases off with
   | zero => simp
   | succ off =>
    have hc := hx x (by simp)
    have e1 : x.cells.drop (off * sz + sz) = [] := List.drop_eq_nil_of_le (by omega)
    rw [List.drop_succ_cons, ih off (fun y hy => hx y (by simp [hy])), flat_cons, List.drop_append, Nat.succ_mul, e1, List.nil_append, hc, Nat.add_sub_cancel]
 have h2 : ∀ (xs : List V) (len : Nat), (∀ x ∈ xs, x.cells.length = sz) → flat (xs.take len) = (flat xs).take (len * sz) := by
  intro xs
  induction xs with
  | nil => intro len _; simp [flat]
  | cons x xs ih =>
   intro len hx
   cases len with
   | zero => simp [flat]
   | succ len =>
    have hc := hx x (by simp)
    have e1 : x.cells.take (len * sz + sz) = x.cells := List.take_of_length_le (by omega)
    rw [List.take_succ_cons, flat_cons, ih len (fun y hy => hx y (by simp [hy])), flat_cons, List.take_append, Nat.succ_mul, e1, hc, Nat.add_sub_cancel]
 rw [h2 _ _ (fun x hx => h x (List.mem_of_mem_drop hx)), h1 _ _ h]
theorem lend_list {G' : Gh} {x : Tail} {xs ys : List V} {sz off len : Nat} {cvs : Array Value} (hsz : ∀ v ∈ xs, v.cells.length = sz) (hx : x.sz = sz) (hl : off + len ≤ xs.length) (hc : off + len ≤ x.cap)
 (hy : ys.length = xs.length) (hysz : ∀ v ∈ ys, v.cells.length = sz) (hr : Rels G' (flat ys) ((cvs.toList.drop x.lo).take (flat ys).length)) (hm : ∀ j, j < (flat ys).length → G'.M x.b (x.lo + j) = cvs[x.lo + j]?) :
 VRel G' (.lst .ro ((ys.drop off).take len)) (.slice (some ⟨x.b, x.lo + off * x.sz, none⟩) len (x.cap - off)) := by
 · have hl2 : ((ys.drop off).take len).length = len := by simp; omega
   have hfl := flat_length hysz
   have e := flat_take_drop hysz off len
   have key : VRel G' (.lst .ro ((ys.drop off).take len)) (.slice (some ⟨x.b, x.lo + off * x.sz, none⟩) ((ys.drop off).take len).length (x.cap - off)) := by
    refine VRel.lst (sz := sz) (cvs := ((((cvs.toList.drop x.lo).take (flat ys).length).drop (off * sz)).take (len * sz))) (fun v hv => hysz v (List.mem_of_mem_drop (List.mem_of_mem_take hv))) ?_ ?_ ?_ (by rw [hl2]; omega) trivial
    · rw [e]
      have := hr.1
      simp only [List.length_take, List.length_drop] at this ⊢
      omega
    · intro j cv hj
      rw [List.getElem?_take, List.getElem?_drop, List.getElem?_take] at hj
      split at hj
      · split at hj
        · rename_i h1 h2
          rw [hx, Nat.add_assoc, hm _ h2]
          rw [List.getElem?_drop] at hj
          simpa using hj
        · cases hj
      · cases hj
    · intro j v cv h1 h2
      rw [e] at h1
      exact ((hr.drop (off * sz)).take (len * sz)).2 j v cv h1 h2
   rw [hl2] at key
   exact key
def Lent (G : Gh) (ob : Ob) (nm : Nm) (b : Nat) : Prop := (∃ o cs, ob[o]? = some (some cs) ∧ G.H o = some b) ∨ ∃ n c x, nm[n]? = some (some (.live c)) ∧ G.T n = some x ∧ x.b = b
theorem lendN_rel {G0 : Gh} (hw : WRel Γ G ob nm w) (hM0 : ∀ b, Lent G ob nm b → ∀ off, G0.M b off = w.cell? ⟨b, off, none⟩) (hb0 : G.bare.sub G0) : ∀ (k : Nat) (u q : V) (cu : Value), VRel G u cu → lendN ob nm k u = some q → VRel G0 q cu := by
 intro k
 induction k with
 | zero => intro u q cu hu hq; cases hq
 | succ k ih =>
 intro u q cu hu hq
 have hMM : ∀ b off cv, G.M b off = some cv → G0.M b off = some cv := hb0.m
 simp only [lendN] at hq
 split at hq
 · rename_i o off
   split at hq
   · rename_i cs hcs
     split at hq
     · rename_i ys hys
       cases hq
       cases hu
       rename_i b hH
       obtain ⟨_, ⟨c, E, fr, e1, e2, e3, e4⟩, _⟩ := hw.hob o cs b hcs hH
       have e5 : Rels G0 ys (c.toList.take cs.length) := Rels.cl (lendN_cell ob nm k) hMM ih e4 hys
       have hM1 : ∀ off, G0.M b off = w.cell? ⟨b, off, none⟩ := hM0 b (.inl ⟨o, cs, hcs, hH⟩)
       have := VRel.pel (G := G0) (xs := [.agg ys]) (k := 0) (off := off) (b := b) (o0 := 0) (sz := ys.length) (cvs := c.toList.take cs.length)
        (by simp [V.cells]) (by simpa [flat, V.cells] using e5.1) (fun j cv hj => by
         rw [hM1, Nat.zero_add, cell_row e1]
         rw [List.getElem?_take] at hj
         split at hj
         · simpa using hj
         · cases hj) (fun j v cv q1 q2 => e5.2 j v cv (by simpa [flat, V.cells] using q1) q2)
       simpa using this
     · cases hq
   · cases hq
 · rename_i sy n off len
   split at hq
   · rename_i c hcn
     cases hu with
     | bs0 =>
      cases c with
      | cs sz xs =>
       simp only [lendB] at hq
       split at hq
       · cases hq; simp only [List.take_zero]; exact .lst0 _ _
       · cases hq
      | arr ty l => simp only [lendB] at hq; cases hq; refine .slst ?_; simp only [List.take_zero, List.map_nil]; exact .lst0 _ _
      | u8 sy E l => cases hq
     | bs1 =>
      have nil1 : ∀ (a : Addr), VRel G0 (.lst .ro []) (.slice (some a) 0 0) := fun a => .lst0 _ _
      cases c with
      | cs sz xs =>
       simp only [lendB] at hq
       split at hq
       · cases hq; simp only [List.take_zero]; exact nil1 _
       · cases hq
      | arr ty l => simp only [lendB] at hq; cases hq; refine .slst ?_; simp only [List.take_zero, List.map_nil]; exact nil1 _
      | u8 sy E l => cases hq
     | @bs _ _ _ _ x hT hl =>
      have B := hw.hnm n c x hcn hT
      obtain ⟨cvs, E, fr, e1, e2, e3, e4⟩ := B.row
      have hM1 : ∀ off, G0.M x.b off = cvs[off]? := fun off => (hM0 x.b (.inr ⟨n, c, x, hcn, hT, rfl⟩) off).trans (cell_row e1)
      have hcl := B.len
      have hcap := B.cap
      cases c with
      | cs sz xs =>
       simp only [lendB] at hq
       split at hq
       · rename_i ys hys
         cases hq
         have e5 : Rels G0 (flat ys) ((cvs.toList.drop x.lo).take (flat ys).length) := by
          have := Rels.cl (lendN_cell ob nm k) hMM ih e4 (clnL_flat (lendN_cell ob nm k) hys)
          rwa [clnL_len (clnL_flat (lendN_cell ob nm k) hys)]
         simp only [BC.len] at hcl
         refine lend_list (sz := sz) (xs := xs) B.el B.sz (by omega) (by omega) (clnL_len hys) (fun v hv => ?_) e5 (fun j _ => hM1 _)
         obtain ⟨j, hj⟩ := List.getElem?_of_mem hv
         obtain ⟨z, hz, hcz⟩ := clnL_get hys j v hj
         rw [clnL_len (cln_cells (lendN_cell ob nm k) hcz)]
         exact B.el z (List.mem_of_getElem? hz)
       · cases hq
      | arr ty l =>
       simp only [lendB] at hq
       cases hq
       have hys : V.clnL (l.map ty.val) = some (l.map ty.val) := Ty.map_cl noPtr ty l
       have e5 : Rels G0 (flat (l.map ty.val)) ((cvs.toList.drop x.lo).take (flat (l.map ty.val)).length) := (e4.clean (clnL_flat (p := noPtr) (fun _ _ h => noP h) hys)).mono' hb0
       simp only [BC.len] at hcl
       refine .slst ?_
       rw [List.map_take, List.map_drop]
       exact lend_list (sz := ty.size) (xs := l.map ty.val) B.el B.sz (by simp; omega) (by omega) rfl B.el e5 (fun j _ => hM1 _)
      | u8 sy E l => cases hq
   · cases hq
 · cases hq
theorem lendP_rel {G0 : Gh} (hw : WRel Γ G ob nm w) (hM0 : ∀ b, Lent G ob nm b → ∀ off, G0.M b off = w.cell? ⟨b, off, none⟩) (hb0 : G.bare.sub G0) (u q : V) (cu : Value) (hu : VRel G u cu) (hq : lendP ob nm u = some q) : VRel G0 q cu := lendN_rel hw hM0 hb0 3 u q cu hu hq
open Classical in
theorem SemF.lend {f : FuncId} {args args' : List V} {res : V} (h : SemF P Γ f args' [] [] res [] []) (hc : V.lndL ob nm args = some args') (hf : res.flt = true) : SemF P Γ f args ob nm res ob nm := by
 intro G w cargs hw hr
 let M1 : Nat → Nat → Option Value := fun b off => if Lent G ob nm b then w.cell? ⟨b, off, none⟩ else G.M b off
 have hM : ∀ b off cv, G.M b off = some cv → M1 b off = some cv := fun b off cv hm => by
  show (if _ then _ else _) = _
  split
  · exact hw.m b off cv hm
  · exact hm
 let G0 : Gh := { M := M1, H := fun _ => none, T := fun _ => none, D := fun _ => none, kh := 0, kt := 0, w0 := .of w, M0 := M1, kd := 0 }
 have hb0 : G.bare.sub G0 := ⟨hM, (fun _ _ h => by cases h), (fun _ _ h => by cases h), (fun _ _ h => by cases h)⟩
 have hw0 : WRel Γ G0 [] [] w := {
  m := fun b off cv hm => by
   have hm : (if Lent G ob nm b then w.cell? ⟨b, off, none⟩ else G.M b off) = some cv := hm
   split at hm
   · exact hm
   · exact hw.m b off cv hm
  hob := fun o cs b h1 h2 => by simp at h1
  hlt := fun o b h1 => by cases h1
  habs := fun o h1 => rfl
  inj := fun o o' b h1 h2 => by cases h1
  hnm := fun n c x h1 h2 => by simp at h1
  hno := fun n c h1 => by simp at h1
  nmd := fun n n' c c' x x' _ h1 => by simp at h1
  tabs := fun n _ => rfl
  tlt := fun n t h1 => by cases h1
  dd := fun l o h => by cases h
  kdle := Nat.zero_le _
  gl := fun g v hg => (hw.gl g v hg).mono' hb0.bare
  mold := fun b off _ => rfl
  os := rfl
  tape := rfl
  output := rfl
  size := Nat.le_refl _
  block := fun k _ => rfl }
 have hargs : Rels G0 args' cargs := Rels.cl (G' := G0) (lendP_cell ob nm) hM (lendP_rel hw (fun b hb off => if_pos hb) hb0) hr hc
 refine (h G0 w cargs hw0 hargs).mono ?_
 rintro e w' ⟨cv, G1, rfl, hle, hv, hw1⟩
 have hw0e : G1.w0 = .of w := hle.w0
 have hblk : ∀ k, k < w.heap.size → w'.heap[k]? = w.heap[k]? := fun k hk => by
  have := hw1.block k (by rw [hw0e]; exact W0.not_of hk)
  rwa [hw0e] at this
 have hsz : w.heap.size ≤ w'.heap.size := by have := hw1.size; rwa [hw0e] at this
 refine ⟨cv, G, rfl, .refl G, hv.flt G hf, hw.keep hsz hblk ?_ ?_ ?_⟩
 · have := hw1.os; rwa [hw0e] at this
 · have := hw1.tape; rwa [hw0e] at this
 · have := hw1.output; rwa [hw0e] at this
theorem SemV.call {o : Oper} {c : Call} {x : Operand} {f : FuncId} {fn : Func} {first cap : List V} {res : V} {ob' : Ob} {nm' : Nm} (ho : o.op = .call c) (hc : c.callee = .value x) (hx : σ.eval Γ x = .fn (.func f) first cap)
 (hf : P.funcs[f]? = some fn) (hb : fn.body.isSome = true) (hn : (fn.name == "runtime.NumGoroutine") = false) (h : SemF P Γ f (first ++ c.args.toList.map (σ.eval Γ) ++ cap) σ.ob σ.nm res ob' nm') :
 SemV P Γ o σ res (ob') (nm') := by
 intro ro G a w K Q hr hk
 have hfx := hr.eval x
 rw [hx] at hfx
 generalize he : a.eval x = cx at hfx
 cases hfx with
 | @fn _ _ _ ca cc ha hcc h1 h2 =>
  have r1 : Rels G first ca.toList := ⟨by simpa using ha, fun j v cv g1 g2 => h1 j v cv g1 (by simpa using g2)⟩
  have r2 : Rels G cap cc.toList := ⟨by simpa using hcc, fun j v cv g1 g2 => h2 j v cv g1 (by simpa using g2)⟩
  have r3 : Rels G (c.args.toList.map (σ.eval Γ)) (c.args.toList.map a.eval) := by
   refine ⟨by simp, fun j v cv g1 g2 => ?_⟩
   simp only [List.getElem?_map, Option.map_eq_some_iff] at g1 g2
   obtain ⟨p, hp, rfl⟩ := g1
   obtain ⟨q, hq, rfl⟩ := g2
   rw [hp] at hq
   cases hq
   exact hr.eval p
  have hcall := h G w _ hr.wr ((r1.append r3).append r2)
  have hargs : (ca.toList ++ c.args.toList.map a.eval ++ cc.toList).toArray = ca ++ c.args.map a.eval ++ cc := by
   apply Array.ext'
   simp
  rw [hargs] at hcall
  have hbn : fn.body.isNone = false := by cases hfb : fn.body <;> simp [hfb] at hb ⊢
  refine ⟨fun _ _ => trivial, ?_⟩
  have hrun : (execOp a.eval o).run P w = .ok (.enter f (ca ++ c.args.map a.eval ++ cc)) w := by
   have hn' : ¬ fn.name = "runtime.NumGoroutine" := by simpa using hn
   have hbn' : ¬ fn.body = none := by intro hh; simp [hh] at hb
   simp [execOp, ho, resolve, hc, he, Deferred.ofValue, invoke, callFunc, hf, hbn', hn']
  rw [semAt_of hrun (fun _ h => by cases h)]
  refine ⟨depthR, callsR.2 (((callsX_fn hf).1 hcall).mono ?_)⟩
  rintro e w' ⟨cv, G1, rfl, hle, hv, hw1⟩
  exact hk G1 _ w' hle hv hw1
def resOne (P : Program) (σ : St) : ResultVar → Option V
 | .tmp t => some ((σ.tm[t]?).getD (.tup []))
 | .cell t T => match tyAgg P T, tySize P T with | some a, some s => loadV a s σ.ob ((σ.tm[t]?).getD (.tup [])) | _, _ => none
def resL (P : Program) (σ : St) : List ResultVar → Option (List V)
 | [] => some []
 | r :: rs => match resOne P σ r, resL P σ rs with | some v, some vs => some (v :: vs) | _, _ => none
def resV (P : Program) (σ : St) (rs : List ResultVar) : Option V :=
 match resL P σ rs with
 | some [v] => some v
 | some vs => some (.tup vs)
 | none => none
theorem resOne_run {a : Act} {r : ResultVar} {v : V} (hr : Rel Γ G σ a w) (h : resOne P σ r = some v) :
 ∃ cv, ((match r with | .tmp t => pure (a.tmps.getD t undef) | .cell x t => do loadVar t (← asAddr (a.tmps.getD x undef))) : Sem Value).run P w = .ok cv w ∧ VRel G v cv := by
 cases r with
 | tmp t =>
  simp only [resOne, Option.some.injEq] at h
  subst h
  exact ⟨_, rfl, hr.eval (.tmp t)⟩
 | cell t T =>
  simp only [resOne] at h
  split at h
  · rename_i ag s ha hs
    obtain ⟨ad, cv, h1, h2, h3⟩ := VRel.load ha hs hr.wr (hr.eval (.tmp t)) h
    have h1 : a.tmps.getD t undef = .pointer (some ad) := h1
    exact ⟨cv, by simp only [Sem.run_bind, h1, asAddr, Sem.run_pure, Result.andThen_ok, h2], h3⟩
  · cases h
theorem resL_run {a : Act} (hr : Rel Γ G σ a w) : ∀ {rs : List ResultVar} {vs : List V}, resL P σ rs = some vs →
 ∃ cvs, (rs.mapM (m := Sem) fun r => match r with | .tmp t => pure (a.tmps.getD t undef) | .cell x t => do loadVar t (← asAddr (a.tmps.getD x undef))).run P w = .ok cvs w ∧ Rels G vs cvs
 | [], vs, h => by simp [resL] at h; subst h; exact ⟨[], by simp, Rels.nil G⟩
 | r :: rs, vs, h => by
  simp only [resL] at h
  split at h
  · rename_i v vs' h1 h2
    cases h
    obtain ⟨cv, e1, e2⟩ := resOne_run hr h1
    obtain ⟨cvs, e3, e4⟩ := resL_run hr h2
    refine ⟨cv :: cvs, ?_, Rels.cons e2 e4⟩
    rw [List.mapM_cons, Sem.run_bind, e1, Result.andThen_ok, Sem.run_bind, e3]
    rfl
  · cases h
theorem resV_run {a : Act} {fn : Func} {v : V} (hr : Rel Γ G σ a w) (h : resV P σ fn.results.toList = some v) : ∃ cv, (results fn a.tmps).run P w = .ok cv w ∧ VRel G v cv := by
 unfold resV at h
 split at h
 · rename_i x hx
   cases h
   obtain ⟨cvs, e1, e2⟩ := resL_run hr hx
   obtain ⟨cv, rfl⟩ : ∃ cv, cvs = [cv] := by
    match cvs, e2.1 with
    | [c], _ => exact ⟨c, rfl⟩
   refine ⟨cv, ?_, e2.2 0 _ _ rfl rfl⟩
   unfold results
   rw [Array.mapM_eq_mapM_toList, Sem.run_bind, Sem.run_map]
   exact (congrArg (fun z => Result.andThen (Result.andThen z _) _) e1).trans rfl
 · rename_i vs hne hx
   cases h
   obtain ⟨cvs, e1, e2⟩ := resL_run hr hx
   refine ⟨.tuple cvs.toArray, ?_, .tup (by simpa using e2.1) (fun j v cv g1 g2 => e2.2 j v cv g1 (by simpa using g2))⟩
   unfold results
   rw [Array.mapM_eq_mapM_toList, Sem.run_bind, Sem.run_map]
   refine (congrArg (fun z => Result.andThen (Result.andThen z _) _) e1).trans ?_
   have hl : ¬ cvs.toArray.size = 1 := by
    intro hl
    have : vs.length = 1 := by rw [← e2.1]; simpa using hl
    match vs, this with
    | [y], _ => exact hne y rfl
   simp only [Result.andThen, hl, dif_neg, not_false_eq_true]
   rfl
 · cases h
def St.start (n : Nat) (args : List V) (ob : Ob) (nm : Nm) : St := ⟨args ++ List.replicate (n - args.length) (.tup []), ob, nm, ob.length, nm.length⟩
structure Near (G G' : Gh) : Prop where
 m : G'.M = G.M
 h : G'.H = G.H
 t : G'.T = G.T
 kh : G'.kh = G.kh
 kt : G'.kt = G.kt
 w0 : G'.w0 = G.w0
 m0 : G'.M0 = G.M0
 kd : G'.kd = G.kd
 d : ∀ l, l < G.kd → G'.D l = G.D l
def Gh.setD (G : Gh) (b : Nat) (o : Obj) : Gh := { G with D := fun x => if x = b then some o else G.D x }
theorem VRel.setD {G : Gh} {b : Nat} {o o' : Obj} (hb : G.D b = some o') (hl : ∀ r, o' ≠ .loop r) (hc : o'.isCells = false) {v : V} {cv : Value} (h : VRel G v cv) : VRel (G.setD b o) v cv :=
 VRel.mono0 (G := G) (G' := G.setD b o) (fun _ _ _ h => h) (fun _ _ h => h) (fun _ _ h => h) (fun l r _ h => by
  simp only [Gh.setD]
  split
  · rename_i e; subst e; rw [hb] at h; cases h; exact absurd rfl (hl r)
  · exact h) (fun l E n h => by
  simp only [Gh.setD]
  split
  · rename_i e; subst e; rw [hb] at h; cases h; cases hc
  · exact h) h
theorem heap_putObj_other {w : World} {r k : Nat} {o : Obj} (h : k ≠ r) : (w.putObj r o).heap[k]? = w.heap[k]? := World.putObj_heap_other h
theorem noCells_ne {w : World} {b : Nat} {o : Obj} (hb : w.heap[b]? = some o) (ho : o.isCells = false) {k : Nat} {c : Array Value} {E : TypeId} {fr : Nat × Nat} (hk : w.heap[k]? = some (.cells c E fr)) : k ≠ b := by
 rintro rfl
 rw [hb] at hk
 cases hk
 cases ho
theorem WRel.putD {G2 : Gh} (h : WRel Γ G ob nm w) {b : Nat} {o o' : Obj} (hb : G.D b = some o') (ho' : o'.isCells = false) (ho : o.isCells = false) (hnew : G.w0.own b) (h2 : G2 = G.setD b o)
 (hv : ∀ v ∈ ob.flatMap (fun x => x.getD []), ∀ cv, VRel G v cv → VRel G2 v cv) (hn : ∀ v ∈ nm.flatMap (fun x => match x with | some (.live c) => flat c.els | _ => []), ∀ cv, VRel G v cv → VRel G2 v cv) : WRel Γ G2 ob nm (w.putObj b o) := by
 subst h2
 have d1 := (h.dd b _ hb).1.heap ho'
 have d2 := ho'
 exact {
  m := fun x off cv hm => by
   have hx : x ≠ b := by
    rintro rfl
    have := h.m _ _ _ hm
    simp only [World.cell?, d1] at this
    cases o' <;> simp at this
    cases d2
   rw [cell_of_heap (w := w) (by exact heap_putObj_other hx)]
   exact h.m _ _ _ hm
  hob := fun o1 cs x h1 h2 => by
   obtain ⟨q1, ⟨q2, q3, q4, q5, q6, q7, q8⟩, q9⟩ := h.hob o1 cs x h1 h2
   refine ⟨q1, ⟨q2, q3, q4, (heap_putObj_other (noCells_ne d1 d2 q5)).trans q5, q6, q7, q8.1, fun j v cv a1 a2 => hv v ?_ cv (q8.2 j v cv a1 a2)⟩, q9⟩
   exact List.mem_flatMap.2 ⟨_, List.mem_of_getElem? h1, List.mem_of_getElem? a1⟩
  hlt := fun o1 x h1 => by rw [World.putObj_size]; exact h.hlt o1 x h1
  habs := h.habs
  inj := h.inj
  hnm := fun n c x h1 h2 => by
   have B := h.hnm n c x h1 h2
   obtain ⟨cvs, E, fr, e1, e2, e3, e4⟩ := B.row
   exact ⟨B.old, ⟨cvs, E, fr, (heap_putObj_other (noCells_ne d1 d2 e1)).trans e1, e2, e3, e4.1, fun j v cv a1 a2 => hn v (List.mem_flatMap.2 ⟨_, List.mem_of_getElem? h1, List.mem_of_getElem? a1⟩) cv (e4.2 j v cv a1 a2)⟩, B.sz, B.el, B.len, B.cap, B.free, B.obj, fun F hF => let ⟨c2, f2, h3⟩ := B.u8 F hF; ⟨c2, f2, (heap_putObj_other (noCells_ne d1 d2 e1)).trans h3⟩⟩
  hno := h.hno
  nmd := h.nmd
  tabs := h.tabs
  tlt := h.tlt
  kdle := by rw [World.putObj_size]; exact h.kdle
  dd := fun l q hl => by
   simp only [Gh.setD] at hl
   split at hl
   · rename_i e
     subst e
     cases hl
     exact ⟨DOk.of_heap (World.putObj_heap_same (lt_of_heap d1)) ho, fun _ => hnew⟩
   · rename_i e
     obtain ⟨x1, x2⟩ := h.dd l q hl
     exact ⟨x1.to (heap_putObj_other e), x2⟩
  gl := h.gl
  mold := h.mold
  os := h.os
  tape := h.tape
  output := h.output
  size := by rw [World.putObj_size]; exact h.size
  block := fun k hk => (heap_putObj_other (W0.own_ne (x := G.w0) hnew hk)).trans (h.block k hk) }
theorem Near.refl (G : Gh) : Near G G := ⟨rfl, rfl, rfl, rfl, rfl, rfl, rfl, rfl, fun _ _ => rfl⟩
theorem Near.trans {A B C : Gh} (h : Near A B) (k : Near B C) : Near A C :=
 ⟨k.m.trans h.m, k.h.trans h.h, k.t.trans h.t, k.kh.trans h.kh, k.kt.trans h.kt, k.w0.trans h.w0, k.m0.trans h.m0, k.kd.trans h.kd, fun l hl => (k.d l (by rw [h.kd]; exact hl)).trans (h.d l hl)⟩
theorem leaves_marksB {F : Fence} {n : Nat} {fn : Func} {R : Ending → World → Prop} (u : FrameMode) (hu : u ≠ .run) (bd : List Deferred) : ∀ (ds : List Deferred) (G : Gh) (w : World) {a : Act}, Rels G σ.tm a.tmps.toList → WRel Γ G σ.ob σ.nm w → MarksL G ds → G.w0.heap.size ≤ G.kd →
 (∀ G2 w2, Near G G2 → Rels G2 σ.tm a.tmps.toList → WRel Γ G2 σ.ob σ.nm w2 → LeavesInM F n P fn a.tmps R bd u w2) → LeavesInM F n P fn a.tmps R (ds ++ bd) u w
 | [], G, w, a, hr, hw, hm, _, hk => hk G w (.refl G) hr hw
 | d :: ds, G, w, a, hr, hw, hm, h0, hk => by
  obtain ⟨D, rfl, hge, hD⟩ := hm.at_ d (by simp)
  have hnl : ∀ r, Obj.deferred (some []) ≠ .loop r := fun r h => by cases h
  have hw2 := hw.putD (o := .deferred none) hD rfl rfl (.inl (by omega)) rfl (fun v _ cv h => h.setD hD hnl rfl) (fun v _ cv h => h.setD hD hnl rfl)
  have hnear : Near G (G.setD D (.deferred none)) := ⟨rfl, rfl, rfl, rfl, rfl, rfl, rfl, rfl, fun l hl => if_neg (by omega)⟩
  refine ⟨hu, .inl ⟨D, _, rfl, run_takeDeferred (hw.dd _ _ hD).1, ?_⟩⟩
  refine leaves_marksB u hu bd ds (G.setD D (.deferred none)) _ (a := a) ⟨hr.1, fun j v cv a b => (hr.2 j v cv a b).setD hD hnl rfl⟩ hw2 ⟨(List.nodup_cons.1 hm.nd).2, fun d' hd' => ?_⟩ h0 (fun G2 w2 hn hr2 hw2 => hk G2 w2 (hnear.trans hn) hr2 hw2)
  obtain ⟨D', e, h1, h2⟩ := hm.at_ d' (by simp [hd'])
  refine ⟨D', e, h1, ?_⟩
  have : D' ≠ D := by
   rintro rfl
   exact (List.nodup_cons.1 hm.nd).1 (e ▸ hd')
  simp [Gh.setD, this, h2]
theorem leaves_marks {F : Fence} {n : Nat} {fn : Func} {res : V} {R : Ending → World → Prop} (hres : resV P σ fn.results.toList = some res) (G : Gh) (w : World) {a : Act} (hr : Rel Γ G σ a w) (h0 : G.w0.heap.size ≤ G.kd) (hbd : G.w0.bd = [])
 (hk : ∀ G2 cv w2, Near G G2 → VRel G2 res cv → WRel Γ G2 σ.ob σ.nm w2 → R (.returned cv) w2) : LeavesInM F n P fn a.tmps R a.defers .returning w := by
 obtain ⟨ms, e, hm⟩ := hr.df
 rw [e, hbd]
 refine leaves_marksB (σ := σ) .returning (by simp) [] ms G w hr.tm hr.wr hm h0 (fun G2 w2 hn hr2 hw2 => ?_)
 obtain ⟨cv, h1, h2⟩ := resV_run (fn := fn) (a := { a with defers := G2.w0.bd }) ⟨hr2, hw2, ⟨[], by simp, .nil _⟩, hn.kh.trans hr.kh, hn.kt.trans hr.kt⟩ hres
 exact ⟨cv, h1, hk G2 cv w2 hn h2 hw2⟩
theorem SemF.of_body {f : FuncId} {fn : Func} {c : Code} {args : List V} {ob : Ob} {nm : Nm} {x : Exit} {σ' : St} {res : V} (hf : P.funcs[f]? = some fn) (hb : fn.body = some c) (hx : x = .ret ∨ x = .normal)
 (hc : SemC P Γ c (St.start fn.ntmps args ob nm) x σ') (hres : resV P σ' fn.results.toList = some res) : SemF P Γ f args ob nm res σ'.ob σ'.nm := by
 intro G w cargs hw hr
 refine (callsX_fn hf).2 (callsIn_wide (n := 0).1 (callsIn_of_wp_marks hf hb trivial (wpIn_mono (hc none (((G.reK ob.length nm.length).reD w.heap.size).reB []) _ w ⟨?_, ((hw.reK _ _).reD (Nat.le_refl _)).reB, .nil _ rfl, rfl, rfl⟩ (RoOk.none _)) ?_)))
 · have h1 := (((hr.mono' (G.reK_sub ob.length nm.length)).mono' (Gh.reD_sub _ w.heap.size)).mono' (Gh.reB_sub _ [])).append (Rels.replicate _ (VRel.undef _) (fn.ntmps - args.length))
   have : (cargs.toArray ++ Array.replicate (fn.ntmps - cargs.toArray.size) undef).toList = cargs ++ List.replicate (fn.ntmps - args.length) undef := by simp [hr.1]
   rw [this]
   exact h1
 · rintro e a' w' ⟨rfl, G1, hle, r1⟩
   have hkd : G1.kd = w.heap.size := hle.kd
   have key := leaves_marks (F := Fence.wide) (n := 0) (R := fun e w' => ∃ cv G', e = .returned cv ∧ G.le G' ∧ VRel G' res cv ∧ WRel Γ G' σ'.ob σ'.nm w') hres G1 w' r1 (by rw [hkd]; exact (by rw [hle.w0]; exact hw.size)) (by rw [hle.w0]; rfl) (fun G2 cv w2 hn hv hw2 => ⟨cv, ((G2.reK G.kh G.kt).reD G.kd).reB G.w0.bd, rfl,
    ⟨⟨fun b off cv h => by show G2.M b off = _; rw [hn.m]; exact hle.m _ _ _ h, fun o b hh => by show G2.H o = _; rw [hn.h]; exact hle.h o b (hw.hlt o b hh).1 hh, fun n x hh => by show G2.T n = _; rw [hn.t]; exact hle.t n x (hw.tlt n x hh) hh,
     fun l o hh => by show G2.D l = _; rw [hn.d l (by rw [hkd]; exact hw.dlt hh)]; exact hle.d _ _ hh⟩, rfl, rfl, by show { G2.w0 with bd := G.w0.bd } = G.w0; rw [hn.w0, hle.w0]; rfl, hn.m0.trans hle.m0, rfl⟩,
    ((hv.mono' (Gh.reK_sub _ _ _)).mono' (Gh.reD_sub _ _)).mono' (Gh.reB_sub _ _), WRel.reB ((hw2.reK _ _).reD (Nat.le_trans hw.kdle (by have := hw2.kdle; rw [hn.kd, hkd] at this; exact this)))⟩)
   rcases hx with rfl | rfl <;> exact key
end
end Go.Proofs.Ytofbchcclkejgaa

/- Types of plain data compared; a list of one as a list of the other. -/
set_option linter.unusedVariables false
set_option linter.unusedSimpArgs false
namespace Go.Proofs.Ytofbchcclkejgaa
open Go
mutual
def Ty.eqb : Ty → Ty → Bool
 | .bool, .bool => true
 | .int k, .int k' => decide (k = k')
 | .str, .str => true
 | .agg a, .agg b => Ty.eqbs a b
 | .slice a, .slice b => Ty.eqb a b
 | _, _ => false
def Ty.eqbs : List Ty → List Ty → Bool
 | [], [] => true
 | a :: as, b :: bs => Ty.eqb a b && Ty.eqbs as bs
 | _, _ => false
end
mutual
theorem Ty.eqb_eq : ∀ {a b : Ty}, Ty.eqb a b = true → a = b
 | .bool, b, h => by cases b <;> simp [Ty.eqb] at h; rfl
 | .int k, b, h => by cases b <;> simp [Ty.eqb] at h; rw [h]
 | .str, b, h => by cases b <;> simp [Ty.eqb] at h; rfl
 | .agg x, b, h => by
  cases b <;> simp only [Ty.eqb] at h <;> first | (cases h; done) | rw [Ty.eqbs_eq h]
 | .slice x, b, h => by
  cases b <;> simp only [Ty.eqb] at h <;> first | (cases h; done) | rw [Ty.eqb_eq h]
theorem Ty.eqbs_eq : ∀ {a b : List Ty}, Ty.eqbs a b = true → a = b
 | [], b, h => by cases b <;> simp [Ty.eqbs] at h; rfl
 | x :: xs, b, h => by
  cases b with
  | nil => simp [Ty.eqbs] at h
  | cons y ys =>
   simp only [Ty.eqbs, Bool.and_eq_true] at h
   rw [Ty.eqb_eq h.1, Ty.eqbs_eq h.2]
end
def listAs {a : Ty} (b : Ty) (l : List a.den) : Option (List b.den) := if h : a.eqb b = true then some (cast (by rw [Ty.eqb_eq h]) l) else none
theorem listAs_eq {a b : Ty} {l : List a.den} {l' : List b.den} (h : listAs b l = some l') : l'.map b.val = l.map a.val := by
 unfold listAs at h
 split at h
 · rename_i he
   obtain rfl := Ty.eqb_eq he
   cases h
   rfl
 · cases h
theorem VRel.lst_ro {G : Gh} {t : Tag} {xs : List V} {cv : Value} (h : VRel G (.lst t xs) cv) : VRel G (.lst .ro xs) cv := by
 cases h with
 | lst0 => exact .lst0 _ _
 | lst1 p cap => exact .lst1 p cap
 | lst hsz hl hm hv hc ht => exact .lst hsz hl hm hv hc trivial
end Go.Proofs.Ytofbchcclkejgaa

/- The evaluator of one operation. -/
set_option linter.unusedVariables false
set_option linter.unusedSimpArgs false
namespace Go.Proofs.Ytofbchcclkejgaa
open Go
mutual
def mergeV (b : Bool) : V → V → Option V
 | .b x, w => match w.bool? with | some (y, s) => some (if s then .sb (bif b then x else y) else if x = y then .b x else .sb (bif b then x else y)) | none => none
 | .sb x, w => match w.bool? with | some (y, _) => some (.sb (bif b then x else y)) | none => none
 | .i k x, w => match w.int? with | some (k', y, s) => if k = k' then some (if s then .si k (bif b then x else y) else if x = y then .i k x else .si k (bif b then x else y)) else none | none => none
 | .si k x, w => match w.int? with | some (k', y, _) => if k = k' then some (.si k (bif b then x else y)) else none | none => none
 | .s x, w => match w.str? with | some (y, _) => some (.ss (bif b then x else y)) | none => none
 | .ss x, w => match w.str? with | some (y, _) => some (.ss (bif b then x else y)) | none => none
 | .nil, w => match w with | .nil => some .nil | _ => none
 | .nilfn, w => match w with | .nilfn => some .nilfn | _ => none
 | .nilifc, w => match w with | .nilifc => some .nilifc | _ => none
 | .ptr o x, w => match w with | .ptr o' x' => if o = o' ∧ x = x' then some (.ptr o x) else none | _ => none
 | .agg xs, w => match w with | .agg ys => (match mergeL b xs ys with | some zs => some (.agg zs) | none => none) | _ => none
 | .tup xs, w => match w with | .tup ys => (match mergeL b xs ys with | some zs => some (.tup zs) | none => none) | _ => none
 | .lst _ [], w => match w with | .lst _ [] => some (.lst .ro []) | .slst _ ty l => some (.slst .ro ty (bif b then [] else l)) | _ => none
 | .slst _ ty l, w => match w with | .slst _ ty' l' => (match listAs ty l' with | some l2 => some (.slst .ro ty (bif b then l else l2)) | none => none) | .lst _ [] => some (.slst .ro ty (bif b then l else [])) | _ => none
 | .fn f xs ys, w => match w with | .fn g us vs => (match f, g with | .func a, .func c => if a = c then (match mergeL b xs us, mergeL b ys vs with | some p, some q => some (.fn (.func a) p q) | _, _ => none) else none | _, _ => none) | _ => none
 | .bs s n off len, w => match w with | .bs s' n' off' len' => if n = n' then (match s || s' with | true => some (.bs true n (bif b then off else off') (bif b then len else len')) | false => if off = off' ∧ len = len' then some (.bs (s || s') n off len) else some (.bs true n (bif b then off else off') (bif b then len else len'))) else none | _ => none
 | .bp n i off, w => match w with | .bp n' i' off' => if n = n' ∧ i = i' ∧ off = off' then some (.bp n i off) else none | _ => none
 | .sl o off len, w => match w with | .sl o' off' len' => if o = o' ∧ off = off' ∧ len = len' then some (.sl o off len) else none | _ => none
 | .ifc t x, w => match w with | .ifc t' y => if t = t' then (match mergeV b x y with | some z => some (.ifc t z) | none => none) else none | _ => none
 | _, _ => none
def mergeL (b : Bool) : List V → List V → Option (List V)
 | [], ws => match ws with | [] => some [] | _ => none
 | x :: xs, ws =>
  match ws with
  | [] => none
  | w :: ws => match mergeV b x w, mergeL b xs ws with | some z, some zs => some (z :: zs) | _, _ => none
end
def MergeOk (b : Bool) (x y z : V) : Prop := ∀ (G : Gh) (cv : Value), VRel G (bif b then x else y) cv → VRel G z cv
theorem mergeV_ok (b : Bool) : ∀ (x y z : V), mergeV b x y = some z → MergeOk b x y z := by
 have key : ∀ (n : Nat) (x y z : V), SizeOf.sizeOf x ≤ n → mergeV b x y = some z → MergeOk b x y z := by
  intro n
  induction n with
  | zero => intro x y z hn; cases x <;> simp at hn
  | succ n ih =>
   intro x y z hn h G cv hr
   have hL : ∀ (xs ys zs : List V), SizeOf.sizeOf xs ≤ n → mergeL b xs ys = some zs → zs.length = (bif b then xs else ys).length ∧ ∀ (j : Nat) (z : V), zs[j]? = some z → ∃ x y, (bif b then xs else ys)[j]? = some (bif b then x else y) ∧ MergeOk b x y z := by
    intro xs
    induction xs with
    | nil =>
     intro ws zs _ h
     cases ws with
     | nil => simp [mergeL] at h; subst h; cases b <;> exact ⟨rfl, fun j z hj => by simp at hj⟩
     | cons w ws => simp [mergeL] at h
    | cons x xs ihx =>
     intro ws zs hs h
     simp at hs
     cases ws with
     | nil => simp [mergeL] at h
     | cons w ws =>
      simp only [mergeL] at h
      split at h
      · rename_i z zs' h1 h2
        cases h
        obtain ⟨g1, g2⟩ := ihx ws zs' (by omega) h2
        refine ⟨by cases b <;> simpa using g1, fun j v hj => ?_⟩
        cases j with
        | zero => simp at hj; subst hj; exact ⟨x, w, by cases b <;> rfl, ih _ _ _ (by omega) h1⟩
        | succ j =>
         simp at hj
         obtain ⟨p, q, e1, e2⟩ := g2 j v hj
         exact ⟨p, q, by cases b <;> simpa using e1, e2⟩
      · cases h
   cases x with
   | b p =>
    simp only [mergeV] at h
    split at h
    · rename_i q s hq
      have e : cv = .bool (bif b then p else q) := by
       cases b
       · exact bool?_eq hq hr
       · cases hr; rfl
      subst e
      split at h
      · cases h; exact .sb _
      · split at h
        · rename_i hpq; subst hpq; cases h; cases b <;> exact .b _
        · cases h; exact .sb _
    · cases h
   | sb p =>
    simp only [mergeV] at h
    split at h
    · rename_i q s hq
      have e : cv = .bool (bif b then p else q) := by
       cases b
       · exact bool?_eq hq hr
       · cases hr; rfl
      subst e
      cases h; exact .sb _
    · cases h
   | i k p =>
    simp only [mergeV] at h
    split at h
    · rename_i k' q s hq
      split at h
      · rename_i hk
        subst hk
        have e : cv = .int k (bif b then p else q) := by
         cases b
         · exact int?_eq hq hr
         · cases hr; rfl
        subst e
        cases h
        split
        · exact .si _ _
        · split
          · rename_i hpq; subst hpq; cases b <;> exact .i _ _
          · exact .si _ _
      · cases h
    · cases h
   | si k p =>
    simp only [mergeV] at h
    split at h
    · rename_i k' q s hq
      split at h
      · rename_i hk
        subst hk
        have e : cv = .int k (bif b then p else q) := by
         cases b
         · exact int?_eq hq hr
         · cases hr; rfl
        subst e
        cases h; exact .si _ _
      · cases h
    · cases h
   | s p =>
    simp only [mergeV] at h
    split at h
    · rename_i q s hq
      have e : cv = .string (bif b then p else q) := by
       cases b
       · exact str?_eq hq hr
       · cases hr; rfl
      subst e
      cases h; exact .ss _
    · cases h
   | ss p =>
    simp only [mergeV] at h
    split at h
    · rename_i q s hq
      have e : cv = .string (bif b then p else q) := by
       cases b
       · exact str?_eq hq hr
       · cases hr; rfl
      subst e
      cases h; exact .ss _
    · cases h
   | nil => simp only [mergeV] at h; split at h <;> cases h; cases b <;> exact hr
   | nilfn => simp only [mergeV] at h; split at h <;> cases h; cases b <;> exact hr
   | nilifc => simp only [mergeV] at h; split at h <;> cases h; cases b <;> exact hr
   | ptr o p =>
    simp only [mergeV] at h
    split at h
    · split at h
      · rename_i hc; obtain ⟨rfl, rfl⟩ := hc; cases h; cases b <;> exact hr
      · cases h
    · cases h
   | agg xs =>
    simp only [mergeV] at h
    split at h
    · rename_i ys
      split at h
      · rename_i zs hz
        cases h
        obtain ⟨g1, g2⟩ := hL xs ys zs (by simp at hn; omega) hz
        have hr' : VRel G (.agg (bif b then xs else ys)) cv := by cases b <;> exact hr
        obtain ⟨c, rfl, hc⟩ := hr'.agg_form
        refine VRel.mk_agg ⟨by rw [hc.1, g1], fun j v cv h1 h2 => ?_⟩
        obtain ⟨p, q, e1, e2⟩ := g2 j v h1
        exact e2 G cv (hc.2 j _ cv e1 h2)
      · cases h
    · cases h
   | tup xs =>
    simp only [mergeV] at h
    split at h
    · rename_i ys
      split at h
      · rename_i zs hz
        cases h
        obtain ⟨g1, g2⟩ := hL xs ys zs (by simp at hn; omega) hz
        have hr' : VRel G (.tup (bif b then xs else ys)) cv := by cases b <;> exact hr
        cases hr'
        rename_i c hl hh
        refine .tup (by rw [hl, g1]) (fun j v cv h1 h2 => ?_)
        obtain ⟨p, q, e1, e2⟩ := g2 j v h1
        exact e2 G cv (hh j _ cv e1 h2)
      · cases h
    · cases h
   | lst t xs =>
    cases xs with
    | nil =>
     simp only [mergeV] at h
     split at h
     · cases h
       cases b
       · exact VRel.lst_ro hr
       · exact VRel.lst_ro hr
     · rename_i t' ty l
       cases h
       cases b
       · cases hr with | slst q => exact .slst q.lst_ro
       · exact .slst (VRel.lst_ro hr)
     · cases h
    | cons a l => simp [mergeV] at h
   | slst t ty l =>
    simp only [mergeV] at h
    split at h
    · rename_i t' ty' l'
      split at h
      · rename_i l2 hl
        cases h
        cases b
        · cases hr with | slst q => exact .slst (by simp only [cond_false]; rw [listAs_eq hl]; exact q.lst_ro)
        · cases hr with | slst q => exact .slst q.lst_ro
      · cases h
    · cases h
      cases b
      · exact .slst (VRel.lst_ro hr)
      · cases hr with | slst q => exact .slst q.lst_ro
    · cases h
   | fn f xs ys =>
    simp only [mergeV] at h
    split at h
    · rename_i g us vs
      split at h
      · rename_i a c
        split at h
        · rename_i hac
          subst hac
          split at h
          · rename_i p q h1 h2
            cases h
            simp at hn
            obtain ⟨g1, g2⟩ := hL xs us p (by omega) h1
            obtain ⟨k1, k2⟩ := hL ys vs q (by omega) h2
            have hr' : VRel G (.fn (.func a) (bif b then xs else us) (bif b then ys else vs)) cv := by cases b <;> exact hr
            cases hr' with
            | fn ha hc q1 q2 =>
             refine .fn (by rw [ha, g1]) (by rw [hc, k1]) (fun j v cv e1 e2 => ?_) (fun j v cv e1 e2 => ?_)
             · obtain ⟨p, q, e3, e4⟩ := g2 j v e1
               exact e4 G cv (q1 j _ cv e3 e2)
             · obtain ⟨p, q, e3, e4⟩ := k2 j v e1
               exact e4 G cv (q2 j _ cv e3 e2)
          · cases h
        · cases h
      · cases h
    · cases h
   | bs s n off len =>
    simp only [mergeV] at h
    split at h
    · rename_i s' n' off' len'
      split at h
      · rename_i hnn
        subst hnn
        have go : ∀ (u v : Bool) (o l : Nat), VRel G (.bs u n o l) cv → VRel G (.bs v n o l) cv := fun u v o l hh => by
         cases hh with
         | bs0 => exact .bs0 _ _ _
         | bs1 => exact .bs1 _ _ _ _
         | bs h hl => exact .bs h hl
        split at h
        · cases h
          cases b
          · exact go _ _ _ _ hr
          · exact go _ _ _ _ hr
        · split at h
          · rename_i hc
            obtain ⟨rfl, rfl⟩ := hc
            cases h
            cases b
            · exact go _ _ _ _ hr
            · exact go _ _ _ _ hr
          · cases h
            cases b
            · exact go _ _ _ _ hr
            · exact go _ _ _ _ hr
      · cases h
    · cases h
   | bp n i off =>
    simp only [mergeV] at h
    split at h
    · split at h
      · rename_i hc
        obtain ⟨rfl, rfl, rfl⟩ := hc
        cases h
        cases b <;> exact hr
      · cases h
    · cases h
   | sl o off len =>
    simp only [mergeV] at h
    split at h
    · split at h
      · rename_i hc
        obtain ⟨rfl, rfl, rfl⟩ := hc
        cases h
        cases b <;> exact hr
      · cases h
    · cases h
   | ifc t x =>
    simp only [mergeV] at h
    split at h
    · rename_i t' y
      split at h
      · rename_i ht
        subst ht
        split at h
        · rename_i z hz
          cases h
          have hm := ih x y z (by simp at hn; omega) hz
          have hr' : VRel G (.ifc t (bif b then x else y)) cv := by cases b <;> exact hr
          cases hr' with
          | ifc hh => exact .ifc (hm G _ hh)
        · cases h
      · cases h
    · cases h
   | _ => simp [mergeV] at h
 intro x y z h
 exact key (SizeOf.sizeOf x) x y z (Nat.le_refl _) h
theorem mergeL_get0 (b : Bool) : ∀ {xs ys zs : List V}, mergeL b xs ys = some zs → zs.length = (bif b then xs else ys).length ∧ xs.length = ys.length ∧ ∀ (j : Nat) (z : V), zs[j]? = some z → ∃ x y, xs[j]? = some x ∧ ys[j]? = some y ∧ mergeV b x y = some z
 | [], ws, zs, h => by
  cases ws with
  | nil => simp [mergeL] at h; subst h; cases b <;> exact ⟨rfl, rfl, fun j z hj => by simp at hj⟩
  | cons w ws => simp [mergeL] at h
 | x :: xs, ws, zs, h => by
  cases ws with
  | nil => simp [mergeL] at h
  | cons w ws =>
   simp only [mergeL] at h
   split at h
   · rename_i z zs' h1 h2
     cases h
     obtain ⟨g1, g0, g2⟩ := mergeL_get0 b h2
     refine ⟨by cases b <;> simpa using g1, by simpa using g0, fun j v hj => ?_⟩
     cases j with
     | zero => simp at hj; subst hj; exact ⟨x, w, rfl, rfl, h1⟩
     | succ j =>
      obtain ⟨p, q, e1, e2, e3⟩ := g2 j v (by simpa using hj)
      exact ⟨p, q, by simpa using e1, by simpa using e2, e3⟩
   · cases h
theorem bool?_cells {w : V} {p : Bool × Bool} (h : w.bool? = some p) : w.cells = [w] := by cases w <;> simp [V.bool?] at h <;> rfl
theorem int?_cells {w : V} {p : IntKind × Int × Bool} (h : w.int? = some p) : w.cells = [w] := by cases w <;> simp [V.int?] at h <;> rfl
theorem str?_cells {w : V} {p : ByteArray × Bool} (h : w.str? = some p) : w.cells = [w] := by cases w <;> simp [V.str?] at h <;> rfl
theorem mergeV_cells (b : Bool) {x y z : V} (h : mergeV b x y = some z) : mergeL b x.cells y.cells = some z.cells := by
 have one : ∀ {x y z : V}, mergeV b x y = some z → x.cells = [x] → y.cells = [y] → z.cells = [z] → mergeL b x.cells y.cells = some z.cells := fun h h1 h2 h3 => by
  rw [h1, h2, h3]; simp [mergeL, h]
 cases x with
 | agg xs =>
  simp only [mergeV] at h
  split at h
  · split at h
    · rename_i hz; cases h; exact hz
    · cases h
  · cases h
 | tup xs =>
  have h' := h
  simp only [mergeV] at h
  split at h
  · split at h
    · cases h; exact one h' rfl rfl rfl
    · cases h
  · cases h
 | lst t xs =>
  cases xs with
  | nil =>
   have h' := h
   simp only [mergeV] at h
   split at h <;> first | (cases h; done) | (cases h; exact one h' rfl rfl rfl)
  | cons a l => simp [mergeV] at h
 | any => simp [mergeV] at h
 | pel xs k off => simp [mergeV] at h
 | yl tm ps as bd => simp [mergeV] at h
 | _ =>
  have h' := h
  simp only [mergeV] at h
  repeat' (split at h)
  all_goals first
   | (cases h; done)
   | (cases h; refine one h' rfl ?_ ?_ <;> first | rfl | (exact bool?_cells (by assumption)) | (exact int?_cells (by assumption)) | (exact str?_cells (by assumption)) | (repeat' split) <;> rfl)
end Go.Proofs.Ytofbchcclkejgaa

/- The evaluator of one operation: its value, what must hold, its effect. -/
set_option linter.unusedVariables false
set_option linter.unusedSimpArgs false
namespace Go.Proofs.Ytofbchcclkejgaa
open Go
structure Eff where
 ro : List Nat := []
 rn : List Nat := []
 wo : List (Nat × List V) := []
 wn : List (Nat × Bf) := []
 xo : List (Option (List V)) := []
 xn : List (Option Bf) := []
 blk : Option (Ob × Nm) := none   -- it looks at all that there is, and leaves this
 bl : Nat × Nat := (0, 0)   -- of the first ones it leaves all but these as they are
 ko : List Nat := []
 kn : List Nat := []
def Eff.pure : Eff := {}
def Eff.rd (o : Nat) : Eff := { ro := [o] }
def Eff.rds (os ns : List Nat) : Eff := { ro := os, rn := ns }
def Eff.wr (o : Nat) (cs : List V) : Eff := { ro := [o], wo := [(o, cs)] }
def Eff.mkO (o : Nat) (cs : List V) : Eff := { wo := [(o, cs)] }
def setsO : List (Nat × List V) → Ob → Ob
 | [], ob => ob
 | p :: ps, ob => setsO ps (ob.set p.1 (some p.2))
def setsN : List (Nat × Bf) → Nm → Nm
 | [], nm => nm
 | p :: ps, nm => setsN ps (nm.set p.1 (some p.2))
def Eff.ob (e : Eff) (ob : Ob) : Ob := match e.blk with | some p => p.1 | none => match e.xo with | [] => setsO e.wo ob | x :: xs => setsO e.wo ob ++ (x :: xs)
def Eff.nm (e : Eff) (nm : Nm) : Nm := match e.blk with | some p => p.2 | none => match e.xn with | [] => setsN e.wn nm | x :: xs => setsN e.wn nm ++ (x :: xs)
structure Out where
 chk : Bool
 sy : Bool
 v : V
 eff : Eff
def outP (v : V) : Option Out := some ⟨true, false, v, .pure⟩
def outO : Option V → Option Out
 | some v => some ⟨true, false, v, .pure⟩
 | none => none
section
variable {P : Program} {Γ : Nat → Option V} {G : Gh} {ob : Ob} {nm : Nm} {w : World} {σ : St}
theorem WRel.newObjAt (h : WRel Γ G ob nm w) {s : Nat} (hs : ob[s]? = some none) {cs : List V} {cvs : Array Value} {E : TypeId} (hr : Rels G cs cvs.toList) :
 G.le (G.addH s w.heap.size) ∧ WRel Γ (G.addH s w.heap.size) (ob.set s (some cs)) nm (w.alloc (.cells cvs E)) := by
 have hnone : G.H s = none := h.habs s hs
 have hlt : s < ob.length := by
  rcases Nat.lt_or_ge s ob.length with h' | h'
  · exact h'
  · simp [List.getElem?_eq_none h'] at hs
 have hle := Gh.le_addH (b := w.heap.size) hnone
 have k := h.alloc (.cells cvs E)
 refine ⟨hle, ?_⟩
 exact {
  m := k.m
  hob := fun o cs' b h1 h2 => by
   by_cases ho : o = s
   · subst ho
     simp only [Gh.addH, if_true, Option.some.injEq] at h2
     subst h2
     rw [List.getElem?_set_self hlt] at h1
     have h1 : cs = cs' := by simpa using h1
     subst h1
     refine ⟨.inl h.size, ⟨cvs, E, (0, 0), heap_alloc_self w _, .inl rfl, by have := hr.1; simp at this; omega, ?_⟩, h.mnew⟩
     have hl : cvs.toList.take cs.length = cvs.toList := List.take_of_length_le (by rw [hr.1]; exact Nat.le_refl _)
     rw [hl]
     exact hr.mono hle
   · have h2' : G.H o = some b := by simpa [Gh.addH, ho] using h2
     rw [List.getElem?_set_ne (Ne.symm ho)] at h1
     obtain ⟨a1, ⟨c, E', fr, e1, e2, e3, e4⟩, a3⟩ := k.hob o cs' b h1 h2'
     exact ⟨a1, ⟨c, E', fr, e1, e2, e3, e4.mono hle⟩, a3⟩
  hlt := fun o b h1 => by
   by_cases ho : o = s
   · subst ho
     simp only [Gh.addH, if_true, Option.some.injEq] at h1
     subst h1
     simp; exact hlt
   · have h2' : G.H o = some b := by simpa [Gh.addH, ho] using h1
     have := h.hlt o b h2'
     simp; omega
  habs := fun o h1 => by
   by_cases ho : o = s
   · subst ho; rw [List.getElem?_set_self hlt] at h1; simp at h1
   · rw [List.getElem?_set_ne (Ne.symm ho)] at h1
     simpa [Gh.addH, ho] using h.habs o h1
  inj := fun o o' b h1 h2 => by
   simp only [Gh.addH] at h1 h2
   split at h1 <;> split at h2
   · omega
   · have := (h.hlt _ _ h2).2; have he : w.heap.size = b := Option.some.inj h1; omega
   · have := (h.hlt _ _ h1).2; have he : w.heap.size = b := Option.some.inj h2; omega
   · exact h.inj _ _ _ h1 h2
  hnm := fun n c x h1 h2 => (k.hnm n c x h1 h2).to rfl (fun _ _ h => h.mono hle) (fun _ h => h) (fun _ h => h) (fun o ho => by
   have hx := (h.hnm n c x h1 h2).lt
   simp only [Gh.addH] at ho
   split at ho
   · have he : w.heap.size = x.b := Option.some.inj ho
     omega
   · exact (h.hnm n c x h1 h2).obj o ho)
  hno := k.hno
  nmd := k.nmd
  tabs := k.tabs
  tlt := k.tlt
  dd := k.dd
  kdle := k.kdle
  gl := fun g v hg => (k.gl g v hg).mono' hle.toSub.bare
  mold := k.mold
  os := k.os
  tape := k.tape
  output := k.output
  size := k.size
  block := k.block }
theorem SemV.allocAt {o : Oper} {T : TypeId} {z : V} {s : Nat} (ho : o.op = .alloc T) (hz : tyZero P T = some z) (hn : z.notAny = true) (hs : σ.ob[s]? = some none) : SemV P Γ o σ (.ptr s 0) (σ.ob.set s (some z.cells)) σ.nm :=
 SemV.of_val fun G a w hr => by
  obtain ⟨zv, h1, rfl⟩ := run_zero hz w
  have hc := (ofVal_rel G zv).cells (V.notAny_ne hn)
  obtain ⟨hle, hw⟩ := hr.wr.newObjAt hs (E := T) (cvs := zv.cells) hc
  refine ⟨.pointer (some ⟨w.heap.size, 0, none⟩), _, _, ?_, hle, .ptr (addH_new _ _ _), hw⟩
  simp [execOp, ho, Instr.alloc, h1, newVar, Go.newRow, World.alloc_eq]
theorem Gh.le_setT {b : Nat} {o : Obj} (h : G.D b = none) : G.le (G.setD b o) :=
 ⟨⟨fun _ _ _ h => h, fun _ _ h => h, fun _ _ h => h, fun l q k => by
  by_cases hl : l = b
  · subst hl; rw [h] at k; cases k
  · simpa [Gh.setD, hl] using k⟩, rfl, rfl, rfl, rfl, rfl⟩
theorem WRel.addTy (h : WRel Γ G ob nm w) {b : Nat} {E : TypeId} {c : Array Value} {fr : Nat × Nat} (hb : G.D b = none) (ho : w.heap[b]? = some (.cells c E fr)) : WRel Γ (G.setD b (tyFact E c.size)) ob nm w := by
 have hle := Gh.le_setT (o := tyFact E c.size) hb
 exact {
  m := h.m
  hob := fun o cs b h1 h2 => by
   obtain ⟨q1, ⟨q2, q3, q4, q5, q6, q7, q8⟩, q9⟩ := h.hob o cs b h1 h2
   exact ⟨q1, ⟨q2, q3, q4, q5, q6, q7, q8.mono hle⟩, q9⟩
  hlt := h.hlt
  habs := h.habs
  inj := h.inj
  hnm := fun n c x h1 h2 => (h.hnm n c x h1 h2).to rfl (fun _ _ h => h.mono hle) (fun _ h => h) (fun _ h => h) (h.hnm n c x h1 h2).obj
  hno := h.hno
  kdle := h.kdle
  nmd := h.nmd
  tabs := h.tabs
  tlt := h.tlt
  dd := fun l q hl => by
   simp only [Gh.setD] at hl
   split at hl
   · rename_i e; subst e; cases hl; exact ⟨⟨_, c, fr, rfl, ho, rfl⟩, fun hc => by cases hc⟩
   · exact h.dd l q hl
  gl := h.gl
  mold := h.mold
  os := h.os
  tape := h.tape
  output := h.output
  size := h.size
  block := h.block }
def selfTy (P : Program) (T : TypeId) : Bool :=
 match P.underlying T with
 | some (.struct fs) => (match fs[0]? with | some f => (match P.underlying f.type with | some (.pointer t) => Nat.beq t T | _ => false) | none => false)
 | _ => false
def nlsV : V → V
 | .lst .full [] => .nls
 | v => v
theorem nlsV_rel (G : Gh) (v : Value) : VRel G (nlsV (ofCell v)) v := by
 unfold nlsV
 split
 · rename_i h
   cases v <;> simp only [ofCell] at h
   all_goals (repeat' (split at h))
   all_goals first
    | (cases h; done)
    | exact .nls
 · exact ofCell_rel G v
theorem ofCell_cells (v : Value) : (ofCell v).cells = [ofCell v] := by
 cases v <;> simp only [ofCell]
 all_goals (repeat' split)
 all_goals rfl
theorem nlsV_cells (G : Gh) (zv : Value) (h : Rels G (ofVal zv).cells zv.cells.toList) : Rels G ((ofVal zv).cells.map nlsV) zv.cells.toList := by
 refine ⟨by simpa using h.1, fun j v cv hv hc => ?_⟩
 rw [List.getElem?_map] at hv
 cases zv with
 | agg cs =>
  simp only [ofVal, V.cells, List.getElem?_map] at hv
  have hc' : cs[j]? = some cv := by simpa [Value.cells] using hc
  have : cs.toList[j]? = some cv := by simpa using hc'
  rw [this] at hv
  cases hv
  exact nlsV_rel G cv
 | _ =>
  simp only [ofVal, ofCell_cells] at hv
  cases j with
  | zero =>
   simp [Value.cells] at hv hc
   subst hv hc
   exact nlsV_rel G _
  | succ j => simp at hv
def newP (P : Program) (T : TypeId) (n s : Nat) : V := match selfTy P T with | true => .tp T n s | false => .ptr s 0
def newC (P : Program) (T : TypeId) (l : List V) : List V := match selfTy P T with | true => l.map nlsV | false => l
theorem SemV.allocTp {o : Oper} {T : TypeId} {z : V} {s : Nat} (ho : o.op = .alloc T) (hz : tyZero P T = some z) (hn : z.notAny = true) (hs : σ.ob[s]? = some none) : SemV P Γ o σ (newP P T z.cells.length s) (σ.ob.set s (some (newC P T z.cells))) σ.nm := by
 unfold newP newC
 split
 · exact SemV.of_val fun G a w hr => by
    obtain ⟨zv, h1, rfl⟩ := run_zero hz w
    have hc := (ofVal_rel G zv).cells (V.notAny_ne hn)
    obtain ⟨hle, hw⟩ := hr.wr.newObjAt hs (E := T) (cvs := zv.cells) (nlsV_cells G zv hc)
    have hd : (G.addH s w.heap.size).D w.heap.size = none := hr.wr.dnew (Nat.le_refl _)
    have hw2 := hw.addTy hd (World.alloc_heap_new w _)
    refine ⟨.pointer (some ⟨w.heap.size, 0, none⟩), _, _, ?_, hle.trans (Gh.le_setT hd), ?_, hw2⟩
    · simp [execOp, ho, Instr.alloc, h1, newVar, Go.newRow, World.alloc_eq]
    · refine .tp (addH_new _ _ _) ?_
      have : zv.cells.size = (ofVal zv).cells.length := by have := hc.1; simpa using this
      rw [← this]
      simp [Gh.setD]
 · exact SemV.allocAt ho hz hn hs
theorem SemV.boxAt {o : Oper} {T : TypeId} {x : Operand} {s : Nat} (ho : o.op = .box T x) (hn : (σ.eval Γ x).notAny = true) (hs : σ.ob[s]? = some none) : SemV P Γ o σ (.ptr s 0) (σ.ob.set s (some (σ.eval Γ x).cells)) σ.nm :=
 SemV.of_val fun G a w hr => by
  have hc := (hr.eval x).cells (V.notAny_ne hn)
  obtain ⟨hle, hw⟩ := hr.wr.newObjAt hs (E := T) (cvs := (a.eval x).cells) hc
  refine ⟨.pointer (some ⟨w.heap.size, 0, none⟩), _, _, ?_, hle, .ptr (addH_new _ _ _), hw⟩
  simp [execOp, ho, Instr.box, newVar, Go.newRow, World.alloc_eq]
def selV : List V → Int → Option V
 | [], _ => none
 | [x], _ => some x
 | x :: y :: rest, i => match selV (y :: rest) (i - 1) with | some r => mergeV (decide (i = 0)) x r | none => none
theorem selV_ok : ∀ (xs : List V) (i : Int) (z : V), selV xs i = some z → 0 ≤ i → ∀ x, xs[i.toNat]? = some x → ∀ (G : Gh) (cv : Value), VRel G x cv → VRel G z cv
 | [], i, z, h, _, x, hx, _, _, _ => by simp at hx
 | [y], i, z, h, h0, x, hx, G, cv, hr => by
  simp [selV] at h
  subst h
  have : i.toNat = 0 := by
   rcases Nat.eq_zero_or_pos i.toNat with h' | h'
   · exact h'
   · rw [List.getElem?_eq_none (by simp; omega)] at hx; cases hx
  rw [this] at hx
  simp at hx
  subst hx
  exact hr
 | y :: y' :: rest, i, z, h, h0, x, hx, G, cv, hr => by
  simp only [selV] at h
  split at h
  · rename_i r hsel
    have hm := mergeV_ok _ _ _ _ h G cv
    by_cases hi : i = 0
    · subst hi
      simp at hx
      subst hx
      exact hm (by simpa using hr)
    · have e : i.toNat = (i - 1).toNat + 1 := by omega
      rw [e] at hx
      simp only [List.getElem?_cons_succ] at hx
      have := selV_ok (y' :: rest) (i - 1) r hsel (by omega) x hx G cv hr
      exact hm (by simpa [hi] using this)
  · cases h
def V.isAgg : V → Bool
 | .agg _ => true
 | _ => false
def idxX (sz : Nat) (n : Option Nat) (p : V) (i : Int) (s : Bool) : Option (Bool × Bool × V) :=
 match s with
 | false => match idxV sz n p i with | some q => some (true, false, q) | none => none
 | true =>
  match n, p with
  | none, .lst t xs =>
   match xs with
   | [] => none
   | x :: rest =>
    match selV (x :: rest) i with
    | some z => if (x :: rest).all (fun y => y.cells.length == sz) && (z.cells.length == sz && ((x :: rest).all V.one && z.one || (x :: rest).all V.isAgg && z.isAgg)) then some (decide (0 ≤ i ∧ i < ((x :: rest).length : Int)), true, .pel [z] 0 0) else none
    | none => none
  | some (m + 1), .pel ys k off =>
   match ys[k]? with
   | some y =>
    match selV ((List.range (m + 1)).map fun j => V.agg ((y.cells.drop (off + j * sz)).take sz)) i with
    | some z => if z.isAgg && z.cells.length == sz && decide (off + (m + 1) * sz ≤ y.cells.length) then some (decide (0 ≤ i ∧ i < ((m + 1 : Nat) : Int)), true, .pel [z] 0 0) else none
    | none => none
   | none => none
  | _, _ => none
theorem SemV.indexX {o : Oper} {T e : TypeId} {x y : Operand} {n : Option Nat} {sz : Nat} {k : IntKind} {i : Int} {s c : Bool} {q : V} (ho : o.op = .indexAddr T x y) (ht : tyElem P T = some (n, e)) (hs : tySize P e = some sz) (hy : (σ.eval Γ y).int? = some (k, i, s))
 (hq : idxX sz n (σ.eval Γ x) i s = some (true, c, q)) : SemV P Γ o σ q σ.ob σ.nm := by
 cases s with
 | false =>
  simp only [idxX] at hq
  split at hq
  · rename_i q' hq'
    cases hq
    refine SemV.indexAddr (k := k) ho ht hs ?_ hq'
    generalize σ.eval Γ y = v at hy
    cases v <;> simp [V.int?] at hy
    obtain ⟨rfl, rfl⟩ := hy
    rfl
  · cases hq
 | true =>
  simp only [idxX] at hq
  split at hq <;> try cases hq
  case h_2 m ys k' off hxl =>
   split at hq <;> try cases hq
   rename_i yv hyv
   split at hq <;> try cases hq
   rename_i z hz
   split at hq
   · rename_i hall
     simp only [Bool.and_eq_true, beq_iff_eq, decide_eq_true_eq] at hall
     simp only [Option.some.injEq, Prod.mk.injEq, decide_eq_true_eq] at hq
     obtain ⟨⟨h0, h1⟩, _, rfl⟩ := hq
     refine SemV.of_pure fun G a w hr => ?_
     have hiy := int?_eq hy (hr.eval y)
     have hx := hr.eval x
     rw [hxl] at hx
     have hu := tyElem_array ht
     generalize he : a.eval x = c at hx
     cases hx with
     | @pel _ _ _ b o0 sz0 cvs g1 g2 g3 g4 =>
      have hym : yv ∈ ys := List.mem_of_getElem? hyv
      have hi : i.toNat < m + 1 := by omega
      have hfl : ∀ j v, yv.cells[j]? = some v → (flat ys)[k' * sz0 + j]? = some v := flat_get g1 hyv
      have hlen2 : (flat ys).length = ys.length * sz0 := flat_length g1
      have hk' : k' < ys.length := by
       rcases Nat.lt_or_ge k' ys.length with h' | h'
       · exact h'
       · simp [List.getElem?_eq_none h'] at hyv
      have hkk : k' * sz0 + sz0 ≤ ys.length * sz0 := by rw [← Nat.succ_mul]; exact Nat.mul_le_mul_right _ hk'
      have hys : yv.cells.length = sz0 := g1 _ hym
      have hoff : off + (m + 1) * sz ≤ yv.cells.length := hall.2
      have his : i.toNat * sz + sz ≤ (m + 1) * sz := by rw [← Nat.succ_mul]; exact Nat.mul_le_mul_right _ hi
      generalize hE : i.toNat * sz = E at *
      have hwhole : VRel G (.agg ((yv.cells.drop (off + E)).take sz)) (.agg ((cvs.drop (k' * sz0 + (off + E))).take sz).toArray) := by
       refine VRel.mk_agg ⟨by simp [g2, hlen2]; omega, fun j v cv q1 q2 => ?_⟩
       simp only [List.getElem?_take] at q1 q2
       split at q1
       · rename_i hj
         simp only [hj, if_true] at q2
         rw [List.getElem?_drop] at q1 q2
         have := hfl _ _ q1
         rw [← Nat.add_assoc] at this
         exact g4 _ _ _ this q2
       · cases q1
      have hget : ((List.range (m + 1)).map fun j => V.agg ((yv.cells.drop (off + j * sz)).take sz))[i.toNat]? = some (V.agg ((yv.cells.drop (off + E)).take sz)) := by
       rw [List.getElem?_map, List.getElem?_range hi, ← hE]
       rfl
      have hz' := selV_cells hz h0 hget (.inr ⟨rfl, hall.1.1⟩) hwhole
      refine ⟨.pointer (some ⟨b, o0 + (k' * sz0 + off) + E, none⟩), ?_, ?_⟩
      · have h1' : i < (m : Int) + 1 := by omega
        simp [execOp, ho, Instr.indexAt, hiy, asIntOf, run_underlying hu, he, Instr.sureAddr, h0, h1', run_sizeOf hs, add_none, hE]
      · have := VRel.pel (G := G) (xs := [z]) (k := 0) (off := 0) (b := b) (o0 := o0 + (k' * sz0 + off) + E) (sz := sz) (cvs := (cvs.drop (k' * sz0 + (off + E))).take sz)
         (by simpa using hall.1.2) (by rw [List.length_take, List.length_drop, g2, hlen2, show flat [z] = z.cells by simp [flat], hall.1.2]; omega)
         (fun j cv q1 => by
          rw [List.getElem?_take] at q1
          split at q1
          · rw [List.getElem?_drop] at q1
            have := g3 _ _ q1
            rw [← this]
            congr 1
            omega
          · cases q1)
         (fun j v cv q1 q2 => by
          have q1 : z.cells[j]? = some v := by simpa [flat] using q1
          exact hz'.2 j v cv q1 q2)
        simpa using this
   · cases hq
  rename_i t xs hxl
  split at hq <;> try cases hq
  rename_i x0 rest
  split at hq <;> try cases hq
  rename_i z hz
  split at hq
  · rename_i hall
    simp only [Option.some.injEq, Prod.mk.injEq, decide_eq_true_eq] at hq
    obtain ⟨⟨h0, h1⟩, _, rfl⟩ := hq
    refine SemV.of_pure fun G a w hr => ?_
    have hiy := int?_eq hy (hr.eval y)
    have hx := hr.eval x
    rw [hxl] at hx
    have hu := tyElem_slice ht
    generalize he : a.eval x = c at hx
    simp only [Bool.and_eq_true, Bool.or_eq_true, beq_iff_eq] at hall
    have hall1 := hall.1
    simp only [List.all_eq_true, beq_iff_eq] at hall1
    generalize hL : (x0 :: rest) = L at *
    have hlt : i.toNat < L.length := by omega
    cases hx with
    | lst0 => simp at hlt
    | lst1 => simp at hlt
    | @lst _ _ b off cap sz0 cvs g1 g2 g3 g4 g5 g6 =>
     have hget : L[i.toNat]? = some L[i.toNat] := List.getElem?_eq_getElem hlt
     have hmem : L[i.toNat] ∈ L := List.getElem_mem hlt
     have hsz : sz0 = sz := (g1 _ hmem).symm.trans (hall1 _ hmem)
     subst hsz
     refine ⟨.pointer (some ⟨b, off + i.toNat * sz0, none⟩), ?_, ?_⟩
     · simp [execOp, ho, Instr.indexAt, hiy, asIntOf, run_underlying hu, he, h0, h1, run_sizeOf hs, add_none]
     · -- the element alone is a row of its own
       have hfl : ∀ j v, (L[i.toNat]).cells[j]? = some v → (flat L)[i.toNat * sz0 + j]? = some v := flat_get g1 hget
       have hlen2 : (flat L).length = L.length * sz0 := flat_length g1
       have hkk : i.toNat * sz0 + sz0 ≤ L.length * sz0 := by rw [← Nat.succ_mul]; exact Nat.mul_le_mul_right _ hlt
       have hwhole : VRel G (.agg (L[i.toNat]).cells) (.agg ((cvs.drop (i.toNat * sz0)).take sz0).toArray) := by
        refine VRel.mk_agg ⟨by simp [g2, hlen2, hall1 _ hmem]; omega, fun j v cv q1 q2 => ?_⟩
        simp only [List.getElem?_take] at q2
        split at q2
        · rw [List.getElem?_drop] at q2
          exact g4 _ _ _ (hfl j v q1) q2
        · cases q2
       have hz' := selV_cells hz h0 hget (hall.2.2.imp (fun q => ⟨List.all_eq_true.1 q.1 _ hmem, q.2⟩) (fun q => ⟨List.all_eq_true.1 q.1 _ hmem, q.2⟩)) hwhole
       have := VRel.pel (G := G) (xs := [z]) (k := 0) (off := 0) (b := b) (o0 := off + i.toNat * sz0) (sz := sz0) (cvs := (cvs.drop (i.toNat * sz0)).take sz0)
        (by simpa using hall.2.1) (by rw [List.length_take, List.length_drop, g2, hlen2, show flat [z] = z.cells by simp [flat], hall.2.1]; omega)
        (fun j cv q1 => by
         rw [List.getElem?_take] at q1
         split at q1
         · rw [List.getElem?_drop] at q1
           have := g3 _ _ q1
           rwa [← Nat.add_assoc] at this
         · cases q1)
        (fun j v cv q1 q2 => by
         have q1 : z.cells[j]? = some v := by simpa [flat] using q1
         exact hz'.2 j v cv q1 q2)
       simpa using this
  · cases hq
where
 selV_cells {xs : List V} {i : Int} {z x : V} {cvs : List Value} {G : Gh} (h : selV xs i = some z) (h0 : 0 ≤ i) (hx : xs[i.toNat]? = some x) (hk : (x.one = true ∧ z.one = true) ∨ (x.isAgg = true ∧ z.isAgg = true)) (hr : VRel G (.agg x.cells) (.agg cvs.toArray)) : Rels G z.cells cvs := by
  obtain ⟨c, e, hc⟩ := hr.agg_form
  have e : cvs.toArray = c := by cases e; rfl
  subst e
  have hc : Rels G x.cells cvs := by simpa using hc
  rcases hk with ⟨k1, k2⟩ | ⟨k1, k2⟩
  · have e1 : x.cells = [x] := by cases x <;> simp [V.one, V.cells] at k1 ⊢
    have e2 : z.cells = [z] := by cases z <;> simp [V.one, V.cells] at k2 ⊢
    rw [e1] at hc
    rw [e2]
    match cvs, hc.1 with
    | [cv], _ => exact Rels.cons (selV_ok xs i z h h0 x hx G cv (hc.2 0 x cv rfl rfl)) (Rels.nil G)
  · obtain ⟨cs, rfl⟩ : ∃ cs, x = .agg cs := by cases x <;> simp [V.isAgg] at k1 ⊢
    obtain ⟨zs, rfl⟩ : ∃ cs, z = .agg cs := by cases z <;> simp [V.isAgg] at k2 ⊢
    have hv : VRel G (.agg cs) (.agg cvs.toArray) := VRel.mk_agg (by simpa [V.cells] using hc)
    have := selV_ok xs i _ h h0 _ hx G _ hv
    obtain ⟨c, e, hc⟩ := this.agg_form
    have e : cvs.toArray = c := by cases e; rfl
    subst e
    simpa [V.cells] using hc
end
end Go.Proofs.Ytofbchcclkejgaa

/- Plain data read off values; lists and buffers: elements, parts. -/
set_option linter.unusedVariables false
set_option linter.unusedSimpArgs false
namespace Go.Proofs.Ytofbchcclkejgaa
open Go
def optMap {α β : Type} (f : α → Option β) : List α → Option (List β)
 | [] => some []
 | a :: as => match f a, optMap f as with | some b, some bs => some (b :: bs) | _, _ => none
def boolC : List V → Option (Bool × List V)
 | .b x :: vs => some (x, vs)
 | .sb x :: vs => some (x, vs)
 | _ => none
def intC (k : IntKind) : List V → Option (Int × List V)
 | .i k' n :: vs => if k' = k then some (n, vs) else none
 | .si k' n :: vs => if k' = k then some (n, vs) else none
 | _ => none
def strC : List V → Option (ByteArray × List V)
 | .s x :: vs => some (x, vs)
 | .ss x :: vs => some (x, vs)
 | _ => none
def whole {α : Type} (f : List V → Option (α × List V)) (v : V) : Option α := match f v.cells with | some (x, []) => some x | _ => none
def sliceC (e : Ty) (f : List V → Option (e.den × List V)) : List V → Option (List e.den × List V)
 | .slst _ ty l :: vs => match listAs e l with | some l' => some (l', vs) | none => none
 | .lst _ xs :: vs => match optMap (whole f) xs with | some l' => some (l', vs) | none => none
 | _ => none
mutual
def Ty.ofC : (t : Ty) → List V → Option (t.den × List V)
 | .bool => boolC
 | .int k => intC k
 | .str => strC
 | .agg fs => Ty.ofCs fs
 | .slice e => sliceC e (Ty.ofC e)
def Ty.ofCs : (ts : List Ty) → List V → Option (Ty.dens ts × List V)
 | [] => fun cs => some ((), cs)
 | t :: ts => fun cs => match Ty.ofC t cs with | some (x, r) => (match Ty.ofCs ts r with | some (y, r') => some ((x, y), r') | none => none) | none => none
end
def Ty.isAgg : Ty → Bool
 | .agg _ => true
 | _ => false
def V.isAggV : V → Bool
 | .agg _ => true
 | _ => false
def Ty.ofV (t : Ty) (v : V) : Option t.den := if t.isAgg == v.isAggV then whole t.ofC v else none
def Ty.ofVs : (ts : List Ty) → List V → Option (Ty.dens ts)
 | [], [] => some ()
 | t :: ts, v :: vs => match t.ofV v, Ty.ofVs ts vs with | some x, some y => some (x, y) | _, _ => none
 | _, _ => none
mutual
theorem Ty.cells_len : ∀ (t : Ty) (x : t.den), (t.cells x).length = t.size
 | .bool, x => rfl
 | .int k, x => rfl
 | .str, x => rfl
 | .agg fs, x => Ty.cellss_len fs x
 | .slice e, x => rfl
theorem Ty.cellss_len : ∀ (ts : List Ty) (x : Ty.dens ts), (Ty.cellss ts x).length = Ty.sizes ts
 | [], x => rfl
 | t :: ts, x => by simp only [Ty.cellss, List.length_append, Ty.sizes, Ty.cells_len t x.1, Ty.cellss_len ts x.2]
end
theorem Ty.val_cells (t : Ty) (x : t.den) : (t.val x).cells = t.cells x := by cases t <;> rfl
theorem Ty.val_len (t : Ty) (x : t.den) : (t.val x).cells.length = t.size := by rw [Ty.val_cells, Ty.cells_len]
theorem Rels.split {G : Gh} {a b : List V} {c : List Value} (h : Rels G (a ++ b) c) : Rels G a (c.take a.length) ∧ Rels G b (c.drop a.length) := by
 constructor
 · have := h.take a.length
   rwa [List.take_left'] at this
   rfl
 · have := h.drop a.length
   rwa [List.drop_left'] at this
   rfl
theorem Rels.join {G : Gh} {a b : List V} {c : List Value} (n : Nat) (h : Rels G a (c.take n)) (k : Rels G b (c.drop n)) : Rels G (a ++ b) c := by
 have := h.append k
 rwa [List.take_append_drop] at this
def CellsOk (e : Ty) (f : List V → Option (e.den × List V)) : Prop := ∀ cs x r, f cs = some (x, r) → cs.length = e.size + r.length ∧ ∀ (G : Gh) (cvs : List Value), Rels G cs cvs → Rels G (e.cells x ++ r) cvs
theorem whole_ok {e : Ty} {f : List V → Option (e.den × List V)} (hf : CellsOk e f) {v : V} {x : e.den} (h : whole f v = some x) : v.cells.length = e.size ∧ ∀ (G : Gh) (cvs : List Value), Rels G v.cells cvs → Rels G (e.cells x) cvs := by
 unfold whole at h
 split at h
 · rename_i y hy
   cases h
   obtain ⟨h1, h2⟩ := hf _ _ _ hy
   refine ⟨by simpa using h1, fun G cvs hr => ?_⟩
   have := h2 G cvs hr
   rwa [List.append_nil] at this
 · cases h
theorem optMap_ok {e : Ty} {f : List V → Option (e.den × List V)} (hf : CellsOk e f) : ∀ {xs : List V} {l : List e.den}, optMap (whole f) xs = some l → l.length = xs.length ∧ (∀ v ∈ xs, v.cells.length = e.size) ∧ ∀ (G : Gh) (cvs : List Value), Rels G (flat xs) cvs → Rels G (flat (l.map e.val)) cvs
 | [], l, h => by simp [optMap] at h; subst h; exact ⟨rfl, (fun v hv => by cases hv), (fun G cvs hr => hr)⟩
 | v :: vs, l, h => by
  simp only [optMap] at h
  split at h
  · rename_i x l' h1 h2
    cases h
    obtain ⟨a1, a2⟩ := whole_ok hf h1
    obtain ⟨b1, b2, b3⟩ := optMap_ok hf h2
    refine ⟨by simp [b1], fun u hu => ?_, fun G cvs hr => ?_⟩
    · rcases List.mem_cons.1 hu with rfl | hu
      · exact a1
      · exact b2 u hu
    · rw [flat_cons] at hr
      rw [List.map_cons, flat_cons, Ty.val_cells]
      exact Rels.join v.cells.length (a2 G _ hr.split.1) (b3 G _ hr.split.2)
  · cases h
theorem lst_as {e : Ty} {f : List V → Option (e.den × List V)} (hf : CellsOk e f) {xs : List V} {l : List e.den} (h : optMap (whole f) xs = some l) {G : Gh} {t : Tag} {cv : Value} (hr : VRel G (.lst t xs) cv) : VRel G (.lst t (l.map e.val)) cv := by
 obtain ⟨h1, h2, h3⟩ := optMap_ok hf h
 cases hr with
 | lst0 =>
  have : l = [] := List.length_eq_zero_iff.1 (by simpa using h1)
  subst this
  exact .lst0 _ _
 | lst1 p cap =>
  have : l = [] := List.length_eq_zero_iff.1 (by simpa using h1)
  subst this
  exact .lst1 p cap
 | lst hsz hl hm hv hc ht =>
  have hrel := h3 G _ ⟨hl, hv⟩
  have hlen : (l.map e.val).length = xs.length := by simpa using h1
  rw [← hlen]
  rw [← hlen] at hc ht
  refine .lst (sz := e.size) (fun v hv => ?_) hrel.1 hm hrel.2 hc (by cases t <;> exact ht)
  obtain ⟨x, _, rfl⟩ := List.mem_map.1 hv
  exact Ty.val_len e x
theorem sliceC_ok {e : Ty} {f : List V → Option (e.den × List V)} (hf : CellsOk e f) : CellsOk (.slice e) (sliceC e f) := by
 intro cs x r h
 unfold sliceC at h
 split at h
 · split at h
   · rename_i l' hl
     cases h
     refine ⟨by simp [Ty.size]; omega, fun G cvs hr => ⟨hr.1, fun j v cv h1 h2 => ?_⟩⟩
     cases j with
     | zero =>
      simp [Ty.cells] at h1
      subst h1
      have := hr.2 0 _ cv rfl h2
      cases this with
      | slst q => exact .slst (by rw [listAs_eq hl]; exact q.lst_ro)
     | succ j => exact hr.2 (j + 1) v cv (by simpa [Ty.cells] using h1) h2
   · cases h
 · split at h
   · rename_i l' hl
     cases h
     refine ⟨by simp [Ty.size]; omega, fun G cvs hr => ⟨hr.1, fun j v cv h1 h2 => ?_⟩⟩
     cases j with
     | zero =>
      simp [Ty.cells] at h1
      subst h1
      exact .slst (lst_as hf hl (hr.2 0 _ cv rfl h2).lst_ro)
     | succ j => exact hr.2 (j + 1) v cv (by simpa [Ty.cells] using h1) h2
   · cases h
 · cases h
mutual
theorem Ty.ofC_ok : ∀ (t : Ty), CellsOk t t.ofC
 | .bool => by
  intro cs x r h
  simp only [Ty.ofC] at h
  unfold boolC at h
  split at h
  · cases h
    refine ⟨by simp [Ty.size]; omega, fun G cvs hr => ⟨hr.1, fun j v cv h1 h2 => ?_⟩⟩
    cases j with
    | zero => simp [Ty.cells] at h1; subst h1; have := hr.2 0 _ cv rfl h2; cases this; exact .sb _
    | succ j => exact hr.2 (j + 1) v cv (by simpa [Ty.cells] using h1) h2
  · cases h
    exact ⟨by simp [Ty.size]; omega, fun G cvs hr => hr⟩
  · cases h
 | .int k => by
  intro cs x r h
  simp only [Ty.ofC] at h
  unfold intC at h
  split at h
  · split at h
    · rename_i hk
      subst hk
      cases h
      refine ⟨by simp [Ty.size]; omega, fun G cvs hr => ⟨hr.1, fun j v cv h1 h2 => ?_⟩⟩
      cases j with
      | zero => simp [Ty.cells] at h1; subst h1; have := hr.2 0 _ cv rfl h2; cases this; exact .si _ _
      | succ j => exact hr.2 (j + 1) v cv (by simpa [Ty.cells] using h1) h2
    · cases h
  · split at h
    · rename_i hk
      subst hk
      cases h
      exact ⟨by simp [Ty.size]; omega, fun G cvs hr => hr⟩
    · cases h
  · cases h
 | .str => by
  intro cs x r h
  simp only [Ty.ofC] at h
  unfold strC at h
  split at h
  · cases h
    refine ⟨by simp [Ty.size]; omega, fun G cvs hr => ⟨hr.1, fun j v cv h1 h2 => ?_⟩⟩
    cases j with
    | zero => simp [Ty.cells] at h1; subst h1; have := hr.2 0 _ cv rfl h2; cases this; exact .ss _
    | succ j => exact hr.2 (j + 1) v cv (by simpa [Ty.cells] using h1) h2
  · cases h
    exact ⟨by simp [Ty.size]; omega, fun G cvs hr => hr⟩
  · cases h
 | .agg fs => fun cs x r h => Ty.ofCs_ok fs cs x r h
 | .slice e => sliceC_ok (Ty.ofC_ok e)
theorem Ty.ofCs_ok : ∀ (ts : List Ty) (cs : List V) (x : Ty.dens ts) (r : List V), Ty.ofCs ts cs = some (x, r) → cs.length = Ty.sizes ts + r.length ∧ ∀ (G : Gh) (cvs : List Value), Rels G cs cvs → Rels G (Ty.cellss ts x ++ r) cvs
 | [], cs, x, r, h => by simp [Ty.ofCs] at h; obtain ⟨_, rfl⟩ := h; exact ⟨by simp [Ty.sizes], fun G cvs hr => hr⟩
 | t :: ts, cs, x, r, h => by
  simp only [Ty.ofCs] at h
  split at h
  · rename_i y r1 h1
    split at h
    · rename_i z r2 h2
      cases h
      obtain ⟨a1, a2⟩ := Ty.ofC_ok t _ _ _ h1
      obtain ⟨b1, b2⟩ := Ty.ofCs_ok ts _ _ _ h2
      refine ⟨by simp only [Ty.sizes]; omega, fun G cvs hr => ?_⟩
      have q := a2 G cvs hr
      simp only [Ty.cellss, List.append_assoc]
      exact Rels.join (t.cells y).length q.split.1 (b2 G _ q.split.2)
    · cases h
  · cases h
end
theorem Ty.ofV_ok {t : Ty} {v : V} {x : t.den} (h : t.ofV v = some x) {G : Gh} {cv : Value} (hr : VRel G v cv) : VRel G (t.val x) cv := by
 unfold Ty.ofV at h
 split at h
 · rename_i hb
   obtain ⟨h1, h2⟩ := whole_ok (Ty.ofC_ok t) h
   have hany : v ≠ .any := by
    rintro rfl
    unfold whole at h
    cases t <;> simp [V.cells, Ty.ofC, boolC, intC, strC, sliceC, Ty.isAgg, V.isAggV] at h hb
   have hc := h2 G _ (hr.cells hany)
   cases t with
   | agg fs =>
    cases v <;> simp [Ty.isAgg, V.isAggV] at hb
    cases hr with
    | agg hl hh => exact VRel.mk_agg hc
   | _ =>
    have hone : v.cells = [v] := by cases v <;> first | rfl | (simp [Ty.isAgg, V.isAggV] at hb)
    have hcv : cv.cells.toList = [cv] := by
     have := hr.cells hany
     rw [hone] at this
     obtain ⟨l1, l2⟩ := this
     cases cv <;> first | rfl | (cases v <;> first | (cases hr; done) | (simp [Ty.isAgg, V.isAggV] at hb; done) | (exact absurd rfl hany) | (cases hr; rename_i q; obtain ⟨_, _, e⟩ := q.slice_form; cases e))
    rw [hcv] at hc
    exact hc.2 0 _ cv rfl rfl
 · cases h
theorem Ty.ofVs_ok : ∀ {ts : List Ty} {vs : List V} {x : Ty.dens ts}, Ty.ofVs ts vs = some x → ∀ {G : Gh} {cvs : List Value}, Rels G vs cvs → Rels G (Ty.vals ts x) cvs
 | [], [], x, h, G, cvs, hr => hr
 | [], v :: vs, x, h, G, cvs, hr => by cases h
 | t :: ts, [], x, h, G, cvs, hr => by cases h
 | t :: ts, v :: vs, x, h, G, cvs, hr => by
  simp only [Ty.ofVs] at h
  split at h
  · rename_i y z h1 h2
    cases h
    match cvs, hr.1 with
    | c :: cs, _ => exact Rels.cons (Ty.ofV_ok h1 (hr.2 0 v c rfl rfl)) (Ty.ofVs_ok h2 (by simpa using hr.drop 1))
  · cases h
end Go.Proofs.Ytofbchcclkejgaa

/- Lists of plain data and buffers: elements by an index, loads and stores, parts. -/
set_option linter.unusedVariables false
set_option linter.unusedSimpArgs false
namespace Go.Proofs.Ytofbchcclkejgaa
open Go
section
variable {P : Program} {Γ : Nat → Option V} {G : Gh} {ob : Ob} {nm : Nm} {w : World} {σ : St}
theorem map_getD {α β : Type} {f : α → β} {l : List α} {d : α} {j : Nat} (h : j < l.length) : (l.map f)[j]? = some (f (l.getD j d)) := by
 simp [List.getElem?_eq_getElem h]
theorem VRel.slst_at {t : Tag} {ty : Ty} {l : List ty.den} {cv : Value} (h : VRel G (.slst t ty l) cv) {j : Nat} (hj : j < l.length) :
 ∃ b off cap, cv = .slice (some ⟨b, off, none⟩) l.length cap ∧ VRel G (.pel [ty.val (l.getD j ty.dflt)] 0 0) (.pointer (some ⟨b, off + j * ty.size, none⟩)) := by
 cases h with
 | slst h =>
  generalize hxs : l.map ty.val = xs at h
  have hlen : xs.length = l.length := by rw [← hxs]; simp
  cases h with
  | lst0 => rw [← hlen] at hj; simp at hj
  | lst1 => rw [← hlen] at hj; simp at hj
  | @lst _ _ b off cap sz cvs hsz hl hm hv hc ht =>
   have hj' : j < xs.length := by omega
   have hel : xs[j]? = some (ty.val (l.getD j ty.dflt)) := by rw [← hxs]; exact map_getD hj
   have hs : sz = ty.size := by rw [← hsz _ (List.mem_of_getElem? hel)]; exact Ty.val_len _ _
   subst hs
   refine ⟨b, off, cap, by rw [hlen], ?_⟩
   have hfl : ∀ i v, (ty.val (l.getD j ty.dflt)).cells[i]? = some v → (flat xs)[j * ty.size + i]? = some v := fun i v hi => flat_get hsz hel i v hi
   have hll := flat_length hsz
   have hjj : j * ty.size + ty.size ≤ xs.length * ty.size := by rw [← Nat.succ_mul]; exact Nat.mul_le_mul_right _ hj'
   have hvl : (ty.val (l.getD j ty.dflt)).cells.length = ty.size := Ty.val_len _ _
   have key : VRel G (.pel [ty.val (l.getD j ty.dflt)] 0 0) (.pointer (some ⟨b, (off + j * ty.size) + (0 * ty.size + 0), none⟩)) := by
    refine VRel.pel (sz := ty.size) (cvs := (cvs.drop (j * ty.size)).take ty.size) (fun x hx => ?_) ?_ (fun i cv hi => ?_) (fun i v cv h1 h2 => ?_)
    · simp at hx; subst hx; exact hvl
    · simp only [flat, List.flatMap_cons, List.flatMap_nil, List.append_nil, List.length_take, List.length_drop]; rw [hvl]; omega
    · rw [List.getElem?_take] at hi
      split at hi
      · rw [List.getElem?_drop] at hi
        rw [Nat.add_assoc]
        exact hm _ _ hi
      · cases hi
    · rw [List.getElem?_take] at h2
      split at h2
      · rw [List.getElem?_drop] at h2
        simp [flat] at h1
        exact hv _ _ _ (hfl i v h1) h2
      · cases h2
   simpa using key
theorem SemV.index_slst {o : Oper} {T e : TypeId} {x y : Operand} {sz : Nat} {k : IntKind} {i : Int} {s : Bool} {t : Tag} {ty : Ty} {l : List ty.den} (ho : o.op = .indexAddr T x y) (ht : tyElem P T = some (none, e)) (hs : tySize P e = some sz) (hz : ty.size = sz)
 (hx : σ.eval Γ x = .slst t ty l) (hy : (σ.eval Γ y).int? = some (k, i, s)) (hi : 0 ≤ i ∧ i < (l.length : Int)) : SemV P Γ o σ (.pel [ty.val (l.getD i.toNat ty.dflt)] 0 0) σ.ob σ.nm :=
 SemV.of_pure fun G a w hr => by
  have hiy := int?_eq hy (hr.eval y)
  have hxx := hr.eval x
  rw [hx] at hxx
  obtain ⟨b, off, cap, he, hp⟩ := hxx.slst_at (j := i.toNat) (by omega)
  subst hz
  exact ⟨_, by simp [execOp, ho, Instr.indexAt, hiy, asIntOf, run_underlying (tyElem_slice ht), he, hi.1, hi.2, run_sizeOf hs, add_none], hp⟩
theorem SemV.index_bs {o : Oper} {T e : TypeId} {x y : Operand} {sz : Nat} {k : IntKind} {i : Int} {s : Bool} {sy : Bool} {n off len : Nat} {c : BC} (ho : o.op = .indexAddr T x y) (ht : tyElem P T = some (none, e)) (hs : tySize P e = some sz) (hz : c.sz = sz)
 (hx : σ.eval Γ x = .bs sy n off len) (hn : σ.nm[n]? = some (some (.live c))) (hy : (σ.eval Γ y).int? = some (k, i, s)) (hi : 0 ≤ i ∧ i < (len : Int)) : SemV P Γ o σ (.bp n (off + i.toNat) 0) σ.ob σ.nm :=
 SemV.of_pure fun G a w hr => by
  have hiy := int?_eq hy (hr.eval y)
  have hxx := hr.eval x
  rw [hx] at hxx
  generalize he : a.eval x = cv at hxx
  cases hxx with
  | bs0 => simp at hi; omega
  | bs1 => simp at hi; omega
  | @bs _ _ _ _ tl hT hl =>
   have B := hr.wr.hnm n c tl hn hT
   have hsz : tl.sz = sz := B.sz.trans hz
   refine ⟨_, ?_, VRel.bp (i := off + i.toNat) (off := 0) hT⟩
   simp [execOp, ho, Instr.indexAt, hiy, asIntOf, run_underlying (tyElem_slice ht), he, hi.1, hi.2, run_sizeOf hs, add_none, hsz, Nat.add_mul, Nat.add_assoc]
def BC.at (c : BC) (i : Nat) : Option (Bool × Bool × List V) :=
 match c with
 | .cs _ xs => match xs[i]? with | some v => some (true, false, v.cells) | none => none
 | .arr ty l => some (decide (i < l.length), true, ty.cells (l.getD i ty.dflt))
 | .u8 _ _ _ => none
theorem BC.at_ok {c : BC} {i : Nat} {s : Bool} {cs : List V} (h : c.at i = some (true, s, cs)) : ∃ v, c.els[i]? = some v ∧ v.cells = cs := by
 cases c with
 | cs sz xs =>
  simp only [BC.at] at h
  split at h
  · rename_i v hv; cases h; exact ⟨v, hv, rfl⟩
  · cases h
 | arr ty l =>
  simp only [BC.at, Option.some.injEq, Prod.mk.injEq, decide_eq_true_eq] at h
  obtain ⟨h1, _, rfl⟩ := h
  exact ⟨_, map_getD h1, Ty.val_cells _ _⟩
 | u8 sy E l => cases h
theorem VRel.bp_at {n i off : Nat} {c : BC} {cp : Value} {s : Bool} {cs : List V} (hw : WRel Γ G ob nm w) (hn : nm[n]? = some (some (.live c))) (ha : c.at i = some (true, s, cs)) (hp : VRel G (.bp n i off) cp) :
 ∃ (x : Tail) (cvs : Array Value) (E : TypeId) (fr : Nat × Nat), G.T n = some x ∧ cp = .pointer (some ⟨x.b, x.lo + (i * x.sz + off), none⟩) ∧ BufOk G w x c ∧ w.heap[x.b]? = some (.cells cvs E fr) ∧ (fr = (0, 0) ∨ cvs.size ≤ fr.1) ∧ x.lo + x.cap * x.sz ≤ cvs.size ∧
  cs.length = x.sz ∧ i < x.len ∧ Rels G (flat c.els) ((cvs.toList.drop x.lo).take (flat c.els).length) ∧ Rels G cs ((cvs.toList.drop (x.lo + i * x.sz)).take cs.length) := by
 obtain ⟨v, hv, rfl⟩ := BC.at_ok ha
 cases hp with
 | @bp _ _ _ x hT =>
  have B := hw.hnm n c x hn hT
  obtain ⟨cvs, E, fr, e1, e2, e3, e4⟩ := B.row
  have hvl : v.cells.length = x.sz := (B.el v (List.mem_of_getElem? hv)).trans B.sz.symm
  have hil : i < x.len := by rw [← B.len, ← BC.els_len]; exact get_lt' hv
  refine ⟨x, cvs, E, fr, hT, rfl, B, e1, e2, e3, hvl, hil, e4, ?_⟩
  have hel : ∀ u ∈ c.els, u.cells.length = x.sz := fun u hu => (B.el u hu).trans B.sz.symm
  have hll := flat_length hel
  have hjj : i * x.sz + x.sz ≤ c.els.length * x.sz := by rw [← Nat.succ_mul]; exact Nat.mul_le_mul_right _ (by rw [BC.els_len, B.len]; exact hil)
  refine ⟨?_, fun j u cv h1 h2 => ?_⟩
  · have := e4.1
    simp at this ⊢
    omega
  · have hj : j < v.cells.length := get_lt' h1
    have hf := flat_get hel hv j u h1
    rw [List.getElem?_take, if_pos hj, List.getElem?_drop] at h2
    refine e4.2 (i * x.sz + j) u cv hf ?_
    rw [List.getElem?_take, if_pos (by omega), List.getElem?_drop, ← Nat.add_assoc]
    exact h2
where
 get_lt' {α : Type} {l : List α} {i : Nat} {a : α} (h : l[i]? = some a) : i < l.length := by
  rcases Nat.lt_or_ge i l.length with h' | h'
  · exact h'
  · rw [List.getElem?_eq_none h'] at h; cases h
theorem SemV.load_bp {o : Oper} {T : TypeId} {x : Operand} {agg : Bool} {sz n i off : Nat} {c : BC} {s : Bool} {cs : List V} {v : V} (ho : o.op = .load T x) (ha : tyAgg P T = some agg) (hs : tySize P T = some sz) (hx : σ.eval Γ x = .bp n i off) (hn : σ.nm[n]? = some (some (.live c)))
 (hc : c.at i = some (true, s, cs)) (hg : getV agg sz cs off = some v) : SemV P Γ o σ v σ.ob σ.nm :=
 SemV.of_pure fun G a w hr => by
  have hxx := hr.eval x
  rw [hx] at hxx
  obtain ⟨x', cvs, E, fr, hT, he, B, e1, _, _, hcl, _, _, e5⟩ := hxx.bp_at hr.wr hn hc
  obtain ⟨cv, h1, h2⟩ := run_loadVar_at (P := P) ha hs hg e5 x'.b (x'.lo + i * x'.sz) w (fun j cv hj => by
   rw [cell_row e1]
   rw [List.getElem?_take] at hj
   split at hj
   · rw [List.getElem?_drop] at hj
     simpa using hj
   · cases hj)
  rw [Nat.add_assoc] at h1
  exact ⟨cv, by simp [execOp, ho, Instr.loadAt, Instr.sureAddr, he, h1], h2⟩
end
end Go.Proofs.Ytofbchcclkejgaa

/- Parts of lists, buffers and strings. -/
set_option linter.unusedVariables false
set_option linter.unusedSimpArgs false
namespace Go.Proofs.Ytofbchcclkejgaa
open Go
section
variable {P : Program} {Γ : Nat → Option V} {G : Gh} {ob : Ob} {nm : Nm} {w : World} {σ : St}
abbrev Bd := Option (IntKind × Int × Bool)
def bdE (e : Operand → V) : Option Operand → Option Bd
 | none => some none
 | some x => match (e x).int? with | some r => some (some r) | none => none
def Bd.lo (b : Bd) : Int := match b with | some (_, i, _) => i | none => 0
def Bd.hi (b : Bd) (len : Nat) : Int := match b with | some (_, i, _) => i | none => len
def Bd.sy (b : Bd) : Bool := match b with | some (_, _, s) => s | none => false
def Bd.val (b : Bd) : Option Value := match b with | some (k, i, _) => some (.int k i) | none => none
theorem bd_val {a : Act} (hr : Rel Γ G σ a w) {x : Option Operand} {b : Bd} (h : bdE (σ.eval Γ) x = some b) : x.map a.eval = b.val := by
 cases x with
 | none => cases h; rfl
 | some x =>
  simp only [bdE] at h
  split at h
  · rename_i r hx
    cases h
    obtain ⟨k, i, s⟩ := r
    have := int?_eq hx (hr.eval x)
    simp [Bd.val, this]
  · cases h
theorem run_bounds (isS : Bool) {lo hi : Bd} {len cap : Nat} (h0 : 0 ≤ lo.lo) (h1 : lo.lo ≤ hi.hi len) (h2 : hi.hi len ≤ (cap : Int)) : (Instr.sliceBounds isS len cap lo.val hi.val none).run P w = .ok (lo.lo.toNat, (hi.hi len).toNat, cap) w := by
 cases lo with
 | none =>
  cases hi with
  | none => simp [Instr.sliceBounds, Bd.val, Bd.lo, Bd.hi]
  | some p =>
   obtain ⟨k, i, s⟩ := p
   simp only [Bd.lo, Bd.hi] at h0 h1 h2
   simp [Instr.sliceBounds, Bd.val, Bd.lo, Bd.hi, run_sliceBound, h1, h2]
 | some q =>
  obtain ⟨k', i', s'⟩ := q
  cases hi with
  | none =>
   simp only [Bd.lo, Bd.hi] at h0 h1 h2
   simp [Instr.sliceBounds, Bd.val, Bd.lo, Bd.hi, run_sliceBound, h0, h1]
  | some p =>
   obtain ⟨k, i, s⟩ := p
   simp only [Bd.lo, Bd.hi] at h0 h1 h2
   have e : (i.toNat : Int) = i := Int.toNat_of_nonneg (by omega)
   simp [Instr.sliceBounds, Bd.val, Bd.lo, Bd.hi, run_sliceBound, h0, h1, h2, e, (by omega : 0 ≤ i)]
theorem VRel.lst_part {t : Tag} {xs : List V} {cv : Value} (h : VRel G (.lst t xs) cv) {sz lo hi : Nat} (hsz : ∀ x ∈ xs, x.cells.length = sz) (h1 : lo ≤ hi) (h2 : hi ≤ xs.length) :
 ∃ p cap, cv = .slice p xs.length cap ∧ xs.length ≤ cap ∧ VRel G (.lst .ro ((xs.take hi).drop lo)) (sliced p lo hi cap sz) := by
 cases h with
 | lst0 =>
  simp at h2
  subst h2
  obtain rfl : lo = 0 := by omega
  exact ⟨_, 0, rfl, Nat.le_refl _, by simp [sliced]; exact .lst0 _ _⟩
 | lst1 p cap =>
  simp at h2
  subst h2
  obtain rfl : lo = 0 := by omega
  exact ⟨_, cap, rfl, Nat.zero_le _, by simp [sliced]; split <;> first | exact .lst1 _ _ | exact .lst0 _ _⟩
 | @lst _ _ b off cap sz' cvs hs hl hm hv hc ht =>
  refine ⟨_, cap, rfl, hc, ?_⟩
  have hlen : ((xs.take hi).drop lo).length = hi - lo := by simp; omega
  unfold sliced
  split
  · rename_i hcl
    have h0 : hi - lo = 0 := by omega
    have hnil : (xs.take hi).drop lo = [] := List.length_eq_zero_iff.1 (by omega)
    have key : VRel G (.lst .ro []) (.slice (some ⟨b, off, none⟩) ([] : List V).length (cap - lo)) := .lst (sz := sz) (cvs := []) (by simp) (by simp [flat]) (fun j cv hj => by simp at hj) (fun j v cv hj => by simp [flat] at hj) (by simp) trivial
    rw [hnil, h0]
    exact key
  · have hfl := flat_length hsz
    have e1 : flat ((xs.take hi).drop lo) = ((flat xs).take (hi * sz)).drop (lo * sz) := by
     have a := flat_take_drop (xs := xs.take hi) (fun x hx => hsz x (List.mem_of_mem_take hx)) lo (hi - lo)
     have b := flat_take_drop hsz 0 hi
     simp only [List.drop_zero, Nat.zero_mul] at b
     rw [List.take_of_length_le (by simp; omega)] at a
     rw [a, b, List.take_of_length_le]
     simp
     rw [Nat.sub_mul]
     omega
    have hle : hi * sz ≤ xs.length * sz := Nat.mul_le_mul_right _ h2
    have key : VRel G (.lst .ro ((xs.take hi).drop lo)) (.slice (some ⟨b, off + lo * sz, none⟩) ((xs.take hi).drop lo).length (cap - lo)) := by
     refine .lst (sz := sz) (cvs := (cvs.take (hi * sz)).drop (lo * sz)) (fun x hx => hsz x (List.mem_of_mem_take (List.mem_of_mem_drop hx))) (by rw [e1]; simp; omega) (fun j cv hj => ?_) (fun j v cv q1 q2 => ?_) (by omega) trivial
     · rw [List.getElem?_drop, List.getElem?_take] at hj
       split at hj
       · rw [Nat.add_assoc]; exact hm _ _ hj
       · cases hj
     · rw [e1, List.getElem?_drop, List.getElem?_take] at q1
       rw [List.getElem?_drop, List.getElem?_take] at q2
       split at q1
       · rename_i hj; rw [if_pos hj] at q2; exact hv _ _ _ q1 q2
       · cases q1
    rw [hlen] at key
    simpa [add_none] using key
theorem run_slice_val {T e : TypeId} {sz : Nat} (ht : tyElem P T = some (none, e)) (hs : tySize P e = some sz) {lo hi : Bd} {p : Option Addr} {len cap : Nat} (h0 : 0 ≤ lo.lo) (h1 : lo.lo ≤ hi.hi len) (h2 : hi.hi len ≤ (cap : Int)) :
 (Instr.sliceAt T (.slice p len cap) lo.val hi.val none).run P w = .ok (sliced p lo.lo.toNat (hi.hi len).toNat cap sz) w := by
 have hb := run_bounds (P := P) (w := w) true h0 h1 h2
 simp [Instr.sliceAt, Instr.slice, run_underlying (tyElem_slice ht), hb, run_sizeOf hs, sliced]
theorem SemV.slice_slst {o : Oper} {T e : TypeId} {x : Operand} {low high : Option Operand} {lo hi : Bd} {sz : Nat} {t : Tag} {ty : Ty} {l : List ty.den} (ho : o.op = .slice T x low high none) (ht : tyElem P T = some (none, e)) (hs : tySize P e = some sz) (hz : ty.size = sz)
 (hx : σ.eval Γ x = .slst t ty l) (hlo : bdE (σ.eval Γ) low = some lo) (hhi : bdE (σ.eval Γ) high = some hi) (h0 : 0 ≤ lo.lo) (h1 : lo.lo ≤ hi.hi l.length) (h2 : hi.hi l.length ≤ (l.length : Int)) :
 SemV P Γ o σ (.slst .ro ty ((l.take (hi.hi l.length).toNat).drop lo.lo.toNat)) σ.ob σ.nm :=
 SemV.of_pure fun G a w hr => by
  have hxx := hr.eval x
  rw [hx] at hxx
  subst hz
  cases hxx with
  | slst h =>
   obtain ⟨p, cap, he, hc, hp⟩ := h.lst_part (sz := ty.size) (lo := lo.lo.toNat) (hi := (hi.hi l.length).toNat) (fun v hv => by obtain ⟨z, _, rfl⟩ := List.mem_map.1 hv; exact Ty.val_len _ _) (by omega) (by simp; omega)
   simp only [List.length_map] at he hc
   have hrun := run_slice_val (P := P) (w := w) ht hs (p := p) (cap := cap) h0 h1 (by omega)
   exact ⟨sliced p lo.lo.toNat (hi.hi l.length).toNat cap ty.size, by simp only [execOp, ho, he, bd_val hr hlo, bd_val hr hhi, Option.map_none, Sem.run_bind, hrun, Result.andThen_ok, Sem.run_pure], .slst (by rw [List.map_drop, List.map_take]; exact hp)⟩
theorem SemV.slice_lst {o : Oper} {T e : TypeId} {x : Operand} {low high : Option Operand} {lo hi : Bd} {sz : Nat} {t : Tag} {xs : List V} (ho : o.op = .slice T x low high none) (ht : tyElem P T = some (none, e)) (hs : tySize P e = some sz) (hz : xs.all (fun v => v.cells.length == sz) = true)
 (hx : σ.eval Γ x = .lst t xs) (hlo : bdE (σ.eval Γ) low = some lo) (hhi : bdE (σ.eval Γ) high = some hi) (h0 : 0 ≤ lo.lo) (h1 : lo.lo ≤ hi.hi xs.length) (h2 : hi.hi xs.length ≤ (xs.length : Int)) :
 SemV P Γ o σ (.lst .ro ((xs.take (hi.hi xs.length).toNat).drop lo.lo.toNat)) σ.ob σ.nm :=
 SemV.of_pure fun G a w hr => by
  have hxx := hr.eval x
  rw [hx] at hxx
  obtain ⟨p, cap, he, hc, hp⟩ := hxx.lst_part (sz := sz) (lo := lo.lo.toNat) (hi := (hi.hi xs.length).toNat) (fun v hv => by simpa using List.all_eq_true.1 hz v hv) (by omega) (by omega)
  have hrun := run_slice_val (P := P) (w := w) ht hs (p := p) (cap := cap) h0 h1 (by omega)
  exact ⟨sliced p lo.lo.toNat (hi.hi xs.length).toNat cap sz, by simp only [execOp, ho, he, bd_val hr hlo, bd_val hr hhi, Option.map_none, Sem.run_bind, hrun, Result.andThen_ok, Sem.run_pure], hp⟩
theorem SemV.slice_bs {o : Oper} {T e : TypeId} {x : Operand} {low high : Option Operand} {lo hi : Bd} {sz : Nat} {sy sy' : Bool} {n off len : Nat} {c : BC} (ho : o.op = .slice T x low high none) (ht : tyElem P T = some (none, e)) (hs : tySize P e = some sz) (hz : c.sz = sz)
 (hx : σ.eval Γ x = .bs sy n off len) (hn : σ.nm[n]? = some (some (.live c))) (hlo : bdE (σ.eval Γ) low = some lo) (hhi : bdE (σ.eval Γ) high = some hi) (h0 : 0 ≤ lo.lo) (h1 : lo.lo ≤ hi.hi len) (h2 : hi.hi len ≤ (len : Int)) :
 SemV P Γ o σ (.bs sy' n (off + lo.lo.toNat) ((hi.hi len).toNat - lo.lo.toNat)) σ.ob σ.nm :=
 SemV.of_pure fun G a w hr => by
  have hxx := hr.eval x
  rw [hx] at hxx
  generalize he : a.eval x = cv at hxx
  cases hxx with
  | bs0 =>
   have hrun := run_slice_val (P := P) (w := w) ht hs (p := none) (cap := 0) h0 h1 (by omega)
   have e1 : lo.lo.toNat = 0 := by omega
   have e2 : (hi.hi 0).toNat = 0 := by omega
   rw [e1, e2] at hrun ⊢
   refine ⟨sliced none 0 0 0 sz, by simp only [execOp, ho, he, bd_val hr hlo, bd_val hr hhi, Option.map_none, Sem.run_bind, hrun, Result.andThen_ok, Sem.run_pure], ?_⟩
   simp [sliced]
   exact .bs0 _ _ _
  | bs1 _ _ _ a1 =>
   have hrun := run_slice_val (P := P) (w := w) ht hs (p := some a1) (cap := 0) h0 h1 (by omega)
   have e1 : lo.lo.toNat = 0 := by omega
   have e2 : (hi.hi 0).toNat = 0 := by omega
   rw [e1, e2] at hrun ⊢
   refine ⟨sliced (some a1) 0 0 0 sz, by simp only [execOp, ho, he, bd_val hr hlo, bd_val hr hhi, Option.map_none, Sem.run_bind, hrun, Result.andThen_ok, Sem.run_pure], ?_⟩
   simp [sliced]
   exact .bs1 _ _ _ _
  | @bs _ _ _ _ tl hT hl =>
   have B := hr.wr.hnm n c tl hn hT
   have hsz : tl.sz = sz := B.sz.trans hz
   have hcap := B.cap
   have hrun := run_slice_val (P := P) (w := w) ht hs (p := some ⟨tl.b, tl.lo + off * tl.sz, none⟩) (cap := tl.cap - off) h0 h1 (by omega)
   refine ⟨sliced (some ⟨tl.b, tl.lo + off * tl.sz, none⟩) lo.lo.toNat (hi.hi len).toNat (tl.cap - off) sz, by simp only [execOp, ho, he, bd_val hr hlo, bd_val hr hhi, Option.map_none, Sem.run_bind, hrun, Result.andThen_ok, Sem.run_pure], ?_⟩
   unfold sliced
   split
   · rename_i hcl
     have e1 : (hi.hi len).toNat - lo.lo.toNat = 0 := by omega
     have e2 : tl.cap - off - lo.lo.toNat = 0 := by omega
     rw [e1, e2]
     exact .bs1 _ _ _ _
   · have key : VRel G (.bs sy' n (off + lo.lo.toNat) ((hi.hi len).toNat - lo.lo.toNat)) (.slice (some ⟨tl.b, tl.lo + (off + lo.lo.toNat) * tl.sz, none⟩) ((hi.hi len).toNat - lo.lo.toNat) (tl.cap - (off + lo.lo.toNat))) := .bs hT (by omega)
     have e1 : tl.cap - off - lo.lo.toNat = tl.cap - (off + lo.lo.toNat) := by omega
     rw [e1]
     simpa [add_none, hsz, Nat.add_mul, Nat.add_assoc] using key
theorem SemV.slice_str {o : Oper} {T : TypeId} {x : Operand} {low high : Option Operand} {lo hi : Bd} {s : ByteArray} {sy : Bool} (ho : o.op = .slice T x low high none) (ht : P.underlying T = some .string)
 (hx : (σ.eval Γ x).str? = some (s, sy)) (hlo : bdE (σ.eval Γ) low = some lo) (hhi : bdE (σ.eval Γ) high = some hi) (h0 : 0 ≤ lo.lo) (h1 : lo.lo ≤ hi.hi s.size) (h2 : hi.hi s.size ≤ (s.size : Int)) :
 SemV P Γ o σ (mkS (sy || lo.sy || hi.sy) (s.extract lo.lo.toNat (hi.hi s.size).toNat)) σ.ob σ.nm :=
 SemV.of_pure fun G a w hr => by
  have hs := str?_eq hx (hr.eval x)
  have hb := run_bounds (P := P) (w := w) false h0 h1 h2
  refine ⟨.string (s.extract lo.lo.toNat (hi.hi s.size).toNat), ?_, mkS_rel _ _ _⟩
  simp [execOp, ho, hs, bd_val hr hlo, bd_val hr hhi, Instr.sliceAt, Instr.slice, run_underlying ht, hb]
end
end Go.Proofs.Ytofbchcclkejgaa

