/- The evaluator of one operation, put together. -/
import Derived.Test.YtnjjkobijjdnbaaEv11h
set_option linter.unusedVariables false
set_option linter.unusedSimpArgs false
namespace Go.Proofs.Ytnjjkobijjdnbaa
open Go

section
variable {P : Program} {Γ : Nat → Option V} {G : Gh} {ob : Ob} {nm : Nm} {w : World} {σ : St}

/-! ### Builtins that only compute -/
def lenV : V → Option V
  | .lst t xs => some (.i .i64 (xs.length : Nat))
  | .sl _ _ n => some (.i .i64 (n : Nat))
  | .s x => some (.i .i64 (x.size : Nat))
  | .ss x => some (.si .i64 (x.size : Nat))
  | _ => none
def minmax (mx : Bool) (x y : V) : Option V :=
  match x.int?, y.int? with
  | some (k, a, s), some (k', b, s') => some (mkI (s || s') k (if mx then (if b > a then b else a) else (if b < a then b else a)))
  | _, _ => none
def minmaxL (mx : Bool) : V → List V → Option V
  | x, [] => some x
  | x, y :: ys => match minmax mx x y with | some z => minmaxL mx z ys | none => none
def builtinE (P : Program) (b : Builtin) (ts : Array TypeId) (args : List V) : Option V :=
  match b, args with
  | .len, [x] =>
    match ts[0]? with
    | some T =>
      match x with
      | .lst t xs => if isSliceTy P T then lenV x else none
      | .sl _ _ _ => if isSliceTy P T then lenV x else none
      | .s _ => if isStrTy P T then lenV x else none
      | .ss _ => if isStrTy P T then lenV x else none
      | _ => none
    | none => none
  | .max, x :: rest => match x.int? with | some _ => minmaxL true x rest | none => none
  | .min, x :: rest => match x.int? with | some _ => minmaxL false x rest | none => none
  | _, _ => none

theorem minmax_run {mx : Bool} {x y z : V} {cx cy : Value} (h : minmax mx x y = some z) (hx : VRel G x cx) (hy : VRel G y cy) (w : World) :
    ∃ cz, ((if mx then Builtin.max2 else Builtin.min2) cx cy).run P w = .ok cz w ∧ VRel G z cz := by
  unfold minmax at h
  split at h
  · rename_i h1 h2
    have := int?_eq h1 hx; have := int?_eq h2 hy; subst_vars
    cases h
    cases mx
    · exact ⟨_, rfl, mkI_rel _ _ _ _⟩
    · exact ⟨_, rfl, mkI_rel _ _ _ _⟩
  · cases h
theorem minmaxL_run {mx : Bool} : ∀ {ys : List V} {cys : List Value} {x z : V} {cx : Value} (w : World), minmaxL mx x ys = some z → VRel G x cx → Rels G ys cys →
    ∃ cz, (cys.foldlM (m := Sem) (if mx then Builtin.max2 else Builtin.min2) cx).run P w = .ok cz w ∧ VRel G z cz
  | [], cys, x, z, cx, w, h, hx, hr => by
    have : cys = [] := List.eq_nil_of_length_eq_zero (by simpa using hr.1)
    subst this
    simp [minmaxL] at h
    subst h
    exact ⟨cx, by simp, hx⟩
  | y :: ys, cys, x, z, cx, w, h, hx, hr => by
    cases cys with
    | nil => have := hr.1; simp at this
    | cons cy cys =>
      simp only [minmaxL] at h
      split at h
      · rename_i q hq
        obtain ⟨cq, e1, e2⟩ := minmax_run (P := P) hq hx (hr.2 0 y cy rfl rfl) w
        have hr' : Rels G ys cys := by simpa using hr.drop 1
        obtain ⟨cz, e3, e4⟩ := minmaxL_run w h e2 hr'
        exact ⟨cz, by rw [List.foldlM_cons, Sem.run_bind, e1, Result.andThen_ok, e3], e4⟩
      · cases h
theorem args_rel {a : Act} (hr : Rel Γ G σ a w) (l : List Operand) : Rels G (l.map (σ.eval Γ)) (l.map a.eval) := by
  refine ⟨by simp, fun j v cv g1 g2 => ?_⟩
  simp only [List.getElem?_map, Option.map_eq_some_iff] at g1 g2
  obtain ⟨p, hp, rfl⟩ := g1
  obtain ⟨q, hq, rfl⟩ := g2
  rw [hp] at hq
  cases hq
  exact hr.eval p
theorem SemV.builtin {o : Oper} {c : Call} {b : Builtin} {v : V} (ho : o.op = .call c) (hc : c.callee = .builtin b) (hv : builtinE P b c.argTypes (c.args.toList.map (σ.eval Γ)) = some v) : SemV P Γ o σ v σ.ob σ.nm :=
  SemV.of_pure fun G a w hr => by
    have hargs := args_rel hr c.args.toList
    generalize hvs : c.args.toList.map (σ.eval Γ) = vs at hv hargs
    generalize hcs : c.args.toList.map a.eval = cs at hargs
    have hca : c.args.map a.eval = cs.toArray := by apply Array.ext'; simp [← hcs]
    unfold builtinE at hv
    split at hv
    · -- len
      rename_i x
      split at hv
      · rename_i T hT
        obtain ⟨cx, rfl⟩ : ∃ cx, cs = [cx] := by
          match cs, hargs.1 with
          | [c], _ => exact ⟨c, rfl⟩
        have hx : VRel G x cx := hargs.2 0 x cx rfl rfl
        have key : ∀ (n : Nat), (Builtin.len_ c.argTypes o.type #[cx]).run P w = .ok (.int .i64 n) w → ∃ cv, (execOp a.eval o).run P w = .ok (.value cv) w ∧ VRel G (.i .i64 n) cv := fun n hn =>
          ⟨_, by simp [execOp, ho, resolve, hc, invoke, Go.builtin, hca, hn], .i _ _⟩
        have keys : ∀ (n : Nat), (Builtin.len_ c.argTypes o.type #[cx]).run P w = .ok (.int .i64 n) w → ∃ cv, (execOp a.eval o).run P w = .ok (.value cv) w ∧ VRel G (.si .i64 n) cv := fun n hn =>
          ⟨_, by simp [execOp, ho, resolve, hc, invoke, Go.builtin, hca, hn], .si _ _⟩
        split at hv
        · rename_i t xs
          split at hv
          · rename_i hs
            simp [lenV] at hv
            subst hv
            unfold isSliceTy at hs
            split at hs
            · rename_i e hu
              obtain ⟨p, q, rfl⟩ := hx.slice_form
              exact key _ (by simp [Builtin.len_, hT, run_underlying hu, goInt])
            · cases hs
          · cases hv
        · rename_i o' off n
          split at hv
          · rename_i hs
            simp [lenV] at hv
            subst hv
            unfold isSliceTy at hs
            split at hs
            · rename_i e hu
              cases hx
              exact key _ (by simp [Builtin.len_, hT, run_underlying hu, goInt])
            · cases hs
          · cases hv
        · rename_i s
          split at hv
          · rename_i hs
            simp [lenV] at hv
            subst hv
            unfold isStrTy at hs
            split at hs
            · rename_i hu
              cases hx
              exact key _ (by simp [Builtin.len_, hT, run_underlying hu, goInt])
            · cases hs
          · cases hv
        · rename_i s
          split at hv
          · rename_i hs
            simp [lenV] at hv
            subst hv
            unfold isStrTy at hs
            split at hs
            · rename_i hu
              cases hx
              exact keys _ (by simp [Builtin.len_, hT, run_underlying hu, goInt])
            · cases hs
          · cases hv
        · cases hv
      · cases hv
    · rename_i x rest
      split at hv
      · obtain ⟨cx, crest, rfl⟩ : ∃ cx crest, cs = cx :: crest := by
          match cs, hargs.1 with
          | c :: r, _ => exact ⟨c, r, rfl⟩
        have hx : VRel G x cx := hargs.2 0 x cx rfl rfl
        obtain ⟨cz, e1, e2⟩ := minmaxL_run (P := P) (mx := true) w hv hx (by simpa using hargs.drop 1)
        exact ⟨cz, by simp only [if_true] at e1; simp [execOp, ho, resolve, hc, invoke, Go.builtin, hca, Builtin.max_, e1], e2⟩
      · cases hv
    · rename_i x rest
      split at hv
      · obtain ⟨cx, crest, rfl⟩ : ∃ cx crest, cs = cx :: crest := by
          match cs, hargs.1 with
          | c :: r, _ => exact ⟨c, r, rfl⟩
        have hx : VRel G x cx := hargs.2 0 x cx rfl rfl
        obtain ⟨cz, e1, e2⟩ := minmaxL_run (P := P) (mx := false) w hv hx (by simpa using hargs.drop 1)
        exact ⟨cz, by simp only [Bool.false_eq_true, if_false] at e1; simp [execOp, ho, resolve, hc, invoke, Go.builtin, hca, Builtin.min_, e1], e2⟩
      · cases hv
    · cases hv

/-! ### One operation -/
/-- Operations that take up a place that is kept for them. -/
def allocs (o : Oper) : Bool := match o.op with | .alloc _ | .box _ _ => true | .makeSlice _ _ _ => true | .call c => (match c.callee with | .builtin .append => true | _ => false) | _ => false
abbrev CallF := FuncId → List V → Ob → Nm → Option Out
def evE0 (P : Program) (cf : CallF) (slot : Nat) (o : Oper) (e : Operand → V) (ob : Ob) (nm : Nm) : Option Out :=
  match o.op with
  | .move x => outP (e x)
  | .assign x => outP (e x)
  | .pick c x y =>
    match (e c).bool? with
    | some (t, s) => if s then outO (mergeV t (e x) (e y)) else outP (if t then e x else e y)
    | none => none
  | .alloc T =>
    match tyZero P T with
    | some z => if z.notAny then some ⟨true, false, .ptr slot 0, .mkO slot z.cells⟩ else none
    | none => none
  | .box T x => if (e x).notAny then some ⟨true, false, .ptr slot 0, .mkO slot (e x).cells⟩ else none
  | .build T ps =>
    match tyZero P T with
    | some z =>
      if z.notAny then
        match tyPlaces P T with
        | some pl => match fillV (pl[·]?) z.cells (ps.toList.map fun (i, x) => (i, e x)) with | some cs => outP (.agg cs) | none => none
        | none =>
          match tyElem P T with
          | some (some n, el) =>
            match tySize P el with
            | some sz => match fillV (fun i => some (i * sz, sz)) z.cells (ps.toList.map fun (i, x) => (i, e x)) with | some cs => outP (.agg cs) | none => none
            | none => none
          | _ => none
      else none
    | none => none
  | .buildSlice T len ps =>
    match tyElem P T with
    | some (none, el) =>
      match tySize P el, tyZero P el with
      | some sz, some z =>
        if z.notAny && decide (z.cells.length = sz) && decide (len * sz ≤ 2 ^ 24) then
          match fillE sz (List.replicate len z) (ps.toList.map fun (i, x) => (i, e x)) with | some xs => outP (.lst .full xs) | none => none
        else none
      | _, _ => none
    | _ => none
  | .load T x =>
    match tyAgg P T, tySize P T with
    | some ag, some sz =>
      match e x with
      | .ptr o off => match loadV ag sz ob (.ptr o off) with | some v => some ⟨true, false, v, .rd o⟩ | none => none
      | .pel xs k off => outO (loadV ag sz [] (.pel xs k off))
      | _ => none
    | _, _ => none
  | .store T x y =>
    match tySize P T with
    | some sz =>
      match e x with
      | .ptr o off =>
        match ob[o]? with
        | some (some cs) => if (e y).allOne ∧ (e y).cells.length = sz ∧ off + sz ≤ cs.length then some ⟨true, false, .tup [], .wr o (cs.take off ++ (e y).cells ++ cs.drop (off + sz))⟩ else none
        | _ => none
      | _ => none
    | none => none
  | .nilCheck x =>
    match e x with
    | .ptr o off => outP (.ptr o off)
    | .pel xs k off => outP (.pel xs k off)
    | .fn (.func f) p q => outP (.fn (.func f) p q)
    | _ => none
  | .binOp op T x y _ =>
    match binX op (e x) (e y) with
    | some (c, s, v) => some ⟨c, s, v, .pure⟩
    | none =>
      if (op == .eql || op == .neq) && (e x).plainEq && (e y).plainEq && eqGuardOk P T (e x) (e y) then
        match eqV P 12 T (e x) (e y) with
        | some (r, z) => outP (mkB z (if op == .eql then r else !r))
        | none => none
      else none
  | .unOp op _ x => outO (unV op (e x))
  | .makeInterface T x =>
    match P.underlying T with
    | some (.interface _) => none
    | some _ => outP (.ifc T (e x))
    | none => none
  | .makeFunc fn a c => outP (.fn fn (a.toList.map e) (c.toList.map e))
  | .fieldAddr T x f =>
    match fieldOff P T f with
    | some (d, fl) => match tySize P fl.type with | some sz => if sz ≠ 0 then outO ((e x).shift d) else none | none => none
    | none => none
  | .field T x f =>
    match tyField P T f with
    | some fl =>
      match tyAgg P fl.type, tySize P fl.type, e x with
      | some ag, some sz, .agg cs => outO (getV ag sz cs fl.offset)
      | _, _, _ => none
    | none => none
  | .indexAddr T x y =>
    match tyElem P T with
    | some (n, el) =>
      match tySize P el, (e y).int? with
      | some sz, some (k, i, s) => match idxX sz n (e x) i s with | some (c, s', q) => some ⟨c, s', q, .pure⟩ | none => none
      | _, _ => none
    | none => none
  | .index T x y =>
    match tyElem P T with
    | some (some n, el) =>
      match tyAgg P el, tySize P el, (e y).int?, e x with
      | some ag, some sz, some (k, i, false), .agg cs => if 0 ≤ i ∧ i < (n : Int) then outO (getV ag sz cs (i.toNat * sz)) else none
      | _, _, _, _ => none
    | _ => none
  | .extract x i => match e x with | .tup vs => outO vs[i]? | _ => none
  | .call c =>
    match c.callee with
    | .value f => match e f with | .fn (.func g) first cap => (match Nat.beq g yid with | true => none | false => cf g (first ++ c.args.toList.map e ++ cap) ob nm) | .yl tm ps as bd => cf yid (.yl tm ps as bd :: c.args.toList.map e) ob nm | _ => none
    | .builtin b => outO (builtinE P b c.argTypes (c.args.toList.map e))
    | .invoke _ _ => none
  | _ => none

/-- There is such a function with a body; or it is yield. -/
def Named (P : Program) (f : FuncId) : Prop := (f = yid ∧ P.funcs[f]? = none) ∨ (f ≠ yid ∧ ∃ fn, P.funcs[f]? = some fn ∧ fn.body.isSome = true ∧ (fn.name == "runtime.NumGoroutine") = false)
/-- What is known of the calls. -/
def CallsOk (P : Program) (Γ : Nat → Option V) (cf : CallF) : Prop :=
  ∀ f args ob nm out, cf f args ob nm = some out → out.chk = true → SemF P Γ f args ob nm out.v (out.eff.ob ob) (out.eff.nm nm) ∧ Named P f
theorem beq_ne {f : FuncId} (h : Nat.beq f yid = false) : f ≠ yid := by
  intro e
  rw [e, Nat.beq_refl] at h
  cases h
/-- A call of yield. -/
theorem SemV.yield {o : Oper} {c : Call} {x : Operand} {tm : List V} {ps : Array Tmp} {as bd : Code} {res : V} {ob' : Ob} {nm' : Nm} (ho : o.op = .call c) (hc : c.callee = .value x) (hx : σ.eval Γ x = .yl tm ps as bd)
    (hf : P.funcs[yid]? = none) (h : SemF P Γ yid (.yl tm ps as bd :: c.args.toList.map (σ.eval Γ)) σ.ob σ.nm res ob' nm') : SemV P Γ o σ res ob' nm' := by
  intro ro G a w K Q hr hk
  have hfx := hr.eval x
  have r3 : Rels G (c.args.toList.map (σ.eval Γ)) (c.args.toList.map a.eval) := by
    refine ⟨by simp, fun j v cv g1 g2 => ?_⟩
    simp only [List.getElem?_map, Option.map_eq_some_iff] at g1 g2
    obtain ⟨p, hp, rfl⟩ := g1
    obtain ⟨q, hq, rfl⟩ := g2
    rw [hp] at hq
    cases hq
    exact hr.eval p
  have hcall := h G w (a.eval x :: c.args.toList.map a.eval) hr.wr (by rw [← hx]; exact Rels.cons hfx r3)
  obtain ⟨l, rest, e, fn, tmps, as', bd', h1, h2⟩ := (callsX_yield hf).1 hcall
  simp only [List.toList_toArray, List.cons.injEq] at e
  obtain ⟨e1, rfl⟩ := e
  refine ⟨fun _ _ => trivial, ?_⟩
  have e3 : (List.map a.eval c.args.toList).toArray = c.args.map a.eval := by apply Array.ext'; simp
  rw [e3] at h1
  have hrun : (execOp a.eval o).run P w = .ok (.round l fn tmps as' bd') w := by
    simp [execOp, ho, resolve, hc, e1, Deferred.ofValue, invoke, h1]
  rw [semAt_of hrun (fun _ h => by cases h)]
  refine ⟨depthR, RoundIn.mono (F := Fence.wide) (n := 0) h2 ?_⟩
  rintro e w' ⟨cv, G1, rfl, hle, hv, hw1⟩
  exact hk G1 _ w' hle hv hw1

theorem outO_some {x : Option V} {out : Out} (h : outO x = some out) : ∃ v, x = some v ∧ out = ⟨true, false, v, .pure⟩ := by
  cases x with
  | none => cases h
  | some v => exact ⟨v, rfl, by cases h; rfl⟩
theorem evE0_sound {cf : CallF} (hcf : CallsOk P Γ cf) {slot : Nat} {o : Oper} {out : Out} (h : evE0 P cf slot o (σ.eval Γ) σ.ob σ.nm = some out) (hchk : out.chk = true) (hs : allocs o = true → σ.ob[slot]? = some none ∧ σ.nm[slot]? = some none) :
    SemV P Γ o σ out.v (out.eff.ob σ.ob) (out.eff.nm σ.nm) := by
  unfold evE0 at h
  split at h
  · rename_i x ho; cases h; exact SemV.move ho
  · rename_i x ho; cases h; exact SemV.assign ho
  · rename_i c x y ho
    split at h
    · rename_i t s hc
      split at h
      · obtain ⟨v, hv, rfl⟩ := outO_some h
        refine SemV.of_pure fun G a w hr => ?_
        have hb := bool?_eq hc (hr.eval c)
        refine ⟨if t then a.eval x else a.eval y, by simp only [execOp, ho, hb, asBool]; cases t <;> rfl, mergeV_ok _ _ _ _ hv G _ ?_⟩
        cases t
        · exact hr.eval y
        · exact hr.eval x
      · cases h
        refine SemV.of_pure fun G a w hr => ?_
        have hb := bool?_eq hc (hr.eval c)
        refine ⟨if t then a.eval x else a.eval y, by simp only [execOp, ho, hb, asBool]; cases t <;> rfl, ?_⟩
        cases t
        · exact hr.eval y
        · exact hr.eval x
    · cases h
  · rename_i T ho
    split at h
    · rename_i z hz
      split at h
      · rename_i hn
        cases h
        exact SemV.allocAt ho hz hn (hs (by simp [allocs, ho])).1
      · cases h
    · cases h
  · rename_i T x ho
    split at h
    · rename_i hn
      cases h
      exact SemV.boxAt ho hn (hs (by simp [allocs, ho])).1
    · cases h
  · rename_i T ps ho
    split at h
    · rename_i z hz
      split at h
      · rename_i hn
        split at h
        · rename_i pl hpl
          split at h
          · rename_i cs hcs; cases h; exact SemV.build_struct ho hz hn hpl hcs
          · cases h
        · split at h
          · rename_i n el hel
            split at h
            · rename_i sz hsz
              split at h
              · rename_i cs hcs; cases h; exact SemV.build_array ho hz hn hel hsz hcs
              · cases h
            · cases h
          · cases h
      · cases h
    · cases h
  · rename_i T len ps ho
    split at h
    · rename_i el hel
      split at h
      · rename_i sz z hsz hz
        split at h
        · rename_i hc
          simp only [Bool.and_eq_true, decide_eq_true_eq] at hc
          split at h
          · rename_i xs hxs; cases h; exact SemV.buildSlice ho hel hsz (by omega) hz hc.1.1 hc.1.2 hxs
          · cases h
        · cases h
      · cases h
    · cases h
  · rename_i T x ho
    split at h
    · rename_i ag sz ha hsz
      split at h
      · rename_i o' off hx
        split at h
        · rename_i v hv; cases h; exact SemV.load ho ha hsz (by rw [hx]; exact hv)
        · cases h
      · rename_i xs k off hx
        obtain ⟨v, hv, rfl⟩ := outO_some h
        exact SemV.load ho ha hsz (by rw [hx]; simpa [loadV] using hv)
      · cases h
    · cases h
  · rename_i T x y ho
    split at h
    · rename_i sz hsz
      split at h
      · rename_i o' off hx
        split at h
        · rename_i cs hcs
          split at h
          · rename_i hc
            cases h
            exact SemV.store ho hsz (by rw [hx]; simp only [storeV, hcs]; rw [if_pos hc]; rfl)
          · cases h
        · cases h
      · cases h
    · cases h
  · rename_i x ho
    split at h
    · rename_i o' off hx
      cases h
      have := SemV.nilCheck (P := P) (Γ := Γ) (σ := σ) ho ⟨_, 0, by rw [hx]; rfl⟩
      rw [hx] at this
      exact this
    · rename_i xs k off hx
      cases h
      have := SemV.nilCheck (P := P) (Γ := Γ) (σ := σ) ho ⟨_, 0, by rw [hx]; rfl⟩
      rw [hx] at this
      exact this
    · rename_i f p q hx
      cases h
      have := SemV.nilCheck_fn (P := P) (Γ := Γ) (σ := σ) ho hx
      rw [hx] at this
      exact this
    · cases h
  · rename_i op T x y T' ho
    split at h
    · rename_i c s v hb
      cases h
      have hchk : c = true := hchk
      subst hchk
      exact SemV.binOp ho hb
    · split at h
      · rename_i hc
        simp only [Bool.and_eq_true, Bool.or_eq_true, beq_iff_eq] at hc
        split at h
        · rename_i r z hz
          cases h
          have := SemV.eq ho hc.1.1.1 12 (by omega) hc.1.1.2 hc.1.2 hc.2 hz
          have e : (op == .eql) = decide (op = .eql) := by cases op <;> rfl
          simp only [e, decide_eq_true_eq]
          exact this
        · cases h
      · cases h
  · rename_i op T x ho
    obtain ⟨v, hv, rfl⟩ := outO_some h
    exact SemV.unOp ho hv
  · rename_i T x ho
    split at h
    · cases h
    · rename_i d hne hd
      cases h
      exact SemV.makeInterface ho hd (fun m hm => hne m hm)
    · cases h
  · rename_i fn fs cs ho; cases h; exact SemV.makeFunc ho
  · rename_i T x f ho
    split at h
    · rename_i d fl hf
      split at h
      · rename_i sz hsz
        split at h
        · rename_i hz
          obtain ⟨v, hv, rfl⟩ := outO_some h
          exact SemV.fieldAddr ho hf hsz hz hv
        · cases h
      · cases h
    · cases h
  · rename_i T x f ho
    split at h
    · rename_i fl hf
      split at h
      · rename_i ag sz cs ha hsz hx
        obtain ⟨v, hv, rfl⟩ := outO_some h
        exact SemV.field ho hf ha hsz hx hv
      · cases h
    · cases h
  · rename_i T x y ho
    split at h
    · rename_i n el hel
      split at h
      · rename_i sz k i s hsz hy
        split at h
        · rename_i c s' q hq
          cases h
          have hchk : c = true := hchk
          subst hchk
          exact SemV.indexX ho hel hsz hy hq
        · cases h
      · cases h
    · cases h
  · rename_i T x y ho
    split at h
    · rename_i n el hel
      split at h
      · rename_i ag sz k i cs ha hsz hy hx
        split at h
        · rename_i hi
          obtain ⟨v, hv, rfl⟩ := outO_some h
          refine SemV.index_arr (k := k) ho hel ha hsz hx ?_ hi.1 hi.2 hv
          generalize σ.eval Γ y = vy at hy
          cases vy <;> simp [V.int?] at hy
          obtain ⟨rfl, rfl⟩ := hy
          rfl
        · cases h
      · cases h
    · cases h
  · rename_i x i ho
    split at h
    · rename_i vs hx
      obtain ⟨v, hv, rfl⟩ := outO_some h
      exact SemV.extract ho hx hv
    · cases h
  · rename_i c ho
    split at h
    · rename_i f hcal
      split at h
      · rename_i g first cap hf
        split at h
        · cases h
        · rename_i hne
          obtain ⟨h1, hn⟩ := hcf _ _ _ _ _ h hchk
          rcases hn with ⟨e, _⟩ | ⟨_, fn, h2, h3, h4⟩
          · exact absurd e (beq_ne hne)
          · exact SemV.call ho hcal hf h2 h3 h4 h1
      · rename_i tm ps as bd hf
        obtain ⟨h1, hn⟩ := hcf _ _ _ _ _ h hchk
        rcases hn with ⟨_, hn⟩ | ⟨e, _⟩
        · exact SemV.yield ho hcal hf hn h1
        · exact absurd rfl e
      · cases h
    · rename_i b hcal
      obtain ⟨v, hv, rfl⟩ := outO_some h
      exact SemV.builtin ho hcal hv
    · cases h
  · cases h
end
end Go.Proofs.Ytnjjkobijjdnbaa
