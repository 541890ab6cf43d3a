/- A range over a function: the statement. -/
import Derived.Test.YtnjjkobijjdnbaaEv15
set_option linter.unusedVariables false
set_option linter.unusedSimpArgs false
namespace Go.Proofs.Ytnjjkobijjdnbaa
open Go

/-- Values as they are, but for yields. -/
def idP : V → Option V
  | .ptr o off => some (.ptr o off)
  | .sl o off n => some (.sl o off n)
  | .bs sy n off len => some (.bs sy n off len)
  | .bp n j off => some (.bp n j off)
  | _ => none
theorem idP_eq {u q : V} (h : idP u = some q) : q = u := by
  unfold idP at h
  split at h <;> first | (cases h; rfl) | cases h
theorem idP_cell : ∀ u q, idP u = some q → q.cells = [q] := by
  intro u q h
  unfold idP at h
  split at h <;> first | (cases h; rfl) | cases h
mutual
theorem cl_id : ∀ (v v' : V), v.cl idP = some v' → v' = v
  | .b x, v', h => by simp only [V.cl] at h; cases h; rfl
  | .i k n, v', h => by simp only [V.cl] at h; cases h; rfl
  | .s x, v', h => by simp only [V.cl] at h; cases h; rfl
  | .sb x, v', h => by simp only [V.cl] at h; cases h; rfl
  | .si k n, v', h => by simp only [V.cl] at h; cases h; rfl
  | .ss x, v', h => by simp only [V.cl] at h; cases h; rfl
  | .nil, v', h => by simp only [V.cl] at h; cases h; rfl
  | .ptr o off, v', h => by simp only [V.cl] at h; exact idP_eq h
  | .sl o off n, v', h => by simp only [V.cl] at h; exact idP_eq h
  | .bs sy n off len, v', h => by simp only [V.cl] at h; exact idP_eq h
  | .bp n j off, v', h => by simp only [V.cl] at h; exact idP_eq h
  | .slst t ty l, v', h => by simp only [V.cl] at h; cases h; rfl
  | .pel xs k off, v', h => by
    simp only [V.cl] at h
    split at h
    · rename_i ys hy; cases h; rw [clL_id xs ys hy]
    · cases h
  | .lst t xs, v', h => by
    simp only [V.cl] at h
    split at h
    · rename_i ys hy; cases h; rw [clL_id xs ys hy]
    · cases h
  | .fn f a c, v', h => by
    simp only [V.cl] at h
    split at h
    · rename_i x y hx hy; cases h; rw [clL_id a x hx, clL_id c y hy]
    · cases h
  | .nilfn, v', h => by simp only [V.cl] at h; cases h; rfl
  | .ifc t x, v', h => by
    simp only [V.cl] at h
    split at h
    · rename_i y hy; cases h; rw [cl_id x y hy]
    · cases h
  | .nilifc, v', h => by simp only [V.cl] at h; cases h; rfl
  | .agg cs, v', h => by
    simp only [V.cl] at h
    split at h
    · rename_i ys hy; cases h; rw [clL_id cs ys hy]
    · cases h
  | .tup cs, v', h => by
    simp only [V.cl] at h
    split at h
    · rename_i ys hy; cases h; rw [clL_id cs ys hy]
    · cases h
  | .yl _ _ _ _, v', h => by simp only [V.cl] at h; cases h
  | .any, v', h => by simp only [V.cl] at h; cases h; rfl
theorem clL_id : ∀ (xs ys : List V), V.clL idP xs = some ys → ys = xs
  | [], ys, h => by simp only [V.clL] at h; cases h; rfl
  | x :: xs, ys, h => by
    simp only [V.clL] at h
    split at h
    · rename_i a b h1 h2; cases h; rw [cl_id x a h1, clL_id xs b h2]
    · cases h
end
theorem clL_id_mem : ∀ {xs : List V}, V.clL idP xs = some xs → ∀ v ∈ xs, v.cl idP = some v
  | [], _, v, hv => by cases hv
  | x :: xs, h, v, hv => by
    simp only [V.clL] at h
    split at h
    · rename_i a b h1 h2
      cases h
      rcases List.mem_cons.1 hv with rfl | hv
      · exact h1
      · exact clL_id_mem h2 v hv
    · cases h
/-- No yield in the memory. -/
def noYm (ob : Ob) (nm : Nm) : Bool :=
  (ob.all fun x => match x with | some cs => (V.clL idP cs).isSome | none => true) && nm.all fun x => match x with | some (.live (.cs _ l)) => (V.clL idP l).isSome | _ => true
theorem noYm_ob {ob : Ob} {nm : Nm} (h : noYm ob nm = true) : ∀ v ∈ ob.flatMap (fun x => x.getD []), v.cl idP = some v := by
  intro v hv
  simp only [noYm, Bool.and_eq_true, List.all_eq_true] at h
  obtain ⟨x, hx, hv⟩ := List.mem_flatMap.1 hv
  cases x with
  | none => simp at hv
  | some cs =>
    have := h.1 _ hx
    simp only [] at this
    cases hc : V.clL idP cs with
    | none => rw [hc] at this; cases this
    | some ys =>
      obtain rfl := clL_id _ _ hc
      exact clL_id_mem hc v (by simpa using hv)
theorem noYm_nm {ob : Ob} {nm : Nm} (h : noYm ob nm = true) : ∀ v ∈ nm.flatMap (fun x => match x with | some (.live c) => flat c.els | _ => []), v.cl idP = some v := by
  intro v hv
  simp only [noYm, Bool.and_eq_true, List.all_eq_true] at h
  obtain ⟨x, hx, hv⟩ := List.mem_flatMap.1 hv
  split at hv
  · rename_i c
    cases c with
    | cs sz l =>
      have := h.2 _ hx
      simp only [] at this
      cases hc : V.clL idP l with
      | none => rw [hc] at this; cases this
      | some ys =>
        obtain rfl := clL_id _ _ hc
        exact clL_id_mem (clnL_flat idP_cell hc) v hv
    | arr ty l => exact clL_id_mem (clnL_flat idP_cell (Ty.map_cl idP ty l)) v hv
  · cases hv
theorem VRel.noY {G G' : Gh} (hm : G'.M = G.M) (hh : G'.H = G.H) (ht : G'.T = G.T) {v : V} {cv : Value} (h : VRel G v cv) (hv : v.cl idP = some v) : VRel G' v cv :=
  VRel.cl (p := idP) (G' := G') idP_cell (fun b off cv h => by rw [hm]; exact h) (fun u q cu hu hq => by
    have e := idP_eq hq
    subst e
    cases q <;> simp only [idP] at hq <;> try cases hq
    case ptr => cases hu with | ptr h => exact .ptr (by rw [hh]; exact h)
    case sl => cases hu with | sl h hc => exact .sl (by rw [hh]; exact h) hc
    case bs =>
      cases hu with
      | bs0 => exact .bs0 _ _ _
      | bs1 => exact .bs1 _ _ _ _ _
      | bs h hl => exact .bs (by rw [ht]; exact h) hl
    case bp => cases hu with | bp h => exact .bp (by rw [ht]; exact h)) h hv

theorem VRel.noYD {G : Gh} {b : Nat} {o : Obj} {v : V} {cv : Value} (h : VRel G v cv) (hv : v.cl idP = some v) : VRel (G.setD b o) v cv :=
  VRel.noY (G := G) (G' := G.setD b o) rfl rfl rfl h hv
section
variable {P : Program} {Γ : Nat → Option V} {G : Gh} {ob : Ob} {nm : Nm} {w : World} {σ : St}
theorem Gh.le_setD {b : Nat} {o : Obj} (h : G.D b = none) : G.le (G.setD b o) :=
  ⟨⟨fun _ _ _ h => h, fun _ _ h => h, fun _ _ h => h, fun l q k => by
    by_cases hl : l = b
    · subst hl; rw [h] at k; cases k
    · simpa [Gh.setD, hl] using k⟩, rfl, rfl, rfl, rfl, rfl⟩
theorem setD_new (G : Gh) (b : Nat) (o : Obj) : (G.setD b o).D b = some o := by simp [Gh.setD]
theorem WRel.addD (h : WRel Γ G ob nm w) {b : Nat} {o : Obj} (hb : G.D b = none) (ho : w.heap[b]? = some o) (hc : o.isCells = false) (h0 : G.w0.own b) : WRel Γ (G.setD b o) ob nm w := by
  have hle := Gh.le_setD (o := o) hb
  exact {
    m := h.m
    hob := fun o cs b h1 h2 => by
      obtain ⟨q1, ⟨q2, q3, q4, q5, q6, q7, q8⟩, q9⟩ := h.hob o cs b h1 h2
      exact ⟨q1, ⟨q2, q3, q4, q5, q6, q7, q8.mono hle⟩, q9⟩
    hlt := h.hlt
    habs := h.habs
    inj := h.inj
    hnm := fun n c x h1 h2 => (h.hnm n c x h1 h2).to rfl (fun _ _ h => h.mono hle) (fun _ h => h) (fun _ h => h) (h.hnm n c x h1 h2).obj
    hno := h.hno
    kdle := h.kdle
    nmd := h.nmd
    tabs := h.tabs
    tlt := h.tlt
    dd := fun l q hl => by
      simp only [Gh.setD] at hl
      split at hl
      · rename_i e; subst e; cases hl; exact ⟨ho, hc, h0⟩
      · exact h.dd l q hl
    gl := h.gl
    mold := h.mold
    os := h.os
    tape := h.tape
    output := h.output
    size := h.size
    block := h.block }
/-- The statement: the function that is ranged over is called with yield. -/
theorem SemC.rangeFunc {g : Operand} {ps : Array Tmp} {as bd : Code} {f : FuncId} {fn : Func} {first cap : List V} {v : V} {ob' : Ob} {nm' : Nm} (hx : σ.eval Γ g = .fn (.func f) first cap)
    (hf : P.funcs[f]? = some fn) (hb : fn.body.isSome = true) (hn : (fn.name == "runtime.NumGoroutine") = false) (h : SemF P Γ f (first ++ .yl σ.tm ps as bd :: cap) σ.ob σ.nm v ob' nm') (hY : noYm ob' nm' = true) :
    SemC P Γ (.rangeFunc g ps as bd) σ .normal { σ with ob := ob', nm := nm' } := by
  intro ro G a w hr ho
  have hfx := hr.eval g
  rw [hx] at hfx
  generalize he : a.eval g = cg at hfx
  cases hfx with
  | @fn _ _ _ ca cc ha hcc h1 h2 =>
    have r1 : Rels G first ca.toList := ⟨by simpa using ha, fun j v cv g1 g2 => h1 j v cv g1 (by simpa using g2)⟩
    have r2 : Rels G cap cc.toList := ⟨by simpa using hcc, fun j v cv g1 g2 => h2 j v cv g1 (by simpa using g2)⟩
    refine wpIn_rangeFunc (fun fnid _ => ?_)
    have hn' : ¬ fn.name = "runtime.NumGoroutine" := by simpa using hn
    have hbn' : ¬ fn.body = none := by intro hh; simp [hh] at hb
    have core : ∀ (l : Nat) (mark : List Deferred) (W1 : World) (G2 : Gh) (dfs : Nat), (Instr.enterLoop fnid a.tmps ps as bd ro).run P w = .ok (l, mark) W1 → G.le G2 → WRel Γ G2 σ.ob σ.nm W1 → G.D l = none → G.w0.heap.size ≤ l →
        G2.D l = some (.loop { state := .ready, pending := none, fn := fnid, tmps := a.tmps, params := ps, assign := as, body := bd, defers := dfs }) → Marks G2 (mark ++ a.defers) → (∀ D, { target := .collected D, args := #[] } ∈ mark ++ a.defers → D ≠ l) →
        ∃ (l : Nat) (mark : List Deferred) (w₁ : World) (d : Deferred) (w₁' : World) (f : FuncId) (args : Array Value) (w₂ : World),
          (Instr.enterLoop fnid a.tmps ps as bd (wideR ro).round).run P w = .ok (l, mark) w₁ ∧ (Go.resolve a.eval (rangeCall g l) 0).run P w₁ = .ok d w₁' ∧ (∀ f', Target.leads P w₁' d.target d.args = some f' → (wideR ro).fn f') ∧
          (invoke d.target d.args).run P w₁' = .ok (.enter f args) w₂ ∧ ((wideR ro).depth.isSome = true → 1 ≤ 0) ∧
          CallsIn (wideR ro) (0 - 1) P f args w₂ (rangePost (wideR ro) 0 P l (fun e a' w' => e = .normal ∧ ∃ G', G.leW G' ∧ Rel Γ G' { σ with ob := ob', nm := nm' } a' w') { a with defers := mark ++ a.defers }) := by
      intro l mark W1 G2 dfs e1 hle hw2 hl0 hlo hD hM hMl
      refine ⟨l, mark, W1, { target := .fn (.func f) cc, args := ca ++ #[.func (.yield l) #[] #[]] }, W1, f, ca ++ #[.func (.yield l) #[] #[]] ++ cc, W1, e1, ?_, fun _ _ => trivial, ?_, depthR, ?_⟩
      · simp [Go.resolve, he, Deferred.ofValue]; rfl
      · simp [invoke, callFunc, hf, hbn', hn']
      · have hy : VRel G2 (.yl σ.tm ps as bd) (.func (.yield l) #[] #[]) := .yl hD ⟨rfl, rfl, rfl, rfl, rfl⟩ (by have := hr.tm.1; simpa using this) (fun j v cv g1 g2 => (hr.tm.2 j v cv g1 (by simpa using g2)).mono hle)
        have hcall := h G2 W1 (ca.toList ++ .func (.yield l) #[] #[] :: cc.toList) hw2 ((r1.mono hle).append (Rels.cons hy (r2.mono hle)))
        have hargs : (ca.toList ++ Value.func (.yield l) #[] #[] :: cc.toList).toArray = ca ++ #[.func (.yield l) #[] #[]] ++ cc := by
          apply Array.ext'
          simp
        rw [hargs] at hcall
        refine callsR.2 (((callsX_fn hf).1 hcall).mono ?_)
        rintro e w' ⟨cv, G1, rfl, hle1, hv, hw1⟩
        have hD1 := hle1.d _ _ hD
        have hheap := (hw1.dd _ _ hD1).1
        refine ⟨none, _, run_endLoop hheap (by simp), ?_⟩
        have hlb : G1.w0.own l := by rw [hle1.w0, hle.w0]; exact .inl hlo
        have hw3 := hw1.putD (G2 := G1.setD l (.loop { state := .exhausted, pending := none, fn := fnid, tmps := a.tmps, params := ps, assign := as, body := bd, defers := dfs })) (o := .loop { state := .exhausted, pending := none, fn := fnid, tmps := a.tmps, params := ps, assign := as, body := bd, defers := dfs }) hD1 rfl hlb rfl
          (fun v hv cv h => VRel.noYD h (noYm_ob hY v hv)) (fun v hv cv h => VRel.noYD h (noYm_nm hY v hv))
        have hle3 : G.le (G1.setD l (.loop { state := .exhausted, pending := none, fn := fnid, tmps := a.tmps, params := ps, assign := as, body := bd, defers := dfs })) := by
          have hh := hle.trans hle1
          exact ⟨⟨hh.m, hh.h, hh.t, fun k q hk => by
            have : k ≠ l := by rintro rfl; rw [hl0] at hk; cases hk
            show (if k = l then _ else G1.D k) = _
            rw [if_neg this]
            exact hh.d _ _ hk⟩, hh.kh, hh.kt, hh.w0, hh.m0, hh.kd⟩
        refine ⟨rfl, _, hle3.weak, ⟨hr.tm.mono hle3, hw3, ⟨hM.nd, fun d hd => ?_⟩, hle3.kh.trans hr.kh, hle3.kt.trans hr.kt⟩⟩
        obtain ⟨D, rfl, q1, q2⟩ := hM.at_ d hd
        refine ⟨D, rfl, by rw [hle3.kd, ← hle.kd]; exact q1, ?_⟩
        show (if D = l then _ else G1.D D) = _
        rw [if_neg (hMl D hd)]
        exact hle1.d _ _ q2
    have hkd : ∀ {d}, d ∈ a.defers → ∃ D, d = { target := .collected D, args := #[] } ∧ D < w.heap.size := fun hd => by
      obtain ⟨D, e, q1, q2⟩ := hr.df.at_ _ hd
      exact ⟨D, e, hr.wr.dlt q2⟩
    cases ro with
    | none =>
      have w1 := hr.wr.alloc (.deferred (some []))
      have d1 : G.D w.heap.size = none := hr.wr.dnew (Nat.le_refl _)
      have w2 := w1.addD d1 (World.alloc_heap_new w _) rfl (.inl hr.wr.size)
      have w3 := w2.alloc (.loop { state := .ready, pending := none, fn := fnid, tmps := a.tmps, params := ps, assign := as, body := bd, defers := w.heap.size })
      have d2 : (G.setD w.heap.size (.deferred (some []))).D (w.heap.size + 1) = none := w2.dnew (by simp)
      have e4 := World.alloc_heap_new (w.alloc (.deferred (some []))) (.loop { state := .ready, pending := none, fn := fnid, tmps := a.tmps, params := ps, assign := as, body := bd, defers := w.heap.size })
      rw [World.size_alloc] at e4
      have w4 := w3.addD d2 e4 rfl (.inl (Nat.le_succ_of_le hr.wr.size))
      have hle := (Gh.le_setD (o := .deferred (some [])) d1).trans (Gh.le_setD (o := .loop { state := .ready, pending := none, fn := fnid, tmps := a.tmps, params := ps, assign := as, body := bd, defers := w.heap.size }) d2)
      refine core _ _ _ _ w.heap.size (run_enterLoop_outer _ _ _ _ _) hle w4 (hr.wr.dnew (by omega)) (by have := hr.wr.size; omega) (setD_new _ _ _) ⟨?_, ?_⟩ ?_
      · refine List.nodup_cons.2 ⟨fun hd => ?_, hr.df.nd⟩
        obtain ⟨D, e, hlt⟩ := hkd hd
        have : D = w.heap.size := by simpa using e.symm
        omega
      · intro d hd
        rcases List.mem_cons.1 hd with rfl | hd
        · refine ⟨_, rfl, ?_, ?_⟩
          · show G.kd ≤ w.heap.size
            exact hr.wr.kdle
          · show (if w.heap.size = w.heap.size + 1 then _ else (if w.heap.size = w.heap.size then _ else _)) = _
            rw [if_neg (by omega), if_pos rfl]
        · exact ((hr.df.mono hle.d hle.kd)).at_ d hd
      · intro D hd
        rcases List.mem_cons.1 hd with e | hd
        · have : D = w.heap.size := by simpa using e
          omega
        · obtain ⟨D', e, hlt⟩ := hkd hd
          have : D = D' := by simpa using e
          omega
    | some l0 =>
      obtain ⟨r0, hr0⟩ := ho l0 rfl
      have d1 : G.D w.heap.size = none := hr.wr.dnew (Nat.le_refl _)
      have w2 := (hr.wr.alloc (.loop { state := .ready, pending := none, fn := fnid, tmps := a.tmps, params := ps, assign := as, body := bd, defers := r0.defers })).addD d1 (World.alloc_heap_new w _) rfl (.inl hr.wr.size)
      have hle := Gh.le_setD (o := .loop { state := .ready, pending := none, fn := fnid, tmps := a.tmps, params := ps, assign := as, body := bd, defers := r0.defers }) d1
      refine core _ _ _ _ r0.defers (run_enterLoop_inner (hr.wr.dd _ _ hr0).1 _ _ _ _ _) hle w2 d1 hr.wr.size (setD_new _ _ _) (hr.df.mono hle.d hle.kd) ?_
      intro D hd
      obtain ⟨D', e, hlt⟩ := hkd hd
      have : D = D' := by simpa using e
      omega
end
end Go.Proofs.Ytnjjkobijjdnbaa
