/- Parts of the library of texts, one after the other: Ev37, T24a, T10, T11, T12, T13, T14, T15, T16, T17, T18. -/
import Derived.Test.YtofbchcclkejgaaTOk
import Derived.Lib.AppendZeros
/- Operations that the evaluator does not know, one by one: cap of an empty slice, its part, append of zeros. -/
set_option linter.unusedVariables false
set_option linter.unusedSimpArgs false
namespace Go.Proofs.Ytofbchcclkejgaa
open Go
section
variable {P : Program} {Γ : Nat → Option V} {G : Gh} {ob : Ob} {nm : Nm} {w : World} {σ : St} {cf : CallF} {ops : Array Oper} {base : Nat}
theorem full0 {cv : Value} (h : VRel G (.lst .full []) cv) : ∃ p, cv = .slice p 0 0 := by
 cases h with
 | lst0 t p => exact ⟨p, rfl⟩
 | @lst _ _ b off cap sz cvs h1 h2 h3 h4 h5 h6 =>
  have h6 : cap = 0 := h6
  subst h6
  exact ⟨_, rfl⟩
theorem SemV.cap0 {o : Oper} {cl : Call} {x : Operand} {t e : TypeId} (ho : o.op = .call cl) (hcal : cl.callee = .builtin .cap) (ha : cl.args.toList = [x]) (hts : cl.argTypes = #[t]) (ht : P.underlying t = some (.slice e)) (hx : σ.eval Γ x = .lst .full []) :
 SemV P Γ o σ (.i .i64 0) σ.ob σ.nm :=
 SemV.of_pure fun G a w hr => by
  have hca : cl.args.map a.eval = #[a.eval x] := by apply Array.ext'; simp [ha]
  have hxx := hr.eval x
  rw [hx] at hxx
  obtain ⟨p, he⟩ := full0 hxx
  refine ⟨.int .i64 0, ?_, .i _ _⟩
  simp [execOp, ho, resolve, hcal, invoke, Go.builtin, hca, hts, Builtin.cap_, run_underlying ht, he, goInt]
theorem SemV.slice0 {o : Oper} {T e : TypeId} {x y : Operand} {sz : Nat} (ho : o.op = .slice T x none (some y) none) (ht : tyElem P T = some (none, e)) (hs : tySize P e = some sz) (hx : σ.eval Γ x = .lst .full []) (hy : σ.eval Γ y = .i .i64 0) :
 SemV P Γ o σ (.lst .full []) σ.ob σ.nm :=
 SemV.of_pure fun G a w hr => by
  have hxx := hr.eval x
  rw [hx] at hxx
  obtain ⟨p, he⟩ := full0 hxx
  have hlo : bdE (σ.eval Γ) none = some none := rfl
  have hhi : bdE (σ.eval Γ) (some y) = some (some (.i64, 0, false)) := by simp [bdE, hy, V.int?]
  have hrun := run_slice_val (P := P) (w := w) ht hs (p := p) (len := 0) (cap := 0) (lo := none) (hi := some (.i64, 0, false)) (by simp [Bd.lo]) (by simp [Bd.lo, Bd.hi]) (by simp [Bd.hi])
  have hv : (some y).map a.eval = some (.int .i64 0) := by rw [bd_val hr hhi]; rfl
  have hrun2 : (Instr.sliceAt T (.slice p 0 0) none (some (.int .i64 0)) none).run P w = .ok (sliced p (Bd.lo none).toNat (Bd.hi (some (.i64, 0, false)) 0).toNat 0 sz) w := hrun
  refine ⟨sliced p (Bd.lo none).toNat (Bd.hi (some (.i64, 0, false)) 0).toNat 0 sz, by simp only [execOp, ho, he, hv, Option.map_none, Sem.run_bind, hrun2, Result.andThen_ok, Sem.run_pure], ?_⟩
  simp [sliced, Bd.lo, Bd.hi]
  exact .lst0 _ _
theorem zeros_list (z : Value) (n : Nat) : (Builtin.zeroCells #[z] n).toList = List.replicate n z := by
 simp [Builtin.zeroCells]
 apply List.ext_getElem
 · simp
 · intro i h1 h2
   simp [Nat.mod_one]
theorem run_append_zeros {t tn ty e : TypeId} {i : TypeInfo} {z : Value} {k kn : IntKind} (ht : P.underlying t = some (.slice e)) (htn : P.underlying tn = some (.int kn)) (hi : P.info? e = some i) (hz : i.zero = some z) (p : Option Addr)
 (n : Nat) (h0 : 0 < n) (hs : 0 < i.size) (h63 : (n : Int) ≤ 9223372036854775807) (h48 : n * i.bytes ≤ 281474976710656) :
 (Builtin.append_ #[t, tn] ty #[.slice p 0 0, .int k n]).run P w =
  .ok (.slice (some ⟨w.heap.size, 0, none⟩) n (grownCap w n 0 e)) (w.drew.alloc (.cells (Builtin.zeroCells z.cells n ++ Builtin.zeroCells z.cells (grownCap w n 0 e - n)) e)) := by
 have hn : n ≠ 0 := by omega
 have hw : IntKind.i64.wrap (n : Int) = n := by rw [IntKind.wrap_i64]; omega
 have h63' : ¬ (9223372036854775807 < (n : Int)) := by omega
 have h48' : ¬ (281474976710656 < Builtin.nextslicecap n 0 * i.bytes) := by rw [nextslicecap_zero h0]; omega
 have h48i : ¬ (281474976710656 < (n : Int) * (i.bytes : Int)) := by
  rw [← Int.natCast_mul]
  omega
 have hneg : ¬ ((n : Int) < 0) := by omega
 have hns : ¬ (n * i.size = 0) := Nat.mul_ne_zero hn (by omega)
 have hold : (Builtin.firstCells i.size 0 (.slice p 0 0)).run P w.drew = .ok ([] : List Value).toArray w.drew := by
  cases p <;> simp [Builtin.firstCells, loadCells, loadCellsFrom]
 simp [Builtin.append_, run_underlying ht, run_underlying htn, sizeOf, typeInfo, zeroValue, hi, hz, asInt, asIntOf, hw, hn, hneg, hns, h63', h48', h48i, Question.forced, hold, newRow, grownCap]
theorem SemV.appendZeros {o : Oper} {cl : Call} {x y : Operand} {t tn e : TypeId} {i : TypeInfo} {kn : IntKind} {s n : Nat} (ho : o.op = .call cl) (hcal : cl.callee = .builtin .append) (ha : cl.args.toList = [x, y]) (hts : cl.argTypes = #[t, tn])
 (ht : P.underlying t = some (.slice e)) (htn : P.underlying tn = some (.int kn)) (hi : P.info? e = some i) (hz : i.zero = some (.int .i64 0)) (hsz : i.size = 1) (hs : σ.nm[s]? = some none) (hx : σ.eval Γ x = .lst .full []) (hy : σ.eval Γ y = .i .i64 n) (h0 : 0 < n) (hn : n ≤ 1000000) (hb : i.bytes ≤ 100) :
 SemV P Γ o σ (.bs false s 0 n) σ.ob (σ.nm.set s (some (.live (.cs 1 (List.replicate n (.i .i64 0)))))) :=
 SemV.of_val fun G a w hr => by
  have hca : cl.args.map a.eval = #[a.eval x, a.eval y] := by apply Array.ext'; simp [ha]
  have hxx := hr.eval x
  rw [hx] at hxx
  obtain ⟨p, he⟩ := full0 hxx
  have hyy := hr.eval y
  rw [hy] at hyy
  have hye : a.eval y = .int .i64 n := by
   generalize a.eval y = c at hyy
   cases hyy; rfl
  have hb2 : n * i.bytes ≤ 281474976710656 := Nat.le_trans (Nat.mul_le_mul hn hb) (by omega)
  have hrun := run_append_zeros (P := P) (w := w) (k := .i64) (ty := o.type) ht htn hi hz p n h0 (by omega) (by omega) hb2
  have hcap := grownCap_ge w n 0 e
  generalize grownCap w n 0 e = nc at hrun hcap
  have hzc : (Value.int .i64 0).cells = #[Value.int .i64 0] := rfl
  rw [hzc] at hrun
  have hk := (hr.wr.drew).alloc (.cells (Builtin.zeroCells #[Value.int .i64 0] n ++ Builtin.zeroCells #[Value.int .i64 0] (nc - n)) e)
  have hfl : flat (List.replicate n (V.i .i64 0)) = List.replicate n (V.i .i64 0) := by
   induction n with
   | zero => rfl
   | succ n ih =>
    clear ih
    simp only [flat]
    rw [List.flatMap_def, List.map_replicate]
    simp [V.cells, List.flatten_replicate_singleton]
  have B : BufOk G (w.drew.alloc (.cells (Builtin.zeroCells #[Value.int .i64 0] n ++ Builtin.zeroCells #[Value.int .i64 0] (nc - n)) e)) ⟨w.heap.size, 0, 1, n, nc⟩ (.cs 1 (List.replicate n (.i .i64 0))) := {
   old := .inl hr.wr.size
   row := by
    refine ⟨_, e, (0, 0), heap_alloc_self w.drew _, .inl rfl, ?_, ?_⟩
    · simp only [Array.size_append, zeroCells_size, Nat.zero_add]
      show nc * 1 ≤ n * 1 + (nc - n) * 1
      omega
    · show Rels G (flat (List.replicate n (V.i .i64 0))) _
      have e3 : ((Builtin.zeroCells #[Value.int .i64 0] n ++ Builtin.zeroCells #[Value.int .i64 0] (nc - n)).toList.drop 0).take (flat (List.replicate n (V.i .i64 0))).length = List.replicate n (Value.int .i64 0) := by
       rw [hfl, List.drop_zero, Array.toList_append, zeros_list, List.length_replicate, List.take_left' (by simp)]
      refine (congrArg (Rels G _) e3).mpr ?_
      rw [hfl]
      refine ⟨by simp, fun j v cv h1 h2 => ?_⟩
      rw [List.getElem?_replicate] at h1 h2
      split at h1
      · cases h1
        rename_i hj
        rw [if_pos hj] at h2
        cases h2
        exact .i _ _
      · cases h1
   sz := rfl
   el := fun v hv => by
    have : v = .i .i64 0 := (List.mem_replicate.1 hv).2
    subst this; rfl
   len := by show (List.replicate n _).length = n; simp
   cap := hcap
   free := fun off _ _ => by
    show G.M w.heap.size off = none
    exact hr.wr.mnew off
   obj := fun o ho => by
    have := (hr.wr.hlt o _ ho).2
    simp at this
   u8 := fun E hE => by cases hE }
  obtain ⟨hle, hw'⟩ := hk.newBuf hs B (fun n' c1 x1 h1 h2 => by
   have := (hr.wr.hnm n' c1 x1 h1 h2).lt
   simp only [ne_eq]
   omega)
  refine ⟨.slice (some ⟨w.heap.size, 0, none⟩) n nc, _, _, ?_, hle, ?_, hw'⟩
  · simp [execOp, ho, resolve, hcal, invoke, Go.builtin, hca, hts, he, hye, hrun]
  · have := VRel.bs (sy := false) (off := 0) (len := n) (addT_new G s ⟨w.heap.size, 0, 1, n, nc⟩) (by simp)
    simpa using this
theorem cust_wp {ro : Option Nat} {k : Nat} {o : Oper} {l2 : List Nat} {v : V} {ob' : Ob} {nm' : Nm} {a : Act} {Q : Exit → Act → World → Prop} (ho : ops[k]? = some o) (hw : wantedV ops σ.tm o = some true) (h : SemV P Γ o σ v ob' nm') (hr : Rel Γ G σ a w)
 (K : ∀ G' a' w', G.le G' → Rel Γ G' ({ σ with ob := ob', nm := nm' }.put o.dst v) a' w' → wpOpsIn (wideR ro) 0 P ops Q l2 a' w') : wpOpsIn (wideR ro) 0 P ops Q (k :: l2) a w := by
 simp only [wpOpsIn, ho, wanted_of hr.tm hw, if_true]
 refine h ro G a w _ _ hr ?_
 intro G1 cv w1 h1 hv hw
 have r0 : Rel Γ G1 { σ with ob := ob', nm := nm' } a w1 := ⟨hr.tm.mono h1, hw, hr.df.mono h1.d h1.kd h1.w0, h1.kh.trans hr.kh, h1.kt.trans hr.kt⟩
 exact K G1 _ w1 h1 (r0.put o.dst hv)
end
end Go.Proofs.Ytofbchcclkejgaa

/- Package tally: slices.Grow of nothing by five. -/
set_option linter.unusedVariables false
set_option linter.unusedSimpArgs false
set_option maxRecDepth 100000
set_option maxHeartbeats 4000000
namespace Go.Proofs.Ytofbchcclkejgaa
open Go
namespace T
theorem bd72 : Try.f72.body = some (root 72) := by kernel_rfl
noncomputable def hA : Code := cA (root 72)
noncomputable def hB : Code := cA (cB (root 72))
noncomputable def hC : Code := cA (cA (cB (cB (root 72))))
noncomputable def hD : Code := cA (cB (cA (cB (cB (root 72)))))
def cT : Code → Code | .cond _ t _ => t | c => c
noncomputable def hE : Code := cT (cB (cB (cA (cB (cB (root 72))))))
noncomputable def hF : Code := cB (cB (cB (root 72)))
noncomputable def opC : Array Oper := opsOf hC
noncomputable def opE : Array Oper := opsOf hE
theorem root72 : root 72 = .seq hA (.seq hB (.seq (.seq (.region 3 opC false) (.seq hD (.cond (.tmp 16) (.region 5 opE false) .skip))) hF)) := by kernel_rfl
noncomputable def cfG : CallF := cfM Try.prog Γ cfg0 30
noncomputable def e0 : St := St.of 27 [0, 1] [.lst .full [], .i .i64 5] [] []
noncomputable def e1 : St := ((chain Try.prog Γ cfG opC 0 2 0 e0).map Prod.fst).getD e0
noncomputable def e2 : St := { e1 with ob := e1.ob, nm := e1.nm }.put (some 10) (.i .i64 0)
noncomputable def e3 : St := ((chain Try.prog Γ cfG opC 0 5 3 e2).map Prod.fst).getD e2
noncomputable def g0 : St := St.of 27 [0, 1] [.lst .full [], .i .i64 5] [none] [none]
noncomputable def g1 : St := ((chain Try.prog Γ cfG opE 0 2 0 g0).map Prod.fst).getD g0
noncomputable def g2 : St := { g1 with ob := g1.ob, nm := g1.nm }.put (some 19) (.i .i64 0)
noncomputable def g3 : St := { g2 with ob := g2.ob, nm := g2.nm }.put (some 20) (.lst .full [])
noncomputable def g4 : St := ((chain Try.prog Γ cfG opE 0 1 4 g3).map Prod.fst).getD g3
noncomputable def g5 : St := { g4 with ob := g4.ob, nm := g4.nm.set 0 (some (.live (.cs 1 (List.replicate 5 (.i .i64 0))))) }.put (some 22) (.bs false 0 0 5)
noncomputable def g6 : St := ((chain Try.prog Γ cfG opE 0 4 6 g5).map Prod.fst).getD g5
theorem ch {n i : Nat} {ops : Array Oper} {x y : St} (h : (chain Try.prog Γ cfG ops 0 n i x).map Prod.fst = some y) : ∃ es, chain Try.prog Γ cfG ops 0 n i x = some (y, es) := by
 rw [Option.map_eq_some_iff] at h
 obtain ⟨⟨z, es⟩, h1, h2⟩ := h
 exact ⟨es, by rw [h1, ← h2]⟩
theorem opAt {ops : Array Oper} {k : Nat} {d : Nat} {op : Op} (h : (ops[k]?).map (fun o => (o.dst, o.op, o.guard)) = some (some d, op, none)) : ∃ o, ops[k]? = some o ∧ o.dst = some d ∧ o.op = op ∧ o.guard = none := by
 rw [Option.map_eq_some_iff] at h
 obtain ⟨o, h1, h2⟩ := h
 simp only [Prod.mk.injEq] at h2
 exact ⟨o, h1, h2.1, h2.2.1, h2.2.2⟩
theorem regC : SemC Try.prog Γ (.region 3 opC false) e0 .normal e3 := by
 intro ro G a w hr _
 refine wpIn_region ?_
 have hsz : opC.size = 8 := by kernel_rfl
 have hal : (opC.toList.all fun o => !allocs o) = true := by kernel_rfl
 obtain ⟨es1, h1⟩ := ch (n := 2) (i := 0) (ops := opC) (x := e0) (y := e1) (by kernel_rfl)
 obtain ⟨es3, h3⟩ := ch (n := 5) (i := 3) (ops := opC) (x := e2) (y := e3) (by kernel_rfl)
 obtain ⟨o, ho, hd, hop, hg⟩ := opAt (ops := opC) (k := 2) (d := 10) (op := .call { callee := .builtin .cap, args := #[.tmp 9], argTypes := #[22] }) (by kernel_rfl)
 rw [List.range_eq_range', hsz, show List.range' 0 8 = List.range' 0 2 ++ (2 :: List.range' 3 5) from rfl]
 refine chain_wp (cfM_fit cfg0_ok 30).1 (cfM_fit cfg0_ok 30).2 2 0 e0 e1 es1 G a w (free_of hal 0 _) h1 hr ?_
 intro G1 a1 w1 l1 r1
 refine cust_wp ho (by simp [wantedV, hg]) (SemV.cap0 (e := 3) hop rfl rfl rfl (by kernel_rfl) (by kernel_rfl)) r1 ?_
 intro G2 a2 w2 l2 r2
 rw [hd] at r2
 have := chain_wp (Q := fun e a' w' => e = .normal ∧ ∃ G', G.leW G' ∧ Rel Γ G' e3 a' w') (ro := ro) (l2 := []) (cfM_fit cfg0_ok 30).1 (cfM_fit cfg0_ok 30).2 5 3 e2 e3 es3 G2 a2 w2 (free_of hal 3 _) h3 r2 (fun G' a' w' hl hr' => ⟨rfl, G', ((l1.trans l2).trans hl).weak, hr'⟩)
 simpa using this
theorem regE : SemC Try.prog Γ (.region 5 opE false) g0 .normal g6 := by
 intro ro G a w hr _
 refine wpIn_region ?_
 have hsz : opE.size = 10 := by kernel_rfl
 have hal : ((List.range 10).all fun j => match opE[j]? with | some o => !allocs o || Nat.beq j 5 | none => true) = true := by kernel_rfl
 have hsl : slotOf opE 0 5 = 0 := by kernel_rfl
 have only : ∀ j o, opE[j]? = some o → allocs o = true → j = 5 := fun j o hj ha => by
  have hlt : j < 10 := by
   rcases Nat.lt_or_ge j opE.size with h | h
   · omega
   · rw [Array.getElem?_eq_none h] at hj; cases hj
  have := List.all_eq_true.1 hal j (List.mem_range.2 hlt)
  simp only [hj, ha] at this
  exact Nat.eq_of_beq_eq_true (by simpa using this)
 have free : ∀ (x : St), x.ob[0]? = some none → x.nm[0]? = some none → ∀ i, Free opE 0 i x := fun x h1 h2 i j o _ hj ha => by
  obtain rfl := only j o hj ha
  rw [hsl]; exact ⟨h1, h2⟩
 obtain ⟨es1, h1⟩ := ch (n := 2) (i := 0) (ops := opE) (x := g0) (y := g1) (by kernel_rfl)
 obtain ⟨es4, h4⟩ := ch (n := 1) (i := 4) (ops := opE) (x := g3) (y := g4) (by kernel_rfl)
 obtain ⟨es6, h6⟩ := ch (n := 4) (i := 6) (ops := opE) (x := g5) (y := g6) (by kernel_rfl)
 obtain ⟨o, ho, hd, hop, hg⟩ := opAt (ops := opE) (k := 2) (d := 19) (op := .call { callee := .builtin .cap, args := #[.tmp 18], argTypes := #[22] }) (by kernel_rfl)
 obtain ⟨o3, ho3, hd3, hop3, hg3⟩ := opAt (ops := opE) (k := 3) (d := 20) (op := .slice 22 (.tmp 17) none (some (.tmp 19)) none) (by kernel_rfl)
 obtain ⟨o5, ho5, hd5, hop5, hg5⟩ := opAt (ops := opE) (k := 5) (d := 22) (op := .call { callee := .builtin .append, args := #[.tmp 20, .tmp 21], argTypes := #[22, 3] }) (by kernel_rfl)
 obtain ⟨i, hi, hiz, his, hib⟩ : ∃ i, Try.prog.info? 3 = some i ∧ i.zero = some (.int .i64 0) ∧ i.size = 1 ∧ i.bytes ≤ 100 := ⟨(Try.prog.info? 3).get (by kernel_rfl), by kernel_rfl, by kernel_rfl, by kernel_rfl, by decide +kernel⟩
 rw [List.range_eq_range', hsz, show List.range' 0 10 = List.range' 0 2 ++ (2 :: 3 :: (List.range' 4 1 ++ (5 :: List.range' 6 4))) from rfl]
 refine chain_wp (cfM_fit cfg0_ok 30).1 (cfM_fit cfg0_ok 30).2 2 0 g0 g1 es1 G a w (free g0 rfl rfl 0) h1 hr ?_
 intro G1 a1 w1 l1 r1
 refine cust_wp ho (by simp [wantedV, hg]) (SemV.cap0 (e := 3) hop rfl rfl rfl (by kernel_rfl) (by kernel_rfl)) r1 ?_
 intro G2 a2 w2 l2 r2
 rw [hd] at r2
 refine cust_wp (σ := g2) ho3 (by simp [wantedV, hg3]) (SemV.slice0 (e := 3) (sz := 1) hop3 (by kernel_rfl) (by kernel_rfl) (by kernel_rfl) (by kernel_rfl)) r2 ?_
 intro G3 a3 w3 l3 r3
 rw [hd3] at r3
 refine chain_wp (cfM_fit cfg0_ok 30).1 (cfM_fit cfg0_ok 30).2 1 4 g3 g4 es4 G3 a3 w3 (free g3 (by kernel_rfl) (by kernel_rfl) 4) h4 r3 ?_
 intro G4 a4 w4 l4 r4
 refine cust_wp (σ := g4) ho5 (by simp [wantedV, hg5]) (SemV.appendZeros (s := 0) (n := 5) hop5 rfl rfl rfl (by kernel_rfl) (kn := .i64) (by kernel_rfl) hi hiz his (by kernel_rfl) (by kernel_rfl) (by kernel_rfl) (by omega) (by omega) hib) r4 ?_
 intro G5 a5 w5 l5 r5
 rw [hd5] at r5
 have hf6 : Free opE 0 6 g5 := fun j o hj ho ha => by have := only j o ho ha; omega
 have := chain_wp (Q := fun e a' w' => e = .normal ∧ ∃ G', G.leW G' ∧ Rel Γ G' g6 a' w') (ro := ro) (l2 := []) (cfM_fit cfg0_ok 30).1 (cfM_fit cfg0_ok 30).2 4 6 g5 g6 es6 G5 a5 w5 hf6 h6 r5 (fun G' a' w' hl hr' => ⟨rfl, G', (((((l1.trans l2).trans l3).trans l4).trans l5).trans hl).weak, hr'⟩)
 simpa using this
noncomputable def pg (i : Nat) (c : Code) (lv lvr : List Nat) (x : St) := outa (lvE lv lvr) (evCK Try.prog Γ (cfM Try.prog Γ cfg0 30) (cfg0.lo 72) (cfg0.lv 72) 60 i c x)
theorem pg_ok {i : Nat} {c : Code} (hl : Lies (root 72) i c) {lv lvr : List Nat} {x : St} {e : Ex} {vs : List V} {ob : Ob} {nm : Nm} {m kh kt : Nat}
 (h : (pg i c lv lvr x).run = some (e, vs, ob, nm, m, kh, kt)) : SemC Try.prog Γ c x e.to (St.of m (lvE lv lvr e) vs ob nm kh kt) := SemC.of_evM cfg0_ok Try.func72 bd72 hl h
theorem grow5 : SemF Try.prog Γ 72 [.lst .full [], .i .i64 5] [] [] (.bs false 0 0 0) [] [some (.live (.cs 1 (List.replicate 5 (.i .i64 0))))] := by
 have h1 := pg_ok (i := 0) (e := .normal) (vs := [.lst .full [], .i .i64 5]) (ob := []) (nm := []) (m := 27) (kh := 0) (kt := 0) (lv := [0, 1]) (lvr := []) (c := hA) (x := St.start 27 [.lst .full [], .i .i64 5] [] []) (lies0 (by kernel_rfl)) (by kernel_rfl)
 have h2 := pg_ok (i := 0) (e := .normal) (vs := [.lst .full [], .i .i64 5]) (ob := []) (nm := []) (m := 27) (kh := 0) (kt := 0) (lv := [0, 1]) (lvr := []) (c := hB) (x := St.of 27 [0, 1] [.lst .full [], .i .i64 5] [] []) (lies0 (by kernel_rfl)) (by kernel_rfl)
 have h3 : SemC Try.prog Γ (.region 3 opC false) e0 .normal (St.of 27 [0, 1] [.lst .full [], .i .i64 5] [] []) := regC.ren (po := []) (pn := []) (n := 27) (by kernel_rfl) (by kernel_rfl)
 have h4 := pg_ok (i := 0) (e := .normal) (vs := [.lst .full [], .i .i64 5, .b true]) (ob := []) (nm := []) (m := 27) (kh := 0) (kt := 0) (lv := [0, 1, 16]) (lvr := []) (c := hD) (x := St.of 27 [0, 1] [.lst .full [], .i .i64 5] [] []) (lies0 (by kernel_rfl)) (by kernel_rfl)
 have h5 : SemC Try.prog Γ (.region 5 opE false) e0 .normal (St.of 27 [0] [.bs false 0 0 0] [] [some (.live (.cs 1 (List.replicate 5 (.i .i64 0))))]) := (SemC.of_pad (k := 1) (x := e0) regE).ren (po := []) (pn := [0]) (n := 27) (by kernel_rfl) (by kernel_rfl)
 have h5' : SemC Try.prog Γ (.cond (.tmp 16) (.region 5 opE false) .skip) (St.of 27 [0, 1, 16] [.lst .full [], .i .i64 5, .b true] [] []) .normal (St.of 27 [0] [.bs false 0 0 0] [] [some (.live (.cs 1 (List.replicate 5 (.i .i64 0))))]) := by
  intro ro G a w hr ho
  have hb : a.eval (.tmp 16) = .bool true := by
   have := hr.eval (.tmp 16)
   have e : St.eval Γ (St.of 27 [0, 1, 16] [.lst .full [], .i .i64 5, .b true] [] []) (.tmp 16) = .b true := by kernel_rfl
   rw [e] at this
   generalize a.eval (.tmp 16) = z at this
   cases this; rfl
  refine wpIn_cond_true hb (h5 ro G a w ?_ ho)
  exact St.of_imps (lv := [0, 1, 16]) (vs := [.lst .full [], .i .i64 5, .b true]) (vs' := [.lst .full [], .i .i64 5, .any]) rfl (fun G j v v' h1 h2 cv hr => by
   match j with
   | 0 => cases h1; cases h2; exact hr
   | 1 => cases h1; cases h2; exact hr
   | 2 => cases h1; cases h2; exact .any _
   | j + 3 => cases h1) G a w hr
 have h6 := pg_ok (i := 0) (e := .ret) (vs := [.bs false 0 0 0]) (ob := []) (nm := [some (.live (.cs 1 (List.replicate 5 (.i .i64 0))))]) (m := 27) (kh := 0) (kt := 0) (lv := []) (lvr := [4]) (c := hF) (x := St.of 27 [0] [.bs false 0 0 0] [] [some (.live (.cs 1 (List.replicate 5 (.i .i64 0))))]) (lies0 (by kernel_rfl)) (by kernel_rfl)
 have hc : SemC Try.prog Γ (root 72) (St.start 27 [.lst .full [], .i .i64 5] [] []) .ret (St.of 27 [4] [.bs false 0 0 0] [] [some (.live (.cs 1 (List.replicate 5 (.i .i64 0))))]) := by
  rw [root72]; exact h1.seq (h2.seq ((h3.seq (h4.seq h5')).seq h6))
 exact SemF.of_body Try.func72 bd72 (.inl rfl) hc (by kernel_rfl)
def tG : CallT := fun f args ob nm => match Nat.beq f 72 with
 | true => (match args, ob, nm with | [.lst .full [], .i .i64 n], [], [] => (match decide (n = 5) with | true => some (none, .bs false 0 0 0, [], [some (.live (.cs 1 (List.replicate 5 (.i .i64 0))))]) | false => none) | _, _, _ => none)
 | false => none
theorem tG_ok : CtOk Try.prog Γ tG := fun f args ob nm c v ob1 nm1 h hc => by
 unfold tG at h
 split at h
 · rename_i hf
   obtain rfl := Nat.eq_of_beq_eq_true hf
   split at h
   · split at h
     · rename_i n hn
       obtain rfl := of_decide_eq_true hn
       cases h
       exact ⟨grow5, by decide, Try.f72, Try.func72, by kernel_rfl, by kernel_rfl⟩
     · cases h
   · cases h
 · cases h
noncomputable def omG : CallF := fun f args ob nm => match Nat.beq f 72 with | true => callC tG f args ob nm | false => om1 f args ob nm
theorem omG_ok : CallsOk Try.prog Γ omG ∧ CallsFit omG := by
 refine ⟨fun f args ob nm out h hc => ?_, ⟨fun f args ob nm out h => ?_, fun f args ob nm out h ob' nm' hs => ?_⟩⟩
 · unfold omG at h
   split at h
   · exact callC_calls tG_ok _ _ _ _ _ h hc
   · exact om1_ok.1 _ _ _ _ _ h hc
 · unfold omG at h
   split at h
   · exact (callC_fit tG_ok).eff _ _ _ _ _ h
   · exact om1_ok.2.eff _ _ _ _ _ h
 · unfold omG at h ⊢
   split at h
   · exact (callC_fit tG_ok).frame _ _ _ _ _ h ob' nm' hs
   · exact om1_ok.2.frame _ _ _ _ _ h ob' nm' hs
end T
end Go.Proofs.Ytofbchcclkejgaa

/- Package tally: comparisons. -/
set_option linter.unusedVariables false
set_option linter.unusedSimpArgs false
set_option maxRecDepth 100000
set_option maxHeartbeats 4000000
namespace Go.Proofs.Ytofbchcclkejgaa
open Go
namespace T
def sgn (a b : Int) : Int := if a < b then -1 else if b < a then 1 else 0
theorem c70_ok (a b : Int) : SemF Try.prog Γ 70 [.si .i64 a, .si .i64 b] [] [] (.si .i64 (sgn a b)) [] [] :=
 of_run cfg0_ok (c70_run a b) rfl (by
  unfold sgn
  by_cases h1 : a < b
  · simp [h1]
  · by_cases h2 : b < a <;> simp [h1, h2])
noncomputable def gg_o70 (a b : Int) : Option Bool × V := (none, .si .i64 (sgn a b))
noncomputable def o70 : Orc := fun f args => if f = 70 then (Ty.ofVs [ity, ity] args).map (fun x => gg_o70 x.1 x.2.1) else o20 f args
theorem o70_ok : OrcOk Try.prog Γ o70 := o20_ok.plain 70 [ity, ity] (fun x => gg_o70 x.1 x.2.1) Try.f70 Try.func70 rfl (by kernel_rfl) (fun x h => c70_ok x.1 x.2.1)
noncomputable def cfg10 : Cfg := cfgO o70 lo6
theorem cfg10_ok : CfgOk Try.prog Γ cfg10 := cfgO_ok o70_ok lo6_ok
def hp_cm : HP := { n := 36, lv := [0, 1, 9, 10, 11], sp := [.ty (.slice ity), .ty (.slice ity), .ty (.slice ity), .ty ity, .ty ity], op := [], bp := [] }
def lve_cm : Ex → List Nat
 | .normal => [0, 1, 9, 10, 11]
 | .ret => [4]
 | .exit 0 => [0, 1]
 | _ => []
theorem bd_cm : Try.f71.body = some (root 71) := by kernel_rfl
theorem le_cm : (loops (root 71))[0]? = some (lp 71 0) := by kernel_rfl
theorem li_cm : Lies (root 71) 1 (lp 71 0) := Lies.of_take (n := 0) (by kernel_rfl)
def st_cm (a b a2 : List Int) (n i : Int) : St := hp_cm.st ⟨(a, b, a2, n, i, ()), (), ()⟩
noncomputable def rn_cm (a b a2 : List Int) (n i : Int) := outa lve_cm (evCK Try.prog Γ (cfM Try.prog Γ cfg10 30) (cfg10.lo 71) [] 60 1 (lp 71 0) (st_cm a b a2 n i))
theorem rn_cm_eq (a b a2 : List Int) (n i : Int) : (rn_cm a b a2 n i).run = (bif decide (i < n) then (bif decide ((0 : Int) ≤ i ∧ i < (a2.length : Int)) then (bif decide (i ≥ (b.length : Int)) then (some ((Ex.ret, [V.i .i64 (1 : Int)], [], [], 36, 0, 0))) else (bif decide ((0 : Int) ≤ i ∧ i < (b.length : Int)) then (bif sgn (a2.getD i.toNat (0 : Int)) (b.getD i.toNat (0 : Int)) != (0 : Int) then (some ((Ex.ret, [V.si .i64 (sgn (a2.getD i.toNat (0 : Int)) (b.getD i.toNat (0 : Int)))], [], [], 36, 0, 0))) else (some ((Ex.normal, [V.slst .ro ity a, V.slst .ro ity b, V.slst .ro ity a2, V.si .i64 n, V.si .i64 (IntKind.i64.wrap (i + (1 : Int)))], [], [], 36, 0, 0)))) else none)) else none) else (some ((Ex.exit 0, [V.slst .ro ity a, V.slst .ro ity b], [], [], 36, 0, 0)))) := by kernel_rfl
theorem rn_cm_c (a b a2 : List Int) (n i : Int) {e : Ex} {vs : List V} {ob : Ob} {nm : Nm} {n' kh kt : Nat} (h : (rn_cm a b a2 n i).run = some (e, vs, ob, nm, n', kh, kt)) : SemC Try.prog Γ (lp 71 0) (st_cm a b a2 n i) e.to (St.of n' (lve_cm e) vs ob nm kh kt) := SemC.of_evM cfg10_ok Try.func71 bd_cm li_cm h
def lexC : List Int → List Int → Int
 | [], [] => 0
 | [], _ :: _ => -1
 | _ :: _, [] => 1
 | x :: a, y :: b => if sgn x y ≠ 0 then sgn x y else lexC a b
def lexP (a b : List Int) (i : Nat) : Bool := decide (i < b.length) && decide (sgn (a.getD i 0) (b.getD i 0) = 0)
def pfx (a b : List Int) : Bool := allI a.length (lexP a b)
theorem drop_cons {l : List Int} {i : Nat} (h : i < l.length) : l.drop i = l.getD i 0 :: l.drop (i + 1) := by
 rw [List.drop_eq_getElem_cons h, List.getD, List.getElem?_eq_getElem h]; rfl
theorem lexC_drop {a b : List Int} : ∀ {i : Nat}, i ≤ a.length → (∀ j, j < i → lexP a b j = true) → lexC a b = lexC (a.drop i) (b.drop i)
 | 0, _, _ => rfl
 | i + 1, hi, h => by
  rw [lexC_drop (i := i) (by omega) (fun j hj => h j (by omega))]
  have hp := h i (by omega)
  unfold lexP at hp
  simp only [Bool.and_eq_true, decide_eq_true_eq] at hp
  rw [drop_cons (show i < a.length by omega), drop_cons hp.1]
  simp only [lexC, hp.2, ne_eq, not_true_eq_false, if_false]
theorem pfx_lex {a b : List Int} (h : pfx a b = true) : lexC a b = if a.length < b.length then -1 else 0 := by
 have h1 := allI_true.1 h
 rw [lexC_drop (Nat.le_refl _) h1, List.drop_length]
 by_cases hl : a.length < b.length
 · rw [if_pos hl, drop_cons hl]; rfl
 · rw [if_neg hl, List.drop_eq_nil_of_le (by omega)]; rfl
abbrev pre_cm (a b a2 : List Int) (n i : Int) : Prop := a2 = a ∧ n = (a.length : Int) ∧ i = 0 ∧ a.length ≤ 1000000 ∧ b.length ≤ 1000000
def rs_cm (a b a2 : List Int) (n i : Int) : Ex × St := if pfx a b = true then (.exit 0, St.of 36 (lve_cm (.exit 0)) [.slst .ro ity a, .slst .ro ity b] [] [] hp_cm.kh hp_cm.kt) else (.ret, St.of 36 (lve_cm (.ret)) [.si .i64 (lexC a b)] [] [] hp_cm.kh hp_cm.kt)
def res_cm (a b a2 : List Int) (n i : Int) : Tr (Ex × St) := .br (decide (pre_cm a b a2 n i)) (.br (decide (pfx a b = true)) (.leaf (some (.exit 0, St.of 36 (lve_cm (.exit 0)) [.slst .ro ity a, .slst .ro ity b] [] [] hp_cm.kh hp_cm.kt))) (.leaf (some (.ret, St.of 36 (lve_cm (.ret)) [.si .i64 (lexC a b)] [] [] hp_cm.kh hp_cm.kt)))) (.leaf none)
def ent_cm : LEnt := LEnt.by hp_cm fun ⟨(a, b, a2, n, i, _), _, _⟩ => res_cm a b a2 n i
theorem ent_cm_ok (hgo : ∀ (a b a2 : List Int) (n i : Int), pre_cm a b a2 n i → SemL Try.prog Γ (lp 71 0) (st_cm a b a2 n i) (rs_cm a b a2 n i).1.to (rs_cm a b a2 n i).2) : EntOk Try.prog Γ (lp 71 0) ent_cm := LEnt.by_ok fun ⟨(a, b, a2, n, i, _), _, _⟩ _ _ h_ => SemL.br (out := rs_cm a b a2 n i) (Tr.run_ite rfl rfl) (hgo a b a2 n i) h_
theorem cm_go (a b a2 : List Int) (n i : Int) (h : pre_cm a b a2 n i) : SemL Try.prog Γ (lp 71 0) (st_cm a b a2 n i) (rs_cm a b a2 n i).1.to (rs_cm a b a2 n i).2 := by
 obtain ⟨rfl, rfl, rfl, ha, hb⟩ := h
 refine SemL.scan a2.length 0 (Nat.zero_le _) (fun i => st_cm a2 b a2 a2.length (i : Nat)) (lexP a2 b) _ ?_ ?_ ?_
 · intro i _ hi hbb hp
   unfold lexP at hp
   simp only [Bool.and_eq_true, decide_eq_true_eq] at hp
   refine rn_cm_c a2 b a2 a2.length i (e := .normal) ?_
   rw [rn_cm_eq, wrap_succ hi ha, decide_eq_true (by omega : (i : Int) < a2.length), decide_eq_true (by omega : (0 : Int) ≤ (i : Int) ∧ (i : Int) < a2.length), decide_eq_false (by omega : ¬ (i : Int) ≥ b.length), decide_eq_true (by omega : (0 : Int) ≤ (i : Int) ∧ (i : Int) < b.length), Int.toNat_natCast, hp.2]
   rfl
 · intro i _ hi hbb hp
   have hr : ¬ pfx a2 b = true := by unfold pfx; rw [allI_false hi hp]; simp
   unfold rs_cm
   rw [if_neg hr]
   have hlex := lexC_drop (i := i) (by omega) (fun j hj => hbb j (Nat.zero_le _) hj)
   refine ⟨by simp [Ex.to], ?_⟩
   by_cases h1 : i < b.length
   · have h2 : sgn (a2.getD i 0) (b.getD i 0) ≠ 0 := by
      intro h2
      unfold lexP at hp
      rw [decide_eq_true h1, decide_eq_true h2] at hp
      cases hp
     have e : lexC a2 b = sgn (a2.getD i 0) (b.getD i 0) := by
      rw [hlex, drop_cons hi, drop_cons h1]
      simp only [lexC, ne_eq, h2, not_false_eq_true, if_true]
     rw [e]
     refine rn_cm_c a2 b a2 a2.length i (e := .ret) ?_
     have hne : (sgn (a2.getD i 0) (b.getD i 0) != (0 : Int)) = true := by simpa using h2
     rw [rn_cm_eq, decide_eq_true (by omega : (i : Int) < a2.length), decide_eq_true (by omega : (0 : Int) ≤ (i : Int) ∧ (i : Int) < a2.length), decide_eq_false (by omega : ¬ (i : Int) ≥ b.length), decide_eq_true (by omega : (0 : Int) ≤ (i : Int) ∧ (i : Int) < b.length), Int.toNat_natCast, hne]
     rfl
   · have e : lexC a2 b = 1 := by
      rw [hlex, drop_cons hi, List.drop_eq_nil_of_le (show b.length ≤ i by omega)]
      rfl
     rw [e]
     refine SemC.post (rn_cm_c a2 b a2 a2.length i (e := .ret) (vs := [V.i .i64 1]) ?_) (St.of_imps rfl fun G j v v' h1 h2 cv hr => ?_)
     · rw [rn_cm_eq, decide_eq_true (by omega : (i : Int) < a2.length), decide_eq_true (by omega : (0 : Int) ≤ (i : Int) ∧ (i : Int) < a2.length), decide_eq_true (by omega : (i : Int) ≥ b.length)]
       rfl
     · match j with
       | 0 => cases h1; cases h2; cases hr; exact .si _ _
       | j + 1 => cases h1
 · intro hbb
   have hr : pfx a2 b = true := allI_true.2 fun i hi => hbb i (Nat.zero_le _) hi
   unfold rs_cm
   rw [if_pos hr]
   refine ⟨by simp [Ex.to], rn_cm_c a2 b a2 a2.length a2.length (e := .exit 0) ?_⟩
   rw [rn_cm_eq, decide_eq_false (by omega)]
   rfl
def eqL (a b : List Int) : Bool := decide (a = b)
theorem eqL_iff {a b : List Int} : eqL a b = true ↔ a = b := by simp [eqL]
abbrev pre_eq (a b : List Int) (n i : Int) : Prop := n = (a.length : Int) ∧ i = 0 ∧ a.length ≤ 1000000 ∧ b.length = a.length
def rs_eq (a b : List Int) (n i : Int) : Ex × St := if eqL a b = true then (.exit 0, St.of 26 (lve_eq (.exit 0)) [] [] [] hp_eq.kh hp_eq.kt) else (.ret, St.of 26 (lve_eq (.ret)) [.b false] [] [] hp_eq.kh hp_eq.kt)
def res_eq (a b : List Int) (n i : Int) : Tr (Ex × St) := .br (decide (pre_eq a b n i)) (.br (decide (eqL a b = true)) (.leaf (some (.exit 0, St.of 26 (lve_eq (.exit 0)) [] [] [] hp_eq.kh hp_eq.kt))) (.leaf (some (.ret, St.of 26 (lve_eq (.ret)) [.b false] [] [] hp_eq.kh hp_eq.kt)))) (.leaf none)
def ent_eq : LEnt := LEnt.by hp_eq fun ⟨(a, b, n, i, _), _, _⟩ => res_eq a b n i
theorem ent_eq_ok (hgo : ∀ (a b : List Int) (n i : Int), pre_eq a b n i → SemL Try.prog Γ (lp 68 0) (st_eq a b n i) (rs_eq a b n i).1.to (rs_eq a b n i).2) : EntOk Try.prog Γ (lp 68 0) ent_eq := LEnt.by_ok fun ⟨(a, b, n, i, _), _, _⟩ _ _ h_ => SemL.br (out := rs_eq a b n i) (Tr.run_ite rfl rfl) (hgo a b n i) h_
theorem eq_of_at {a b : List Int} (hl : b.length = a.length) (h : ∀ i, i < a.length → (a.getD i 0 == b.getD i 0) = true) : a = b := by
 refine List.ext_getElem hl.symm fun i h1 h2 => ?_
 have := h i h1
 simpa [List.getD, h1, h2] using this
theorem eq_go (a b : List Int) (n i : Int) (h : pre_eq a b n i) : SemL Try.prog Γ (lp 68 0) (st_eq a b n i) (rs_eq a b n i).1.to (rs_eq a b n i).2 := by
 obtain ⟨rfl, rfl, hc, hl⟩ := h
 refine SemL.scan a.length 0 (Nat.zero_le _) (fun i => st_eq a b a.length (i : Nat)) (fun i => a.getD i 0 == b.getD i 0) _ ?_ ?_ ?_
 · intro i _ hi hb hp
   refine rn_eq_c a b a.length i (e := .normal) ?_
   have hp' : (a.getD i 0 != b.getD i 0) = false := by simpa using hp
   rw [rn_eq_eq, wrap_succ hi hc, decide_eq_true (by omega : (i : Int) < a.length), decide_eq_true (by omega : (0 : Int) ≤ (i : Int) ∧ (i : Int) < a.length), decide_eq_true (by omega : (0 : Int) ≤ (i : Int) ∧ (i : Int) < b.length), Int.toNat_natCast, hp']
   rfl
 · intro i _ hi hb hp
   have hp' : (a.getD i 0 != b.getD i 0) = true := by simpa using hp
   have hne : ¬ a = b := by rintro rfl; simp at hp
   unfold rs_eq
   rw [if_neg (fun h => hne (eqL_iff.1 h))]
   refine ⟨by simp [Ex.to], rn_eq_c a b a.length i (e := .ret) ?_⟩
   rw [rn_eq_eq, decide_eq_true (by omega : (i : Int) < a.length), decide_eq_true (by omega : (0 : Int) ≤ (i : Int) ∧ (i : Int) < a.length), decide_eq_true (by omega : (0 : Int) ≤ (i : Int) ∧ (i : Int) < b.length), Int.toNat_natCast, hp']
   rfl
 · intro hb
   unfold rs_eq
   rw [if_pos (eqL_iff.2 (eq_of_at hl (fun i hi => hb i (Nat.zero_le _) hi)))]
   refine ⟨by simp [Ex.to], rn_eq_c a b a.length a.length (e := .exit 0) ?_⟩
   rw [rn_eq_eq, decide_eq_false (by omega)]
   rfl
def lo10 : LOrc := (LOrc.add (LOrc.add lo6 71 0 ent_cm) 68 0 ent_eq)
theorem lo10_ok : LOrcOk Try.prog Γ lo10 := (LOrcOk.add (LOrcOk.add lo6_ok 71 0 Try.func71 bd_cm le_cm (ent_cm_ok cm_go)) 68 0 Try.func68 bd_eq le_eq (ent_eq_ok eq_go))
noncomputable def cfg11 : Cfg := cfgO o70 lo10
theorem cfg11_ok : CfgOk Try.prog Γ cfg11 := cfgO_ok o70_ok lo10_ok
theorem c68_run (a b : List Int) : runL cfg11 68 [.slst .ro ity a, .slst .ro ity b] = .ok (some ((a.length : Int) != (b.length : Int) || decide (pre_eq a b (a.length : Int) (0 : Int)))) (V.sb (bif (a.length : Int) != (b.length : Int) then false else bif decide (eqL a b = true) then true else false)) := by kernel_rfl
theorem c71_run (a b : List Int) : runL cfg11 71 [.slst .ro ity a, .slst .ro ity b] = .ok (some (decide (pre_cm a b a (a.length : Int) (0 : Int)))) (V.si .i64 (bif decide (pfx a b = true) then bif decide ((a.length : Int) < (b.length : Int)) then (-1 : Int) else (0 : Int) else lexC a b)) := by kernel_rfl
def memQ (f : FuncId) : Bool := ([53, 54, 55, 56, 59, 67, 72, 73, 74, 78, 79] : List Nat).any (Nat.beq f)
noncomputable def cfgQ (orc : Orc) (lo : LOrc) : Cfg := ⟨orc, fun _ => false, omN, lo, lvF, memQ, 80, fun _ _ => none⟩
theorem cfgQ_ok {orc : Orc} {lo : LOrc} (h : OrcOk Try.prog Γ orc) (hl : LOrcOk Try.prog Γ lo) : CfgOk Try.prog Γ (cfgQ orc lo) where
 orc := h
 om := omN_ok
 fit := omN_fit
 lo := hl
 mixed := by kernel_rfl
noncomputable def cfgR : Cfg := cfgQ o70 lo10
theorem cfgR_ok : CfgOk Try.prog Γ cfgR := cfgQ_ok o70_ok lo10_ok
theorem c40_run (a : List Int) : run cfgR 40 [.slst .ro ity a] = .ok (some (decide (0 < a.length) && decide (a.length * 2 * (8 : Nat) ≤ 281474976710656))) (V.slst .ro ity (List.take a.length (List.drop (0) a))) := by kernel_rfl
theorem c68_ok (a b : List Int) (h : a.length ≤ 1000000) : SemF Try.prog Γ 68 [.slst .ro ity a, .slst .ro ity b] [] [] (.sb (eqL a b)) [] [] :=
 of_runL cfg11_ok (c68_run a b) (by
  by_cases hl : b.length = a.length
  · simp [hl, pre_eq, h]
  · have : ((a.length : Int) != (b.length : Int)) = true := by simp; omega
    simp [this]) (by
  by_cases hl : b.length = a.length
  · have h1 : ((Nat.cast a.length : Int) != (Nat.cast b.length : Int)) = false := by simp [hl]
    rw [h1]
    unfold eqL
    by_cases he : a = b <;> simp [he]
  · have h1 : ((Nat.cast a.length : Int) != (Nat.cast b.length : Int)) = true := by simp; omega
    have he : eqL a b = false := by
     unfold eqL; rw [decide_eq_false]; rintro rfl; exact hl rfl
    rw [h1, he]
    rfl)
theorem c71_ok (a b : List Int) (h : a.length ≤ 1000000 ∧ b.length ≤ 1000000) : SemF Try.prog Γ 71 [.slst .ro ity a, .slst .ro ity b] [] [] (.si .i64 (lexC a b)) [] [] :=
 of_runL cfg11_ok (c71_run a b) (by simp [pre_cm, h.1, h.2]) (by
  cases hp : pfx a b with
  | false => rfl
  | true =>
   rw [pfx_lex hp]
   by_cases hl : a.length < b.length
   · have : (a.length : Int) < (b.length : Int) := by omega
     simp [hl, this]
   · have : ¬ (a.length : Int) < (b.length : Int) := by omega
     simp [hl, this])
theorem c40_ok (a : List Int) (h : a.length ≤ 1000000) : SemF Try.prog Γ 40 [.slst .ro ity a] [] [] (.slst .ro ity a) [] [] := by
 by_cases h0 : a = []
 · subst h0
   exact SemF.byNil (fun _ _ h => VRel.nil_or' h) ((of_run cfgA_ok run40n rfl rfl).weaken (fun G cv hr => Ty.ofV_ok (t := .slice ity) (x := []) (by kernel_rfl) hr)) ((of_run cfgA_ok run40e rfl rfl).weaken (fun G cv hr => Ty.ofV_ok (t := .slice ity) (x := []) (by kernel_rfl) hr))
 · have hp : 0 < a.length := List.length_pos_iff.2 h0
   have e : List.take a.length (List.drop 0 a) = a := by rw [List.drop_zero, List.take_length]
   have hr := of_run cfgR_ok (c40_run a) (by rw [decide_eq_true hp, decide_eq_true (by omega : a.length * 2 * 8 ≤ 281474976710656)]; rfl) rfl
   exact (congrArg (fun z : List Int => SemF Try.prog Γ 40 [.slst .ro ity a] [] [] (.slst .ro ity z) [] []) e).mp hr
noncomputable def gg_o68 (a b : List Int) : Option Bool × V := (some (decide (a.length ≤ 1000000)), .sb (eqL a b))
theorem gg_o68_c (a b : List Int) (h : (gg_o68 a b).1.getD true = true) : a.length ≤ 1000000 := of_decide_eq_true h
noncomputable def o68 : Orc := fun f args => if f = 68 then (Ty.ofVs [.slice ity, .slice ity] args).map (fun x => gg_o68 x.1 x.2.1) else o70 f args
theorem o68_ok : OrcOk Try.prog Γ o68 := o70_ok.plain 68 [.slice ity, .slice ity] (fun x => gg_o68 x.1 x.2.1) Try.f68 Try.func68 rfl (by kernel_rfl) (fun x h => c68_ok x.1 x.2.1 (gg_o68_c x.1 x.2.1 h))
noncomputable def gg_o71 (a b : List Int) : Option Bool × V := (some (decide (a.length ≤ 1000000 ∧ b.length ≤ 1000000)), .si .i64 (lexC a b))
theorem gg_o71_c (a b : List Int) (h : (gg_o71 a b).1.getD true = true) : a.length ≤ 1000000 ∧ b.length ≤ 1000000 := of_decide_eq_true h
noncomputable def o71 : Orc := fun f args => if f = 71 then (Ty.ofVs [.slice ity, .slice ity] args).map (fun x => gg_o71 x.1 x.2.1) else o68 f args
theorem o71_ok : OrcOk Try.prog Γ o71 := o68_ok.plain 71 [.slice ity, .slice ity] (fun x => gg_o71 x.1 x.2.1) Try.f71 Try.func71 rfl (by kernel_rfl) (fun x h => c71_ok x.1 x.2.1 (gg_o71_c x.1 x.2.1 h))
noncomputable def gg_o40 (a : List Int) : Option Bool × V := (some (decide (a.length ≤ 1000000)), .slst .ro ity a)
theorem gg_o40_c (a : List Int) (h : (gg_o40 a).1.getD true = true) : a.length ≤ 1000000 := of_decide_eq_true h
noncomputable def o40 : Orc := fun f args => if f = 40 then (Ty.ofVs [.slice ity] args).map (fun x => gg_o40 x.1) else o71 f args
theorem o40_ok : OrcOk Try.prog Γ o40 := o71_ok.plain 40 [.slice ity] (fun x => gg_o40 x.1) Try.f40 Try.func40 rfl (by kernel_rfl) (fun x h => c40_ok x.1 (gg_o40_c x.1 h))
noncomputable def cfg12 : Cfg := cfgQ o40 lo10
theorem cfg12_ok : CfgOk Try.prog Γ cfg12 := cfgQ_ok o40_ok lo10_ok
theorem c48_run (c : Int) (ds : List Int) (c' : Int) (ds' : List Int) : runL cfg12 48 [.agg [.si .i64 c, .slst .ro ity ds], .agg [.si .i64 c', .slst .ro ity ds']] = .ok (some ((some (!c == c' || decide (ds.length ≤ 1000000))).getD true)) (V.sb (bif c == c' then eqL ds ds' else false)) := by kernel_rfl
theorem c49_run (d n : Int) (v : List Int) (d' n' : Int) (v' : List Int) : runL cfg12 49 [.agg [.si .i64 d, .si .i64 n, .slst .ro ity v], .agg [.si .i64 d', .si .i64 n', .slst .ro ity v']] = .ok (some (decide (v.length ≤ 1000000 ∧ v'.length ≤ 1000000))) (V.si .i64 (bif sgn n n' != (0 : Int) then sgn n n' else bif lexC v v' != (0 : Int) then lexC v v' else (0 : Int))) := by kernel_rfl
theorem c12_run (c : Int) (ds : List Int) : runL cfg12 12 [.agg [.si .i64 c, .slst .ro ity ds]] = .ok (some (!validC c ds || decide (ds.length ≤ 1000000))) (V.tup [V.agg [V.si .i64 (bif !validC c ds then (0 : Int) else c), V.slst .ro ity (bif !validC c ds then [] else ds), V.lst .ro []], V.si .i64 (bif !validC c ds then (270 : Int) else (0 : Int))]) := by kernel_rfl
end T
end Go.Proofs.Ytofbchcclkejgaa

/- Package tally: isEqual, compare, New: contracts; Join: pieces. -/
set_option linter.unusedVariables false
set_option linter.unusedSimpArgs false
set_option maxRecDepth 100000
set_option maxHeartbeats 4000000
namespace Go.Proofs.Ytofbchcclkejgaa
open Go
namespace T
theorem c48_ok (c : Int) (ds : List Int) (c' : Int) (ds' : List Int) (h : ds.length ≤ 1000000) : SemF Try.prog Γ 48 [.agg [.si .i64 c, .slst .ro ity ds], .agg [.si .i64 c', .slst .ro ity ds']] [] [] (.sb (c == c' && eqL ds ds')) [] [] :=
 of_runL cfg12_ok (c48_run c ds c' ds') (by rw [decide_eq_true h, Bool.or_true]; rfl) (by cases c == c' <;> rfl)
theorem bne_of {a : Int} (h : ¬ a = 0) : (a != 0) = true := by simpa using h
def cmpD (n : Int) (v : List Int) (n' : Int) (v' : List Int) : Int := if sgn n n' ≠ 0 then sgn n n' else lexC v v'
theorem c49_ok (d n : Int) (v : List Int) (d' n' : Int) (v' : List Int) (h : v.length ≤ 1000000 ∧ v'.length ≤ 1000000) : SemF Try.prog Γ 49 [.agg [.si .i64 d, .si .i64 n, .slst .ro ity v], .agg [.si .i64 d', .si .i64 n', .slst .ro ity v']] [] [] (.si .i64 (cmpD n v n' v')) [] [] :=
 of_runL cfg12_ok (c49_run d n v d' n' v') (by rw [decide_eq_true h]; rfl) (by
  unfold cmpD
  by_cases h1 : sgn n n' = 0
  · by_cases h2 : lexC v v' = 0
    · simp [h1, h2]
    · rw [h1, bne_of h2]; rfl
  · rw [bne_of h1, if_pos h1]; rfl)
theorem c12_ok (c : Int) (ds : List Int) (h : ds.length ≤ 1000000) : SemF Try.prog Γ 12 [.agg [.si .i64 c, .slst .ro ity ds]] [] [] (.tup [.agg [.si .i64 (bif validC c ds then c else 0), .slst .ro ity (bif validC c ds then ds else []), .slst .ro retT []], .si .i64 (bif validC c ds then 0 else 270)]) [] [] :=
 by
  have h1 := of_runL cfg12_ok (c12_run c ds) (by rw [decide_eq_true h, Bool.or_true]; rfl) rfl
  refine h1.weaken (fun G cv hr => ?_)
  cases hv : validC c ds <;> rw [hv] at hr
  · cases hr with
    | tup hs hr => exact .tup hs (fun j v w a b => by
     match j with
     | 0 => cases a; exact Ty.ofV_ok (t := talT) (x := (((0 : Int), ([] : List Int), ()), ([] : List (Ty.den retT)), ())) (by kernel_rfl) (hr 0 _ _ rfl b)
     | 1 => cases a; exact hr 1 _ _ rfl b
     | j + 2 => cases a)
  · cases hr with
    | tup hs hr => exact .tup hs (fun j v w a b => by
     match j with
     | 0 => cases a; exact Ty.ofV_ok (t := talT) (x := ((c, ds, ()), ([] : List (Ty.den retT)), ())) (by kernel_rfl) (hr 0 _ _ rfl b)
     | 1 => cases a; exact hr 1 _ _ rfl b
     | j + 2 => cases a)
noncomputable def gg_o48 (c : Int) (ds : List Int) (c' : Int) (ds' : List Int) : Option Bool × V := (some (decide (ds.length ≤ 1000000)), .sb (c == c' && eqL ds ds'))
theorem gg_o48_c (c : Int) (ds : List Int) (c' : Int) (ds' : List Int) (h : (gg_o48 c ds c' ds').1.getD true = true) : ds.length ≤ 1000000 := of_decide_eq_true h
noncomputable def o48 : Orc := fun f args => if f = 48 then (Ty.ofVs [conT, conT] args).map (fun x => gg_o48 x.1.1 x.1.2.1 x.2.1.1 x.2.1.2.1) else o40 f args
theorem o48_ok : OrcOk Try.prog Γ o48 := o40_ok.plain 48 [conT, conT] (fun x => gg_o48 x.1.1 x.1.2.1 x.2.1.1 x.2.1.2.1) Try.f48 Try.func48 rfl (by kernel_rfl) (fun x h => c48_ok x.1.1 x.1.2.1 x.2.1.1 x.2.1.2.1 (gg_o48_c x.1.1 x.1.2.1 x.2.1.1 x.2.1.2.1 h))
noncomputable def gg_o49 (d n : Int) (v : List Int) (d' n' : Int) (v' : List Int) : Option Bool × V := (some (decide (v.length ≤ 1000000 ∧ v'.length ≤ 1000000)), .si .i64 (cmpD n v n' v'))
theorem gg_o49_c (d n : Int) (v : List Int) (d' n' : Int) (v' : List Int) (h : (gg_o49 d n v d' n' v').1.getD true = true) : v.length ≤ 1000000 ∧ v'.length ≤ 1000000 := of_decide_eq_true h
noncomputable def o49 : Orc := fun f args => if f = 49 then (Ty.ofVs [retT, retT] args).map (fun x => gg_o49 x.1.1 x.1.2.1 x.1.2.2.1 x.2.1.1 x.2.1.2.1 x.2.1.2.2.1) else o48 f args
theorem o49_ok : OrcOk Try.prog Γ o49 := o48_ok.plain 49 [retT, retT] (fun x => gg_o49 x.1.1 x.1.2.1 x.1.2.2.1 x.2.1.1 x.2.1.2.1 x.2.1.2.2.1) Try.f49 Try.func49 rfl (by kernel_rfl) (fun x h => c49_ok x.1.1 x.1.2.1 x.1.2.2.1 x.2.1.1 x.2.1.2.1 x.2.1.2.2.1 (gg_o49_c x.1.1 x.1.2.1 x.1.2.2.1 x.2.1.1 x.2.1.2.1 x.2.1.2.2.1 h))
noncomputable def gg_o12 (c : Int) (ds : List Int) : Option Bool × V := (some (decide (ds.length ≤ 1000000)), .tup [.agg [.si .i64 (bif validC c ds then c else 0), .slst .ro ity (bif validC c ds then ds else []), .slst .ro retT []], .si .i64 (bif validC c ds then 0 else 270)])
theorem gg_o12_c (c : Int) (ds : List Int) (h : (gg_o12 c ds).1.getD true = true) : ds.length ≤ 1000000 := of_decide_eq_true h
noncomputable def o12 : Orc := fun f args => if f = 12 then (Ty.ofVs [conT] args).map (fun x => gg_o12 x.1.1 x.1.2.1) else o49 f args
theorem o12_ok : OrcOk Try.prog Γ o12 := o49_ok.plain 12 [conT] (fun x => gg_o12 x.1.1 x.1.2.1) Try.f12 Try.func12 rfl (by kernel_rfl) (fun x h => c12_ok x.1.1 x.1.2.1 (gg_o12_c x.1.1 x.1.2.1 h))
noncomputable def cfg13 : Cfg := cfgQ o12 lo10
theorem cfg13_ok : CfgOk Try.prog Γ cfg13 := cfgQ_ok o12_ok lo10_ok
noncomputable def jA : Code := cA (root 26)
noncomputable def jB : Code := cA (cB (root 26))
noncomputable def jC : Code := cA (cB (cB (root 26)))
noncomputable def jD : Code := cA (cA (cB (cB (cB (root 26)))))
noncomputable def jE : Code := cA (cB (cB (cB (cB (root 26)))))
noncomputable def jF : Code := cA (cA (cB (cB (cB (cB (cB (root 26)))))))
noncomputable def jG : Code := cB (cB (cB (cB (cB (cB (root 26))))))
theorem root26 : root 26 = .seq jA (.seq jB (.seq jC (.seq (.seq jD (.block 0 (.loop (lp 26 0)))) (.seq jE (.seq (.seq jF (.block 4 (.loop (lp 26 2)))) jG))))) := by kernel_rfl
theorem jA_eq (c : Int) (ds : List Int) (rs : List (Ty.den retT)) (c' : Int) (ds' : List Int) (rs' : List (Ty.den retT)) : (pc 26 0 cfg13 jA [2, 3, 4] [] (St.start 88 [vT c ds rs, vT c' ds' rs'] [] [])).run = (some ((Ex.normal, [V.ptr (0 : Nat) (0 : Nat), V.ptr (1 : Nat) (0 : Nat), V.ptr (2 : Nat) (0 : Nat)], [some [V.si IntKind.i64 c, V.slst Tag.ro ity ds, V.slst Tag.ro retT rs], some [V.si IntKind.i64 c', V.slst Tag.ro ity ds', V.slst Tag.ro retT rs'], some [V.i IntKind.i64 (0 : Int), V.lst Tag.full [], V.lst Tag.full []]], [], (88 : Nat), (0 : Nat), (0 : Nat)))) := by kernel_rfl
noncomputable def tO (c : Int) (ds : List Int) (rs : List (Ty.den retT)) : Option (List V) := some [.si .i64 c, .slst .ro ity ds, .slst .ro retT rs]
noncomputable def zO : Option (List V) := some [z0, .lst .full [], .lst .full []]
theorem jB_eq (c : Int) (ds : List Int) (rs : List (Ty.den retT)) (c' : Int) (ds' : List Int) (rs' : List (Ty.den retT)) : (pc 26 0 cfg13 jB [2, 3, 4] [4, 5] (St.of 88 [2, 3, 4] [.ptr 0 0, .ptr 1 0, .ptr 2 0] [tO c ds rs, tO c' ds' rs', zO] [])).run = (bif (some (decide (szR rs) && (!validT c ds rs || decide (szR rs') && (!validT c' ds' rs' || decide (ds.length ≤ 1000000))))).getD true then (bif bif !validT c ds rs then true else bif !validT c' ds' rs' then true else !(c == c' && eqL ds ds') then (some ((Ex.ret, [V.ptr (0 : Nat) (0 : Nat), V.i IntKind.i64 (270 : Int)], [some [V.i IntKind.i64 (0 : Int), V.lst Tag.full [], V.lst Tag.full []]], [], (88 : Nat), (0 : Nat), (0 : Nat)))) else (some ((Ex.normal, [V.ptr (0 : Nat) (0 : Nat), V.ptr (1 : Nat) (0 : Nat), V.ptr (2 : Nat) (0 : Nat)], [some [V.si IntKind.i64 c, V.slst Tag.ro ity ds, V.slst Tag.ro retT rs], some [V.si IntKind.i64 c', V.slst Tag.ro ity ds', V.slst Tag.ro retT rs'], some [V.i IntKind.i64 (0 : Int), V.lst Tag.full [], V.lst Tag.full []]], [], (88 : Nat), (0 : Nat), (0 : Nat))))) else none) := by kernel_rfl
theorem jC_eq (c : Int) (ds : List Int) (rs : List (Ty.den retT)) (c' : Int) (ds' : List Int) (rs' : List (Ty.den retT)) : (pc 26 0 cfg13 jC [2, 3, 4, 6] [4, 5] (St.of 88 [2, 3, 4] [.ptr 0 0, .ptr 1 0, .ptr 2 0] [tO c ds rs, tO c' ds' rs', zO] [])).run = (some ((Ex.normal, [V.ptr (0 : Nat) (0 : Nat), V.ptr (1 : Nat) (0 : Nat), V.ptr (2 : Nat) (0 : Nat), V.ptr (3 : Nat) (0 : Nat)], [some [V.si IntKind.i64 c, V.slst Tag.ro ity ds, V.slst Tag.ro retT rs], some [V.si IntKind.i64 c', V.slst Tag.ro ity ds', V.slst Tag.ro retT rs'], some [V.i IntKind.i64 (0 : Int), V.lst Tag.full [], V.lst Tag.full []], some [V.i IntKind.i64 (0 : Int), V.i IntKind.i64 (0 : Int), V.lst Tag.full [], V.i IntKind.i64 (0 : Int), V.i IntKind.i64 (0 : Int), V.lst Tag.full [], V.i IntKind.i64 (0 : Int), V.i IntKind.i64 (0 : Int), V.lst Tag.full [], V.i IntKind.i64 (0 : Int), V.i IntKind.i64 (0 : Int), V.lst Tag.full [], V.i IntKind.i64 (0 : Int), V.i IntKind.i64 (0 : Int), V.lst Tag.full [], V.i IntKind.i64 (0 : Int), V.i IntKind.i64 (0 : Int), V.lst Tag.full [], V.i IntKind.i64 (0 : Int), V.i IntKind.i64 (0 : Int), V.lst Tag.full [], V.i IntKind.i64 (0 : Int), V.i IntKind.i64 (0 : Int), V.lst Tag.full [], V.i IntKind.i64 (0 : Int), V.i IntKind.i64 (0 : Int), V.lst Tag.full [], V.i IntKind.i64 (0 : Int), V.i IntKind.i64 (0 : Int), V.lst Tag.full [], V.i IntKind.i64 (0 : Int), V.i IntKind.i64 (0 : Int), V.lst Tag.full [], V.i IntKind.i64 (0 : Int), V.i IntKind.i64 (0 : Int), V.lst Tag.full []]], [], (88 : Nat), (0 : Nat), (0 : Nat)))) := by kernel_rfl
end T
end Go.Proofs.Ytofbchcclkejgaa

/- Package tally: Join: the loops' pieces. -/
set_option linter.unusedVariables false
set_option linter.unusedSimpArgs false
set_option maxRecDepth 100000
set_option maxHeartbeats 4000000
namespace Go.Proofs.Ytofbchcclkejgaa
open Go
namespace T
def memJ (f : FuncId) : Bool := ([12, 53, 54, 55, 56, 59, 67, 72, 73, 74, 78, 79] : List Nat).any (Nat.beq f)
noncomputable def cfgJ : Cfg := ⟨o49, fun _ => false, omN, lo10, lvF, memJ, 80, fun _ _ => none⟩
theorem cfgJ_ok : CfgOk Try.prog Γ cfgJ where
 orc := o49_ok
 om := omN_ok
 fit := omN_fit
 lo := lo10_ok
 mixed := by kernel_rfl
abbrev Nw := Nat → Ty.den retT
def cellsM (m : Nw) : Nat → Nat → List V
 | 0, _ => []
 | n + 1, j => .si .i64 (rD (m j)) :: .si .i64 (rN (m j)) :: .slst .ro ity (rV (m j)) :: cellsM m n (j + 1)
def setM (m : Nw) (k : Nat) (y : Ty.den retT) : Nw := fun j => bif Nat.beq j k then y else m j
noncomputable def obJ (c : Int) (ds : List Int) (rs : List (Ty.den retT)) (m : Nw) : Ob := [tO c ds rs, zO, some (cellsM m 12 0)]
noncomputable def aJ (rs rs' : List (Ty.den retT)) : V := .agg [.slst .ro retT rs, .slst .ro retT rs']
noncomputable def ro : Code := lp 26 0
noncomputable def roA : Code := cA ro
noncomputable def roB : Code := cA (cB ro)
noncomputable def roI : Code := cK (cA (cB (cB ro)))
noncomputable def roC : Code := cA roI
noncomputable def roD : Code := cA (cB roI)
noncomputable def roK : Code := cB (cB (cB ro))
theorem bd26 : Try.f26.body = some (root 26) := by kernel_rfl
theorem ro_eq : ro = .seq roA (.seq roB (.seq (.block 1 (.seq roC (.seq roD (.block 2 (.loop (lp 26 1)))))) roK)) := by kernel_rfl
noncomputable def ri : Code := lp 26 1
noncomputable def riA : Code := cA ri
noncomputable def riB : Code := cA (cB ri)
noncomputable def riI : Code := cK (cA (cB (cB ri)))
noncomputable def riC : Code := cA riI
noncomputable def riD : Code := cB riI
noncomputable def riK : Code := cB (cB (cB ri))
theorem ri_eq : ri = .seq riA (.seq riB (.seq (.block 3 (.seq riC riD)) riK)) := by kernel_rfl
noncomputable def jI (lv : List Nat) (vs : List V) (c : Int) (ds : List Int) (rs rs' : List (Ty.den retT)) (k : Int) (l : List (Ty.den retT)) (m : Nw) : St := St.of 88 ([2, 4, 6, 37, 38, 41, 42, 43] ++ lv) ([.ptr 0 0, .ptr 1 0, .ptr 2 0, aJ rs rs', .i .i64 k, .slst .ro retT l, .si .i64 l.length] ++ vs) (obJ c ds rs m) []
theorem iA_eq (c : Int) (ds : List Int) (rs rs' : List (Ty.den retT)) (k : Int) (l : List (Ty.den retT)) (m : Nw) (i : Int) : (pc 26 2 cfgJ riA [2, 4, 6, 37, 38, 41, 42, 43, 44] [] (jI [] [.si .i64 i] c ds rs rs' k l m)).run = some (.normal, [.ptr 0 0, .ptr 1 0, .ptr 2 0, aJ rs rs', .i .i64 k, .slst .ro retT l, .si .i64 (l.length : Int), .si .i64 i, .sb (decide (i < (l.length : Int)))], obJ c ds rs m, [], 88, 0, 0) := by kernel_rfl
theorem iB1_eq (c : Int) (ds : List Int) (rs rs' : List (Ty.den retT)) (k : Int) (l : List (Ty.den retT)) (m : Nw) (i : Int) (b : Bool) : (pc 26 2 cfgJ riB [2, 4, 6, 37, 38, 41, 42, 43] [2, 4, 6, 37, 38] (jI [44] [.si .i64 i, .sb b] c ds rs rs' k l m)).run = bif b then some (.normal, [.ptr 0 0, .ptr 1 0, .ptr 2 0, aJ rs rs', .i .i64 k, .slst .ro retT l, .si .i64 (l.length : Int), .si .i64 i], obJ c ds rs m, [], 88, 0, 0) else some (.exit 2, [.ptr 0 0, .ptr 1 0, .ptr 2 0, aJ rs rs', .i .i64 k], obJ c ds rs m, [], 88, 0, 0) := by kernel_rfl
noncomputable def jX (c : Int) (ds : List Int) (rs rs' : List (Ty.den retT)) (k : Int) (l : List (Ty.den retT)) (m : Nw) (i : Int) (x : V) (n : Int) (v : List Int) : St := St.of 88 [2, 4, 6, 10, 37, 38, 41, 42, 43] [.ptr 0 0, .ptr 1 0, .ptr 2 0, .ptr 3 0, aJ rs rs', .i .i64 k, .slst .ro retT l, .si .i64 l.length, .si .i64 i] [tO c ds rs, zO, some (cellsM m 12 0), some [x, .si .i64 n, .slst .ro ity v]] []
theorem iC_eq (c : Int) (ds : List Int) (rs rs' : List (Ty.den retT)) (k : Int) (l : List (Ty.den retT)) (m : Nw) (i : Int) : (pc 26 2 cfgJ riC [2, 4, 6, 10, 37, 38, 41, 42, 43] [] (jI [] [.si .i64 i] c ds rs rs' k l m)).run = bif decide (0 ≤ i ∧ i < (l.length : Int)) then some (.normal, [.ptr 0 0, .ptr 1 0, .ptr 2 0, .ptr 3 0, aJ rs rs', .i .i64 k, .slst .ro retT l, .si .i64 (l.length : Int), .si .i64 i], [tO c ds rs, zO, some (cellsM m 12 0), some [.si .i64 (rD (l.getD i.toNat retT.dflt)), .si .i64 (rN (l.getD i.toNat retT.dflt)), .slst .ro ity (rV (l.getD i.toNat retT.dflt))]], [], 88, 0, 0) else none := by kernel_rfl
theorem iK_eq (c : Int) (ds : List Int) (rs rs' : List (Ty.den retT)) (k : Int) (l : List (Ty.den retT)) (m : Nw) (i : Int) : (pc 26 2 cfgJ riK [2, 4, 6, 37, 38, 41, 42, 43] [] (jI [] [.si .i64 i] c ds rs rs' k l m)).run = some (.normal, [.ptr 0 0, .ptr 1 0, .ptr 2 0, aJ rs rs', .i .i64 k, .slst .ro retT l, .si .i64 (l.length : Int), .si .i64 (IntKind.i64.wrap (i + 1))], obJ c ds rs m, [], 88, 0, 0) := by kernel_rfl
def cellsK (m : Nw) (K : Nat) (d n : Int) (v : List Int) : Nat → Nat → List V
 | 0, _ => []
 | q + 1, j => bif Nat.beq j K then .i .i64 d :: .si .i64 n :: .slst .ro ity v :: cellsK m K d n v q (j + 1) else .si .i64 (rD (m j)) :: .si .i64 (rN (m j)) :: .slst .ro ity (rV (m j)) :: cellsK m K d n v q (j + 1)
def cellsP : Nat → List SP
 | 0 => []
 | q + 1 => .ty ity :: .ty ity :: .ty (.slice ity) :: cellsP q
theorem ob_imp {n : Nat} {lv : List Nat} {vs : List V} {ob ob' : Ob} {nm : Nm} {kh kt : Nat} (ps : List OP) (h : (OP.rds ps ob).map (OP.vals ps) = some ob') : St.imp Γ (St.of n lv vs ob nm kh kt) (St.of n lv vs ob' nm kh kt) := by
 rw [Option.map_eq_some_iff] at h
 obtain ⟨x, hx, rfl⟩ := h
 obtain ⟨o1, o2, o3⟩ := OP.rds_ok hx
 exact fun G a w hr => ⟨hr.tm, hr.wr.weakOb o1 o2 o3, hr.df, hr.kh, hr.kt⟩
section
variable {c : Int} {ds : List Int} {rs rs' l : List (Ty.den retT)} {k i : Int} {m : Nw} {n : Int} {v : List Int}
theorem iD0_eq : (pc 26 2 cfgJ riD [2, 4, 6, 37, 38, 41, 42, 43] [] (jX c ds rs rs' k l m i (.i .i64 0) n v)).run = bif decide (v.length ≤ 1000000 ∧ (rV (m 0)).length ≤ 1000000) then (bif decide (cmpD n v (rN (m 0)) (rV (m 0)) > 0) then (bif decide (v.length ≤ 1000000) then some (.normal, [.ptr 0 0, .ptr 1 0, .ptr 2 0, aJ rs rs', .i .i64 k, .slst .ro retT l, .si .i64 (l.length : Int), .si .i64 i], [tO c ds rs, zO, some (cellsK m 0 0 n v 12 0)], [], 88, 0, 0) else none) else some (.normal, [.ptr 0 0, .ptr 1 0, .ptr 2 0, aJ rs rs', .i .i64 k, .slst .ro retT l, .si .i64 (l.length : Int), .si .i64 i], obJ c ds rs m, [], 88, 0, 0)) else none := by kernel_rfl
theorem iD0_a (h1 : v.length ≤ 1000000 ∧ (rV (m 0)).length ≤ 1000000) (h2 : cmpD n v (rN (m 0)) (rV (m 0)) > 0) : SemC Try.prog Γ riD (jX c ds rs rs' k l m i (.i .i64 0) n v) .normal (jI [] [.si .i64 i] c ds rs rs' k l (setM m 0 ((0 : Int), n, v, ()))) :=
 (pc_ok cfgJ_ok Try.func26 bd26 (lies0 (by kernel_rfl)) (iD0_eq.trans (by rw [decide_eq_true h1, decide_eq_true h2, decide_eq_true h1.1]; rfl))).post (ob_imp [.keep, .keep, .cells (cellsP 12)] (by kernel_rfl))
theorem iD0_b (h1 : v.length ≤ 1000000 ∧ (rV (m 0)).length ≤ 1000000) (h2 : ¬ cmpD n v (rN (m 0)) (rV (m 0)) > 0) : SemC Try.prog Γ riD (jX c ds rs rs' k l m i (.i .i64 0) n v) .normal (jI [] [.si .i64 i] c ds rs rs' k l m) :=
 pc_ok cfgJ_ok Try.func26 bd26 (lies0 (by kernel_rfl)) (iD0_eq.trans (by rw [decide_eq_true h1, decide_eq_false h2]; rfl))
theorem iD1_eq : (pc 26 2 cfgJ riD [2, 4, 6, 37, 38, 41, 42, 43] [] (jX c ds rs rs' k l m i (.i .i64 1) n v)).run = bif decide (v.length ≤ 1000000 ∧ (rV (m 1)).length ≤ 1000000) then (bif decide (cmpD n v (rN (m 1)) (rV (m 1)) > 0) then (bif decide (v.length ≤ 1000000) then some (.normal, [.ptr 0 0, .ptr 1 0, .ptr 2 0, aJ rs rs', .i .i64 k, .slst .ro retT l, .si .i64 (l.length : Int), .si .i64 i], [tO c ds rs, zO, some (cellsK m 1 1 n v 12 0)], [], 88, 0, 0) else none) else some (.normal, [.ptr 0 0, .ptr 1 0, .ptr 2 0, aJ rs rs', .i .i64 k, .slst .ro retT l, .si .i64 (l.length : Int), .si .i64 i], obJ c ds rs m, [], 88, 0, 0)) else none := by kernel_rfl
theorem iD1_a (h1 : v.length ≤ 1000000 ∧ (rV (m 1)).length ≤ 1000000) (h2 : cmpD n v (rN (m 1)) (rV (m 1)) > 0) : SemC Try.prog Γ riD (jX c ds rs rs' k l m i (.i .i64 1) n v) .normal (jI [] [.si .i64 i] c ds rs rs' k l (setM m 1 ((1 : Int), n, v, ()))) :=
 (pc_ok cfgJ_ok Try.func26 bd26 (lies0 (by kernel_rfl)) (iD1_eq.trans (by rw [decide_eq_true h1, decide_eq_true h2, decide_eq_true h1.1]; rfl))).post (ob_imp [.keep, .keep, .cells (cellsP 12)] (by kernel_rfl))
theorem iD1_b (h1 : v.length ≤ 1000000 ∧ (rV (m 1)).length ≤ 1000000) (h2 : ¬ cmpD n v (rN (m 1)) (rV (m 1)) > 0) : SemC Try.prog Γ riD (jX c ds rs rs' k l m i (.i .i64 1) n v) .normal (jI [] [.si .i64 i] c ds rs rs' k l m) :=
 pc_ok cfgJ_ok Try.func26 bd26 (lies0 (by kernel_rfl)) (iD1_eq.trans (by rw [decide_eq_true h1, decide_eq_false h2]; rfl))
theorem iD2_eq : (pc 26 2 cfgJ riD [2, 4, 6, 37, 38, 41, 42, 43] [] (jX c ds rs rs' k l m i (.i .i64 2) n v)).run = bif decide (v.length ≤ 1000000 ∧ (rV (m 2)).length ≤ 1000000) then (bif decide (cmpD n v (rN (m 2)) (rV (m 2)) > 0) then (bif decide (v.length ≤ 1000000) then some (.normal, [.ptr 0 0, .ptr 1 0, .ptr 2 0, aJ rs rs', .i .i64 k, .slst .ro retT l, .si .i64 (l.length : Int), .si .i64 i], [tO c ds rs, zO, some (cellsK m 2 2 n v 12 0)], [], 88, 0, 0) else none) else some (.normal, [.ptr 0 0, .ptr 1 0, .ptr 2 0, aJ rs rs', .i .i64 k, .slst .ro retT l, .si .i64 (l.length : Int), .si .i64 i], obJ c ds rs m, [], 88, 0, 0)) else none := by kernel_rfl
theorem iD2_a (h1 : v.length ≤ 1000000 ∧ (rV (m 2)).length ≤ 1000000) (h2 : cmpD n v (rN (m 2)) (rV (m 2)) > 0) : SemC Try.prog Γ riD (jX c ds rs rs' k l m i (.i .i64 2) n v) .normal (jI [] [.si .i64 i] c ds rs rs' k l (setM m 2 ((2 : Int), n, v, ()))) :=
 (pc_ok cfgJ_ok Try.func26 bd26 (lies0 (by kernel_rfl)) (iD2_eq.trans (by rw [decide_eq_true h1, decide_eq_true h2, decide_eq_true h1.1]; rfl))).post (ob_imp [.keep, .keep, .cells (cellsP 12)] (by kernel_rfl))
theorem iD2_b (h1 : v.length ≤ 1000000 ∧ (rV (m 2)).length ≤ 1000000) (h2 : ¬ cmpD n v (rN (m 2)) (rV (m 2)) > 0) : SemC Try.prog Γ riD (jX c ds rs rs' k l m i (.i .i64 2) n v) .normal (jI [] [.si .i64 i] c ds rs rs' k l m) :=
 pc_ok cfgJ_ok Try.func26 bd26 (lies0 (by kernel_rfl)) (iD2_eq.trans (by rw [decide_eq_true h1, decide_eq_false h2]; rfl))
theorem iD3_eq : (pc 26 2 cfgJ riD [2, 4, 6, 37, 38, 41, 42, 43] [] (jX c ds rs rs' k l m i (.i .i64 3) n v)).run = bif decide (v.length ≤ 1000000 ∧ (rV (m 3)).length ≤ 1000000) then (bif decide (cmpD n v (rN (m 3)) (rV (m 3)) > 0) then (bif decide (v.length ≤ 1000000) then some (.normal, [.ptr 0 0, .ptr 1 0, .ptr 2 0, aJ rs rs', .i .i64 k, .slst .ro retT l, .si .i64 (l.length : Int), .si .i64 i], [tO c ds rs, zO, some (cellsK m 3 3 n v 12 0)], [], 88, 0, 0) else none) else some (.normal, [.ptr 0 0, .ptr 1 0, .ptr 2 0, aJ rs rs', .i .i64 k, .slst .ro retT l, .si .i64 (l.length : Int), .si .i64 i], obJ c ds rs m, [], 88, 0, 0)) else none := by kernel_rfl
theorem iD3_a (h1 : v.length ≤ 1000000 ∧ (rV (m 3)).length ≤ 1000000) (h2 : cmpD n v (rN (m 3)) (rV (m 3)) > 0) : SemC Try.prog Γ riD (jX c ds rs rs' k l m i (.i .i64 3) n v) .normal (jI [] [.si .i64 i] c ds rs rs' k l (setM m 3 ((3 : Int), n, v, ()))) :=
 (pc_ok cfgJ_ok Try.func26 bd26 (lies0 (by kernel_rfl)) (iD3_eq.trans (by rw [decide_eq_true h1, decide_eq_true h2, decide_eq_true h1.1]; rfl))).post (ob_imp [.keep, .keep, .cells (cellsP 12)] (by kernel_rfl))
theorem iD3_b (h1 : v.length ≤ 1000000 ∧ (rV (m 3)).length ≤ 1000000) (h2 : ¬ cmpD n v (rN (m 3)) (rV (m 3)) > 0) : SemC Try.prog Γ riD (jX c ds rs rs' k l m i (.i .i64 3) n v) .normal (jI [] [.si .i64 i] c ds rs rs' k l m) :=
 pc_ok cfgJ_ok Try.func26 bd26 (lies0 (by kernel_rfl)) (iD3_eq.trans (by rw [decide_eq_true h1, decide_eq_false h2]; rfl))
theorem iD4_eq : (pc 26 2 cfgJ riD [2, 4, 6, 37, 38, 41, 42, 43] [] (jX c ds rs rs' k l m i (.i .i64 4) n v)).run = bif decide (v.length ≤ 1000000 ∧ (rV (m 4)).length ≤ 1000000) then (bif decide (cmpD n v (rN (m 4)) (rV (m 4)) > 0) then (bif decide (v.length ≤ 1000000) then some (.normal, [.ptr 0 0, .ptr 1 0, .ptr 2 0, aJ rs rs', .i .i64 k, .slst .ro retT l, .si .i64 (l.length : Int), .si .i64 i], [tO c ds rs, zO, some (cellsK m 4 4 n v 12 0)], [], 88, 0, 0) else none) else some (.normal, [.ptr 0 0, .ptr 1 0, .ptr 2 0, aJ rs rs', .i .i64 k, .slst .ro retT l, .si .i64 (l.length : Int), .si .i64 i], obJ c ds rs m, [], 88, 0, 0)) else none := by kernel_rfl
theorem iD4_a (h1 : v.length ≤ 1000000 ∧ (rV (m 4)).length ≤ 1000000) (h2 : cmpD n v (rN (m 4)) (rV (m 4)) > 0) : SemC Try.prog Γ riD (jX c ds rs rs' k l m i (.i .i64 4) n v) .normal (jI [] [.si .i64 i] c ds rs rs' k l (setM m 4 ((4 : Int), n, v, ()))) :=
 (pc_ok cfgJ_ok Try.func26 bd26 (lies0 (by kernel_rfl)) (iD4_eq.trans (by rw [decide_eq_true h1, decide_eq_true h2, decide_eq_true h1.1]; rfl))).post (ob_imp [.keep, .keep, .cells (cellsP 12)] (by kernel_rfl))
theorem iD4_b (h1 : v.length ≤ 1000000 ∧ (rV (m 4)).length ≤ 1000000) (h2 : ¬ cmpD n v (rN (m 4)) (rV (m 4)) > 0) : SemC Try.prog Γ riD (jX c ds rs rs' k l m i (.i .i64 4) n v) .normal (jI [] [.si .i64 i] c ds rs rs' k l m) :=
 pc_ok cfgJ_ok Try.func26 bd26 (lies0 (by kernel_rfl)) (iD4_eq.trans (by rw [decide_eq_true h1, decide_eq_false h2]; rfl))
theorem iD5_eq : (pc 26 2 cfgJ riD [2, 4, 6, 37, 38, 41, 42, 43] [] (jX c ds rs rs' k l m i (.i .i64 5) n v)).run = bif decide (v.length ≤ 1000000 ∧ (rV (m 5)).length ≤ 1000000) then (bif decide (cmpD n v (rN (m 5)) (rV (m 5)) > 0) then (bif decide (v.length ≤ 1000000) then some (.normal, [.ptr 0 0, .ptr 1 0, .ptr 2 0, aJ rs rs', .i .i64 k, .slst .ro retT l, .si .i64 (l.length : Int), .si .i64 i], [tO c ds rs, zO, some (cellsK m 5 5 n v 12 0)], [], 88, 0, 0) else none) else some (.normal, [.ptr 0 0, .ptr 1 0, .ptr 2 0, aJ rs rs', .i .i64 k, .slst .ro retT l, .si .i64 (l.length : Int), .si .i64 i], obJ c ds rs m, [], 88, 0, 0)) else none := by kernel_rfl
theorem iD5_a (h1 : v.length ≤ 1000000 ∧ (rV (m 5)).length ≤ 1000000) (h2 : cmpD n v (rN (m 5)) (rV (m 5)) > 0) : SemC Try.prog Γ riD (jX c ds rs rs' k l m i (.i .i64 5) n v) .normal (jI [] [.si .i64 i] c ds rs rs' k l (setM m 5 ((5 : Int), n, v, ()))) :=
 (pc_ok cfgJ_ok Try.func26 bd26 (lies0 (by kernel_rfl)) (iD5_eq.trans (by rw [decide_eq_true h1, decide_eq_true h2, decide_eq_true h1.1]; rfl))).post (ob_imp [.keep, .keep, .cells (cellsP 12)] (by kernel_rfl))
theorem iD5_b (h1 : v.length ≤ 1000000 ∧ (rV (m 5)).length ≤ 1000000) (h2 : ¬ cmpD n v (rN (m 5)) (rV (m 5)) > 0) : SemC Try.prog Γ riD (jX c ds rs rs' k l m i (.i .i64 5) n v) .normal (jI [] [.si .i64 i] c ds rs rs' k l m) :=
 pc_ok cfgJ_ok Try.func26 bd26 (lies0 (by kernel_rfl)) (iD5_eq.trans (by rw [decide_eq_true h1, decide_eq_false h2]; rfl))
theorem iD6_eq : (pc 26 2 cfgJ riD [2, 4, 6, 37, 38, 41, 42, 43] [] (jX c ds rs rs' k l m i (.i .i64 6) n v)).run = bif decide (v.length ≤ 1000000 ∧ (rV (m 6)).length ≤ 1000000) then (bif decide (cmpD n v (rN (m 6)) (rV (m 6)) > 0) then (bif decide (v.length ≤ 1000000) then some (.normal, [.ptr 0 0, .ptr 1 0, .ptr 2 0, aJ rs rs', .i .i64 k, .slst .ro retT l, .si .i64 (l.length : Int), .si .i64 i], [tO c ds rs, zO, some (cellsK m 6 6 n v 12 0)], [], 88, 0, 0) else none) else some (.normal, [.ptr 0 0, .ptr 1 0, .ptr 2 0, aJ rs rs', .i .i64 k, .slst .ro retT l, .si .i64 (l.length : Int), .si .i64 i], obJ c ds rs m, [], 88, 0, 0)) else none := by kernel_rfl
theorem iD6_a (h1 : v.length ≤ 1000000 ∧ (rV (m 6)).length ≤ 1000000) (h2 : cmpD n v (rN (m 6)) (rV (m 6)) > 0) : SemC Try.prog Γ riD (jX c ds rs rs' k l m i (.i .i64 6) n v) .normal (jI [] [.si .i64 i] c ds rs rs' k l (setM m 6 ((6 : Int), n, v, ()))) :=
 (pc_ok cfgJ_ok Try.func26 bd26 (lies0 (by kernel_rfl)) (iD6_eq.trans (by rw [decide_eq_true h1, decide_eq_true h2, decide_eq_true h1.1]; rfl))).post (ob_imp [.keep, .keep, .cells (cellsP 12)] (by kernel_rfl))
theorem iD6_b (h1 : v.length ≤ 1000000 ∧ (rV (m 6)).length ≤ 1000000) (h2 : ¬ cmpD n v (rN (m 6)) (rV (m 6)) > 0) : SemC Try.prog Γ riD (jX c ds rs rs' k l m i (.i .i64 6) n v) .normal (jI [] [.si .i64 i] c ds rs rs' k l m) :=
 pc_ok cfgJ_ok Try.func26 bd26 (lies0 (by kernel_rfl)) (iD6_eq.trans (by rw [decide_eq_true h1, decide_eq_false h2]; rfl))
theorem iD7_eq : (pc 26 2 cfgJ riD [2, 4, 6, 37, 38, 41, 42, 43] [] (jX c ds rs rs' k l m i (.i .i64 7) n v)).run = bif decide (v.length ≤ 1000000 ∧ (rV (m 7)).length ≤ 1000000) then (bif decide (cmpD n v (rN (m 7)) (rV (m 7)) > 0) then (bif decide (v.length ≤ 1000000) then some (.normal, [.ptr 0 0, .ptr 1 0, .ptr 2 0, aJ rs rs', .i .i64 k, .slst .ro retT l, .si .i64 (l.length : Int), .si .i64 i], [tO c ds rs, zO, some (cellsK m 7 7 n v 12 0)], [], 88, 0, 0) else none) else some (.normal, [.ptr 0 0, .ptr 1 0, .ptr 2 0, aJ rs rs', .i .i64 k, .slst .ro retT l, .si .i64 (l.length : Int), .si .i64 i], obJ c ds rs m, [], 88, 0, 0)) else none := by kernel_rfl
theorem iD7_a (h1 : v.length ≤ 1000000 ∧ (rV (m 7)).length ≤ 1000000) (h2 : cmpD n v (rN (m 7)) (rV (m 7)) > 0) : SemC Try.prog Γ riD (jX c ds rs rs' k l m i (.i .i64 7) n v) .normal (jI [] [.si .i64 i] c ds rs rs' k l (setM m 7 ((7 : Int), n, v, ()))) :=
 (pc_ok cfgJ_ok Try.func26 bd26 (lies0 (by kernel_rfl)) (iD7_eq.trans (by rw [decide_eq_true h1, decide_eq_true h2, decide_eq_true h1.1]; rfl))).post (ob_imp [.keep, .keep, .cells (cellsP 12)] (by kernel_rfl))
theorem iD7_b (h1 : v.length ≤ 1000000 ∧ (rV (m 7)).length ≤ 1000000) (h2 : ¬ cmpD n v (rN (m 7)) (rV (m 7)) > 0) : SemC Try.prog Γ riD (jX c ds rs rs' k l m i (.i .i64 7) n v) .normal (jI [] [.si .i64 i] c ds rs rs' k l m) :=
 pc_ok cfgJ_ok Try.func26 bd26 (lies0 (by kernel_rfl)) (iD7_eq.trans (by rw [decide_eq_true h1, decide_eq_false h2]; rfl))
theorem iD8_eq : (pc 26 2 cfgJ riD [2, 4, 6, 37, 38, 41, 42, 43] [] (jX c ds rs rs' k l m i (.i .i64 8) n v)).run = bif decide (v.length ≤ 1000000 ∧ (rV (m 8)).length ≤ 1000000) then (bif decide (cmpD n v (rN (m 8)) (rV (m 8)) > 0) then (bif decide (v.length ≤ 1000000) then some (.normal, [.ptr 0 0, .ptr 1 0, .ptr 2 0, aJ rs rs', .i .i64 k, .slst .ro retT l, .si .i64 (l.length : Int), .si .i64 i], [tO c ds rs, zO, some (cellsK m 8 8 n v 12 0)], [], 88, 0, 0) else none) else some (.normal, [.ptr 0 0, .ptr 1 0, .ptr 2 0, aJ rs rs', .i .i64 k, .slst .ro retT l, .si .i64 (l.length : Int), .si .i64 i], obJ c ds rs m, [], 88, 0, 0)) else none := by kernel_rfl
theorem iD8_a (h1 : v.length ≤ 1000000 ∧ (rV (m 8)).length ≤ 1000000) (h2 : cmpD n v (rN (m 8)) (rV (m 8)) > 0) : SemC Try.prog Γ riD (jX c ds rs rs' k l m i (.i .i64 8) n v) .normal (jI [] [.si .i64 i] c ds rs rs' k l (setM m 8 ((8 : Int), n, v, ()))) :=
 (pc_ok cfgJ_ok Try.func26 bd26 (lies0 (by kernel_rfl)) (iD8_eq.trans (by rw [decide_eq_true h1, decide_eq_true h2, decide_eq_true h1.1]; rfl))).post (ob_imp [.keep, .keep, .cells (cellsP 12)] (by kernel_rfl))
theorem iD8_b (h1 : v.length ≤ 1000000 ∧ (rV (m 8)).length ≤ 1000000) (h2 : ¬ cmpD n v (rN (m 8)) (rV (m 8)) > 0) : SemC Try.prog Γ riD (jX c ds rs rs' k l m i (.i .i64 8) n v) .normal (jI [] [.si .i64 i] c ds rs rs' k l m) :=
 pc_ok cfgJ_ok Try.func26 bd26 (lies0 (by kernel_rfl)) (iD8_eq.trans (by rw [decide_eq_true h1, decide_eq_false h2]; rfl))
theorem iD9_eq : (pc 26 2 cfgJ riD [2, 4, 6, 37, 38, 41, 42, 43] [] (jX c ds rs rs' k l m i (.i .i64 9) n v)).run = bif decide (v.length ≤ 1000000 ∧ (rV (m 9)).length ≤ 1000000) then (bif decide (cmpD n v (rN (m 9)) (rV (m 9)) > 0) then (bif decide (v.length ≤ 1000000) then some (.normal, [.ptr 0 0, .ptr 1 0, .ptr 2 0, aJ rs rs', .i .i64 k, .slst .ro retT l, .si .i64 (l.length : Int), .si .i64 i], [tO c ds rs, zO, some (cellsK m 9 9 n v 12 0)], [], 88, 0, 0) else none) else some (.normal, [.ptr 0 0, .ptr 1 0, .ptr 2 0, aJ rs rs', .i .i64 k, .slst .ro retT l, .si .i64 (l.length : Int), .si .i64 i], obJ c ds rs m, [], 88, 0, 0)) else none := by kernel_rfl
theorem iD9_a (h1 : v.length ≤ 1000000 ∧ (rV (m 9)).length ≤ 1000000) (h2 : cmpD n v (rN (m 9)) (rV (m 9)) > 0) : SemC Try.prog Γ riD (jX c ds rs rs' k l m i (.i .i64 9) n v) .normal (jI [] [.si .i64 i] c ds rs rs' k l (setM m 9 ((9 : Int), n, v, ()))) :=
 (pc_ok cfgJ_ok Try.func26 bd26 (lies0 (by kernel_rfl)) (iD9_eq.trans (by rw [decide_eq_true h1, decide_eq_true h2, decide_eq_true h1.1]; rfl))).post (ob_imp [.keep, .keep, .cells (cellsP 12)] (by kernel_rfl))
theorem iD9_b (h1 : v.length ≤ 1000000 ∧ (rV (m 9)).length ≤ 1000000) (h2 : ¬ cmpD n v (rN (m 9)) (rV (m 9)) > 0) : SemC Try.prog Γ riD (jX c ds rs rs' k l m i (.i .i64 9) n v) .normal (jI [] [.si .i64 i] c ds rs rs' k l m) :=
 pc_ok cfgJ_ok Try.func26 bd26 (lies0 (by kernel_rfl)) (iD9_eq.trans (by rw [decide_eq_true h1, decide_eq_false h2]; rfl))
theorem iD10_eq : (pc 26 2 cfgJ riD [2, 4, 6, 37, 38, 41, 42, 43] [] (jX c ds rs rs' k l m i (.i .i64 10) n v)).run = bif decide (v.length ≤ 1000000 ∧ (rV (m 10)).length ≤ 1000000) then (bif decide (cmpD n v (rN (m 10)) (rV (m 10)) > 0) then (bif decide (v.length ≤ 1000000) then some (.normal, [.ptr 0 0, .ptr 1 0, .ptr 2 0, aJ rs rs', .i .i64 k, .slst .ro retT l, .si .i64 (l.length : Int), .si .i64 i], [tO c ds rs, zO, some (cellsK m 10 10 n v 12 0)], [], 88, 0, 0) else none) else some (.normal, [.ptr 0 0, .ptr 1 0, .ptr 2 0, aJ rs rs', .i .i64 k, .slst .ro retT l, .si .i64 (l.length : Int), .si .i64 i], obJ c ds rs m, [], 88, 0, 0)) else none := by kernel_rfl
theorem iD10_a (h1 : v.length ≤ 1000000 ∧ (rV (m 10)).length ≤ 1000000) (h2 : cmpD n v (rN (m 10)) (rV (m 10)) > 0) : SemC Try.prog Γ riD (jX c ds rs rs' k l m i (.i .i64 10) n v) .normal (jI [] [.si .i64 i] c ds rs rs' k l (setM m 10 ((10 : Int), n, v, ()))) :=
 (pc_ok cfgJ_ok Try.func26 bd26 (lies0 (by kernel_rfl)) (iD10_eq.trans (by rw [decide_eq_true h1, decide_eq_true h2, decide_eq_true h1.1]; rfl))).post (ob_imp [.keep, .keep, .cells (cellsP 12)] (by kernel_rfl))
theorem iD10_b (h1 : v.length ≤ 1000000 ∧ (rV (m 10)).length ≤ 1000000) (h2 : ¬ cmpD n v (rN (m 10)) (rV (m 10)) > 0) : SemC Try.prog Γ riD (jX c ds rs rs' k l m i (.i .i64 10) n v) .normal (jI [] [.si .i64 i] c ds rs rs' k l m) :=
 pc_ok cfgJ_ok Try.func26 bd26 (lies0 (by kernel_rfl)) (iD10_eq.trans (by rw [decide_eq_true h1, decide_eq_false h2]; rfl))
theorem iD11_eq : (pc 26 2 cfgJ riD [2, 4, 6, 37, 38, 41, 42, 43] [] (jX c ds rs rs' k l m i (.i .i64 11) n v)).run = bif decide (v.length ≤ 1000000 ∧ (rV (m 11)).length ≤ 1000000) then (bif decide (cmpD n v (rN (m 11)) (rV (m 11)) > 0) then (bif decide (v.length ≤ 1000000) then some (.normal, [.ptr 0 0, .ptr 1 0, .ptr 2 0, aJ rs rs', .i .i64 k, .slst .ro retT l, .si .i64 (l.length : Int), .si .i64 i], [tO c ds rs, zO, some (cellsK m 11 11 n v 12 0)], [], 88, 0, 0) else none) else some (.normal, [.ptr 0 0, .ptr 1 0, .ptr 2 0, aJ rs rs', .i .i64 k, .slst .ro retT l, .si .i64 (l.length : Int), .si .i64 i], obJ c ds rs m, [], 88, 0, 0)) else none := by kernel_rfl
theorem iD11_a (h1 : v.length ≤ 1000000 ∧ (rV (m 11)).length ≤ 1000000) (h2 : cmpD n v (rN (m 11)) (rV (m 11)) > 0) : SemC Try.prog Γ riD (jX c ds rs rs' k l m i (.i .i64 11) n v) .normal (jI [] [.si .i64 i] c ds rs rs' k l (setM m 11 ((11 : Int), n, v, ()))) :=
 (pc_ok cfgJ_ok Try.func26 bd26 (lies0 (by kernel_rfl)) (iD11_eq.trans (by rw [decide_eq_true h1, decide_eq_true h2, decide_eq_true h1.1]; rfl))).post (ob_imp [.keep, .keep, .cells (cellsP 12)] (by kernel_rfl))
theorem iD11_b (h1 : v.length ≤ 1000000 ∧ (rV (m 11)).length ≤ 1000000) (h2 : ¬ cmpD n v (rN (m 11)) (rV (m 11)) > 0) : SemC Try.prog Γ riD (jX c ds rs rs' k l m i (.i .i64 11) n v) .normal (jI [] [.si .i64 i] c ds rs rs' k l m) :=
 pc_ok cfgJ_ok Try.func26 bd26 (lies0 (by kernel_rfl)) (iD11_eq.trans (by rw [decide_eq_true h1, decide_eq_false h2]; rfl))
end
end T
end Go.Proofs.Ytofbchcclkejgaa

/- Package tally: Join: the loop over the returns. -/
set_option linter.unusedVariables false
set_option linter.unusedSimpArgs false
set_option maxRecDepth 100000
set_option maxHeartbeats 4000000
namespace Go.Proofs.Ytofbchcclkejgaa
open Go
namespace T
theorem obX_imp {n : Nat} {lv : List Nat} {vs : List V} {ob : Ob} {nm : Nm} {kh kt o : Nat} {cs cs' : List V} (ho : ob[o]? = some (some cs)) (hl : cs'.length = cs.length) (h : ∀ (j : Nat) (x' : V), cs'[j]? = some x' → ∃ x, cs[j]? = some x ∧ ∀ (G : Gh) (cv : Value), VRel G x cv → VRel G x' cv) :
 St.imp Γ (St.of n lv vs ob nm kh kt) (St.of n lv vs (ob.set o (some cs')) nm kh kt) := fun G a w hr => by
 refine ⟨hr.tm, ?_, hr.df, hr.kh, hr.kt⟩
 have key : WRel Γ G (ob.set o (some cs')) nm w := by
  refine WRel.weakOb (ob := ob) hr.wr (by simp) (fun o' c' h' => ?_) (fun o' h' => ?_)
  · rw [List.getElem?_set] at h'
    split at h'
    · rename_i e
      subst e
      split at h'
      · cases h'
        exact ⟨cs, ho, hl, h⟩
      · cases h'
    · exact ⟨c', h', rfl, fun j x' hx => ⟨x', hx, fun _ _ h => h⟩⟩
  · rw [List.getElem?_set] at h'
    split at h'
    · split at h' <;> cases h'
    · exact h'
 exact key
def stepM (m : Nw) (x : Ty.den retT) : Nw := fun j => bif decide ((j : Int) = rD x) && decide (cmpD (rN x) (rV x) (rN (m j)) (rV (m j)) > 0) then x else m j
theorem stepM_set {m : Nw} {x : Ty.den retT} {K : Nat} (hK : rD x = K) (hc : cmpD (rN x) (rV x) (rN (m K)) (rV (m K)) > 0) : stepM m x = setM m K ((K : Int), rN x, rV x, ()) := by
 funext j
 unfold stepM setM
 by_cases h : j = K
 · subst h
   rw [decide_eq_true hK.symm, decide_eq_true hc, Nat.beq_refl]
   show x = _
   rw [← hK]
   rfl
 · have h1 : ¬ (j : Int) = rD x := by omega
   have h2 : Nat.beq j K = false := by cases hb : Nat.beq j K; rfl; exact absurd (Nat.eq_of_beq_eq_true hb) h
   rw [decide_eq_false h1, h2]
   rfl
theorem stepM_same {m : Nw} {x : Ty.den retT} {K : Nat} (hK : rD x = K) (hc : ¬ cmpD (rN x) (rV x) (rN (m K)) (rV (m K)) > 0) : stepM m x = m := by
 funext j
 unfold stepM
 by_cases h : j = K
 · subst h
   rw [decide_eq_false hc, Bool.and_false]
   rfl
 · have h1 : ¬ (j : Int) = rD x := by omega
   rw [decide_eq_false h1]
   rfl
theorem stepM_sz {m : Nw} {x : Ty.den retT} (hx : (rV x).length ≤ 1000000) (hm : ∀ j, (rV (m j)).length ≤ 1000000) (j : Nat) : (rV (stepM m x j)).length ≤ 1000000 := by
 unfold stepM
 cases decide ((j : Int) = rD x) && decide (cmpD (rN x) (rV x) (rN (m j)) (rV (m j)) > 0)
 · exact hm j
 · exact hx
section
variable {c : Int} {ds : List Int} {rs rs' l : List (Ty.den retT)} {k i : Int} {m : Nw}
theorem iD_go (x : Ty.den retT) (h0 : 0 ≤ rD x) (h12 : rD x < 12) (hs : (rV x).length ≤ 1000000) (hm : ∀ j, (rV (m j)).length ≤ 1000000) :
 SemC Try.prog Γ riD (jX c ds rs rs' k l m i (.si .i64 (rD x)) (rN x) (rV x)) .normal (jI [] [.si .i64 i] c ds rs rs' k l (stepM m x)) := by
 obtain ⟨K, hK⟩ : ∃ K : Nat, rD x = K := ⟨(rD x).toNat, by omega⟩
 have hK12 : K < 12 := by omega
 refine SemC.pre (x' := jX c ds rs rs' k l m i (.i .i64 K) (rN x) (rV x)) ?_ (obX_imp (o := 3) (cs := [.si .i64 (rD x), .si .i64 (rN x), .slst .ro ity (rV x)]) (cs' := [.i .i64 K, .si .i64 (rN x), .slst .ro ity (rV x)]) rfl rfl (fun j x' hj => by
  match j with
  | 0 => cases hj; exact ⟨_, rfl, fun G cv h => by rw [hK] at h; cases h; exact .i _ _⟩
  | j + 1 => exact ⟨x', hj, fun _ _ h => h⟩))
 by_cases hc : cmpD (rN x) (rV x) (rN (m K)) (rV (m K)) > 0
 · rw [stepM_set hK hc]
   clear hK
   match K, hK12, hc with
   | 0, _, hc => exact iD0_a ⟨hs, hm _⟩ hc
   | 1, _, hc => exact iD1_a ⟨hs, hm _⟩ hc
   | 2, _, hc => exact iD2_a ⟨hs, hm _⟩ hc
   | 3, _, hc => exact iD3_a ⟨hs, hm _⟩ hc
   | 4, _, hc => exact iD4_a ⟨hs, hm _⟩ hc
   | 5, _, hc => exact iD5_a ⟨hs, hm _⟩ hc
   | 6, _, hc => exact iD6_a ⟨hs, hm _⟩ hc
   | 7, _, hc => exact iD7_a ⟨hs, hm _⟩ hc
   | 8, _, hc => exact iD8_a ⟨hs, hm _⟩ hc
   | 9, _, hc => exact iD9_a ⟨hs, hm _⟩ hc
   | 10, _, hc => exact iD10_a ⟨hs, hm _⟩ hc
   | 11, _, hc => exact iD11_a ⟨hs, hm _⟩ hc
   | n + 12, h, _ => exact absurd h (by omega)
 · rw [stepM_same hK hc]
   clear hK
   match K, hK12, hc with
   | 0, _, hc => exact iD0_b ⟨hs, hm _⟩ hc
   | 1, _, hc => exact iD1_b ⟨hs, hm _⟩ hc
   | 2, _, hc => exact iD2_b ⟨hs, hm _⟩ hc
   | 3, _, hc => exact iD3_b ⟨hs, hm _⟩ hc
   | 4, _, hc => exact iD4_b ⟨hs, hm _⟩ hc
   | 5, _, hc => exact iD5_b ⟨hs, hm _⟩ hc
   | 6, _, hc => exact iD6_b ⟨hs, hm _⟩ hc
   | 7, _, hc => exact iD7_b ⟨hs, hm _⟩ hc
   | 8, _, hc => exact iD8_b ⟨hs, hm _⟩ hc
   | 9, _, hc => exact iD9_b ⟨hs, hm _⟩ hc
   | 10, _, hc => exact iD10_b ⟨hs, hm _⟩ hc
   | 11, _, hc => exact iD11_b ⟨hs, hm _⟩ hc
   | n + 12, h, _ => exact absurd h (by omega)
theorem ri_round {i : Nat} (hl : l.length ≤ 1000000) (hi : i < l.length) (hx : 0 ≤ rD (l.getD i retT.dflt) ∧ rD (l.getD i retT.dflt) < 12 ∧ (rV (l.getD i retT.dflt)).length ≤ 1000000) (hm : ∀ j, (rV (m j)).length ≤ 1000000) :
 SemC Try.prog Γ ri (jI [] [.si .i64 (i : Int)] c ds rs rs' k l m) .normal (jI [] [.si .i64 ((i + 1 : Nat) : Int)] c ds rs rs' k l (stepM m (l.getD i retT.dflt))) := by
 have hA := pc_ok cfgJ_ok Try.func26 bd26 (lies0 (by kernel_rfl)) (iA_eq c ds rs rs' k l m i)
 have hB := pc_ok cfgJ_ok Try.func26 bd26 (lies0 (by kernel_rfl)) ((iB1_eq c ds rs rs' k l m i (decide ((i : Int) < l.length))).trans (by rw [decide_eq_true (by omega : (i : Int) < l.length)]; rfl))
 have hC := pc_ok cfgJ_ok Try.func26 bd26 (lies0 (by kernel_rfl)) ((iC_eq c ds rs rs' k l m i).trans (by rw [decide_eq_true (by omega : (0 : Int) ≤ (i : Int) ∧ (i : Int) < l.length), Int.toNat_natCast]; rfl))
 have hD := iD_go (c := c) (ds := ds) (rs := rs) (rs' := rs') (l := l) (k := k) (i := i) (m := m) (l.getD i retT.dflt) hx.1 hx.2.1 hx.2.2 hm
 have hK := pc_ok cfgJ_ok Try.func26 bd26 (lies0 (by kernel_rfl)) ((iK_eq c ds rs rs' k l (stepM m (l.getD i retT.dflt)) i).trans (by rw [wrap_succ hi hl]))
 rw [ri_eq]
 exact hA.seq (hB.seq ((SemC.block (by simp) (hC.seq hD)).seq hK))
noncomputable def jO (q : Int) (c : Int) (ds : List Int) (rs rs' : List (Ty.den retT)) (m : Nw) : St := St.of 88 [2, 4, 6, 37, 38] [.ptr 0 0, .ptr 1 0, .ptr 2 0, aJ rs rs', .i .i64 q] (obJ c ds rs m) []
theorem ri_exit : SemC Try.prog Γ ri (jI [] [.si .i64 (l.length : Int)] c ds rs rs' k l m) (.exit 2) (jO k c ds rs rs' m) := by
 have hA := pc_ok cfgJ_ok Try.func26 bd26 (lies0 (by kernel_rfl)) (iA_eq c ds rs rs' k l m l.length)
 have hB := pc_ok cfgJ_ok Try.func26 bd26 (lies0 (by kernel_rfl)) ((iB1_eq c ds rs rs' k l m l.length (decide ((l.length : Int) < l.length))).trans (by rw [decide_eq_false (by omega)]; rfl))
 rw [ri_eq]
 exact hA.seq (SemC.seq_out (by simp [Ex.to]) hB)
end
def foldM (l : List (Ty.den retT)) (m : Nw) : Nw := l.foldl stepM m
abbrev okM (l : List (Ty.den retT)) : Prop := ∀ x ∈ l, 0 ≤ rD x ∧ rD x < 12 ∧ (rV x).length ≤ 1000000
theorem foldM_take {l : List (Ty.den retT)} {m : Nw} {i : Nat} (hi : i < l.length) : foldM (l.take (i + 1)) m = stepM (foldM (l.take i) m) (l.getD i retT.dflt) := by
 rw [take_snoc retT.dflt hi, foldM, List.foldl_append]; rfl
theorem foldM_sz : ∀ {l : List (Ty.den retT)} {m : Nw}, okM l → (∀ j, (rV (m j)).length ≤ 1000000) → ∀ j, (rV (foldM l m j)).length ≤ 1000000
 | [], m, _, hm, j => hm j
 | x :: l, m, h, hm, j => foldM_sz (l := l) (m := stepM m x) (fun y hy => h y (by simp [hy])) (stepM_sz (h x (by simp)).2.2 hm) j
theorem inner_go {c : Int} {ds : List Int} {rs rs' l : List (Ty.den retT)} {k : Int} {m : Nw} (hl : l.length ≤ 1000000) (hok : okM l) (hm : ∀ j, (rV (m j)).length ≤ 1000000) :
 SemL Try.prog Γ (lp 26 1) (jI [] [.si .i64 0] c ds rs rs' k l m) (.exit 2) (jO k c ds rs rs' (foldM l m)) := by
 have hok' : ∀ i, okM (l.take i) := fun i x hx => hok x (List.mem_of_mem_take hx)
 refine SemL.scan l.length 0 (Nat.zero_le _) (fun i => jI [] [.si .i64 (i : Nat)] c ds rs rs' k l (foldM (l.take i) m)) (fun _ => true) (.exit 2, jO k c ds rs rs' (foldM l m)) ?_ ?_ ?_
 · intro i _ hi _ _
   show SemC Try.prog Γ ri _ .normal (jI [] [.si .i64 ((i + 1 : Nat) : Int)] c ds rs rs' k l (foldM (l.take (i + 1)) m))
   rw [foldM_take hi]
   exact ri_round hl hi (hok _ (getD_mem _ hi)) (foldM_sz (hok' i) hm)
 · intro i _ _ _ hp
   cases hp
 · intro _
   refine ⟨by simp [Ex.to], ?_⟩
   show SemC Try.prog Γ ri (jI [] [.si .i64 (l.length : Int)] c ds rs rs' k l (foldM (l.take l.length) m)) (.exit 2) _
   rw [List.take_length]
   exact ri_exit
theorem roA0_eq (c : Int) (ds : List Int) (rs rs' : List (Ty.den retT)) (m : Nw) : (pc 26 1 cfgJ roA [2, 4, 6, 37, 38, 39] [] (jO 0 c ds rs rs' m)).run = some (.normal, [.ptr 0 0, .ptr 1 0, .ptr 2 0, aJ rs rs', .i .i64 0, .b true], obJ c ds rs m, [], 88, 0, 0) := by kernel_rfl
theorem roA1_eq (c : Int) (ds : List Int) (rs rs' : List (Ty.den retT)) (m : Nw) : (pc 26 1 cfgJ roA [2, 4, 6, 37, 38, 39] [] (jO 1 c ds rs rs' m)).run = some (.normal, [.ptr 0 0, .ptr 1 0, .ptr 2 0, aJ rs rs', .i .i64 1, .b true], obJ c ds rs m, [], 88, 0, 0) := by kernel_rfl
theorem roA2_eq (c : Int) (ds : List Int) (rs rs' : List (Ty.den retT)) (m : Nw) : (pc 26 1 cfgJ roA [2, 4, 6, 37, 38, 39] [] (jO 2 c ds rs rs' m)).run = some (.normal, [.ptr 0 0, .ptr 1 0, .ptr 2 0, aJ rs rs', .i .i64 2, .b false], obJ c ds rs m, [], 88, 0, 0) := by kernel_rfl
noncomputable def jOb (q : Int) (b : Bool) (c : Int) (ds : List Int) (rs rs' : List (Ty.den retT)) (m : Nw) : St := St.of 88 [2, 4, 6, 37, 38, 39] [.ptr 0 0, .ptr 1 0, .ptr 2 0, aJ rs rs', .i .i64 q, .b b] (obJ c ds rs m) []
theorem roB1_eq (q : Int) (c : Int) (ds : List Int) (rs rs' : List (Ty.den retT)) (m : Nw) : (pc 26 1 cfgJ roB [2, 4, 6, 37, 38] [2, 4, 6] (jOb q true c ds rs rs' m)).run = some (.normal, [.ptr 0 0, .ptr 1 0, .ptr 2 0, aJ rs rs', .i .i64 q], obJ c ds rs m, [], 88, 0, 0) := by kernel_rfl
theorem roB0_eq (q : Int) (c : Int) (ds : List Int) (rs rs' : List (Ty.den retT)) (m : Nw) : (pc 26 1 cfgJ roB [2, 4, 6, 37, 38] [2, 4, 6] (jOb q false c ds rs rs' m)).run = some (.exit 0, [.ptr 0 0, .ptr 1 0, .ptr 2 0], obJ c ds rs m, [], 88, 0, 0) := by kernel_rfl
theorem roC0_eq (c : Int) (ds : List Int) (rs rs' : List (Ty.den retT)) (m : Nw) : (pc 26 1 cfgJ roC [2, 4, 6, 8, 37, 38] [] (jO 0 c ds rs rs' m)).run = some (.normal, [.ptr 0 0, .ptr 1 0, .ptr 2 0, .slst .ro retT rs, aJ rs rs', .i .i64 0], obJ c ds rs m, [], 88, 0, 0) := by kernel_rfl
theorem roC1_eq (c : Int) (ds : List Int) (rs rs' : List (Ty.den retT)) (m : Nw) : (pc 26 1 cfgJ roC [2, 4, 6, 8, 37, 38] [] (jO 1 c ds rs rs' m)).run = some (.normal, [.ptr 0 0, .ptr 1 0, .ptr 2 0, .slst .ro retT rs', aJ rs rs', .i .i64 1], obJ c ds rs m, [], 88, 0, 0) := by kernel_rfl
theorem roD_eq (q : Int) (c : Int) (ds : List Int) (rs rs' l : List (Ty.den retT)) (m : Nw) : (pc 26 1 cfgJ roD [2, 4, 6, 37, 38, 41, 42, 43] [] (St.of 88 [2, 4, 6, 8, 37, 38] [.ptr 0 0, .ptr 1 0, .ptr 2 0, .slst .ro retT l, aJ rs rs', .i .i64 q] (obJ c ds rs m) [])).run = some (.normal, [.ptr 0 0, .ptr 1 0, .ptr 2 0, aJ rs rs', .i .i64 q, .slst .ro retT l, .si .i64 (l.length : Int), .i .i64 0], obJ c ds rs m, [], 88, 0, 0) := by kernel_rfl
theorem roK0_eq (c : Int) (ds : List Int) (rs rs' : List (Ty.den retT)) (m : Nw) : (pc 26 2 cfgJ roK [2, 4, 6, 37, 38] [] (jO 0 c ds rs rs' m)).run = some (.normal, [.ptr 0 0, .ptr 1 0, .ptr 2 0, aJ rs rs', .i .i64 1], obJ c ds rs m, [], 88, 0, 0) := by kernel_rfl
theorem roK1_eq (c : Int) (ds : List Int) (rs rs' : List (Ty.den retT)) (m : Nw) : (pc 26 2 cfgJ roK [2, 4, 6, 37, 38] [] (jO 1 c ds rs rs' m)).run = some (.normal, [.ptr 0 0, .ptr 1 0, .ptr 2 0, aJ rs rs', .i .i64 2], obJ c ds rs m, [], 88, 0, 0) := by kernel_rfl
def zcells : Nat → List V
 | 0 => []
 | n + 1 => z0 :: z0 :: .lst .full [] :: zcells n
theorem jD_eq (c : Int) (ds : List Int) (rs : List (Ty.den retT)) (c' : Int) (ds' : List Int) (rs' : List (Ty.den retT)) : (pc 26 0 cfgJ jD [2, 4, 6, 37, 38] [] (St.of 88 [2, 3, 4, 6] [.ptr 0 0, .ptr 1 0, .ptr 2 0, .ptr 3 0] [tO c ds rs, tO c' ds' rs', zO, some (zcells 12)] [])).run = some (.normal, [.ptr 0 0, .ptr 1 0, .ptr 2 0, aJ rs rs', .i .i64 0], [tO c ds rs, zO, some (zcells 12)], [], 88, 0, 0) := by kernel_rfl
noncomputable def cfgE : Cfg := { cfgJ with wy := fun f _ => match Nat.beq f 12 with | true => some [false, true] | false => none }
theorem cfgE_ok : CfgOk Try.prog Γ cfgE where
 orc := o49_ok
 om := omN_ok
 fit := omN_fit
 lo := lo10_ok
 mixed := by kernel_rfl
noncomputable def cE (c : Int) (ds : List Int) (b : List (Ty.den retT)) : Option (List V) := some [.si .i64 c, .slst .ro ity ds, .bs true 0 0 b.length]
noncomputable def eJ (j : Int) (c : Int) (ds : List Int) (b : List (Ty.den retT)) (m : Nw) : St := St.of 88 [4, 12, 73, 74] [.ptr 0 0, .ptr 1 0, .agg (cellsM m 12 0), .i .i64 j] [zO, cE c ds b] [some (.live (.arr retT b))]
theorem jF_eq (c : Int) (ds : List Int) (m : Nw) : (pc 26 2 cfgJ jF [4, 12, 73, 74] [] (St.of 88 [4, 6, 12] [.ptr 0 0, .ptr 1 0, .ptr 2 0] [zO, some (cellsM m 12 0), some [.si .i64 c, .slst .ro ity ds, .lst .full []]] [])).run = some (.normal, [.ptr 0 0, .ptr 1 0, .agg (cellsM m 12 0), .i .i64 0], [zO, some [.si .i64 c, .slst .ro ity ds, .lst .full []]], [], 88, 0, 0) := by kernel_rfl
theorem jG_eq (c : Int) (ds : List Int) (b : List (Ty.den retT)) : (pc 26 3 cfgJ jG [4, 5] [4, 5] (St.of 88 [4, 12] [.ptr 0 0, .ptr 1 0] [zO, cE c ds b] [some (.live (.arr retT b))])).run = (some ((Ex.ret, [V.ptr (0 : Nat) (0 : Nat), V.i IntKind.i64 (0 : Int)], [some [V.si IntKind.i64 c, V.slst Tag.ro ity ds, V.bs true (0 : Nat) (0 : Nat) b.length]], [some (Bf.live (BC.arr retT b))], (88 : Nat), (0 : Nat), (0 : Nat)))) := by kernel_rfl
theorem eJ0_eq (c : Int) (ds : List Int) (b : List (Ty.den retT)) (m : Nw) : (pc 26 3 cfgJ (lp 26 2) [4, 12, 73, 74] [4, 12] (eJ 0 c ds b m)).run = bif decide (rN (m 0) > 0) then (bif decide ((b.length + 1) * 2 * 40 ≤ 281474976710656) then some (.normal, [.ptr 0 0, .ptr 1 0, .agg (cellsM m 12 0), .i .i64 1], [zO, some [.si .i64 c, .slst .ro ity ds, .bs true 0 0 (b.length + 1)]], [some (.live (.arr retT (List.take b.length (List.drop 0 b) ++ [m 0])))], 88, 0, 0) else none) else some (.normal, [.ptr 0 0, .ptr 1 0, .agg (cellsM m 12 0), .i .i64 1], [zO, cE c ds b], [some (.live (.arr retT b))], 88, 0, 0) := by kernel_rfl
theorem eJ1_eq (c : Int) (ds : List Int) (b : List (Ty.den retT)) (m : Nw) : (pc 26 3 cfgJ (lp 26 2) [4, 12, 73, 74] [4, 12] (eJ 1 c ds b m)).run = bif decide (rN (m 1) > 0) then (bif decide ((b.length + 1) * 2 * 40 ≤ 281474976710656) then some (.normal, [.ptr 0 0, .ptr 1 0, .agg (cellsM m 12 0), .i .i64 2], [zO, some [.si .i64 c, .slst .ro ity ds, .bs true 0 0 (b.length + 1)]], [some (.live (.arr retT (List.take b.length (List.drop 0 b) ++ [m 1])))], 88, 0, 0) else none) else some (.normal, [.ptr 0 0, .ptr 1 0, .agg (cellsM m 12 0), .i .i64 2], [zO, cE c ds b], [some (.live (.arr retT b))], 88, 0, 0) := by kernel_rfl
theorem eJ2_eq (c : Int) (ds : List Int) (b : List (Ty.den retT)) (m : Nw) : (pc 26 3 cfgJ (lp 26 2) [4, 12, 73, 74] [4, 12] (eJ 2 c ds b m)).run = bif decide (rN (m 2) > 0) then (bif decide ((b.length + 1) * 2 * 40 ≤ 281474976710656) then some (.normal, [.ptr 0 0, .ptr 1 0, .agg (cellsM m 12 0), .i .i64 3], [zO, some [.si .i64 c, .slst .ro ity ds, .bs true 0 0 (b.length + 1)]], [some (.live (.arr retT (List.take b.length (List.drop 0 b) ++ [m 2])))], 88, 0, 0) else none) else some (.normal, [.ptr 0 0, .ptr 1 0, .agg (cellsM m 12 0), .i .i64 3], [zO, cE c ds b], [some (.live (.arr retT b))], 88, 0, 0) := by kernel_rfl
theorem eJ3_eq (c : Int) (ds : List Int) (b : List (Ty.den retT)) (m : Nw) : (pc 26 3 cfgJ (lp 26 2) [4, 12, 73, 74] [4, 12] (eJ 3 c ds b m)).run = bif decide (rN (m 3) > 0) then (bif decide ((b.length + 1) * 2 * 40 ≤ 281474976710656) then some (.normal, [.ptr 0 0, .ptr 1 0, .agg (cellsM m 12 0), .i .i64 4], [zO, some [.si .i64 c, .slst .ro ity ds, .bs true 0 0 (b.length + 1)]], [some (.live (.arr retT (List.take b.length (List.drop 0 b) ++ [m 3])))], 88, 0, 0) else none) else some (.normal, [.ptr 0 0, .ptr 1 0, .agg (cellsM m 12 0), .i .i64 4], [zO, cE c ds b], [some (.live (.arr retT b))], 88, 0, 0) := by kernel_rfl
theorem eJ4_eq (c : Int) (ds : List Int) (b : List (Ty.den retT)) (m : Nw) : (pc 26 3 cfgJ (lp 26 2) [4, 12, 73, 74] [4, 12] (eJ 4 c ds b m)).run = bif decide (rN (m 4) > 0) then (bif decide ((b.length + 1) * 2 * 40 ≤ 281474976710656) then some (.normal, [.ptr 0 0, .ptr 1 0, .agg (cellsM m 12 0), .i .i64 5], [zO, some [.si .i64 c, .slst .ro ity ds, .bs true 0 0 (b.length + 1)]], [some (.live (.arr retT (List.take b.length (List.drop 0 b) ++ [m 4])))], 88, 0, 0) else none) else some (.normal, [.ptr 0 0, .ptr 1 0, .agg (cellsM m 12 0), .i .i64 5], [zO, cE c ds b], [some (.live (.arr retT b))], 88, 0, 0) := by kernel_rfl
theorem eJ5_eq (c : Int) (ds : List Int) (b : List (Ty.den retT)) (m : Nw) : (pc 26 3 cfgJ (lp 26 2) [4, 12, 73, 74] [4, 12] (eJ 5 c ds b m)).run = bif decide (rN (m 5) > 0) then (bif decide ((b.length + 1) * 2 * 40 ≤ 281474976710656) then some (.normal, [.ptr 0 0, .ptr 1 0, .agg (cellsM m 12 0), .i .i64 6], [zO, some [.si .i64 c, .slst .ro ity ds, .bs true 0 0 (b.length + 1)]], [some (.live (.arr retT (List.take b.length (List.drop 0 b) ++ [m 5])))], 88, 0, 0) else none) else some (.normal, [.ptr 0 0, .ptr 1 0, .agg (cellsM m 12 0), .i .i64 6], [zO, cE c ds b], [some (.live (.arr retT b))], 88, 0, 0) := by kernel_rfl
theorem eJ6_eq (c : Int) (ds : List Int) (b : List (Ty.den retT)) (m : Nw) : (pc 26 3 cfgJ (lp 26 2) [4, 12, 73, 74] [4, 12] (eJ 6 c ds b m)).run = bif decide (rN (m 6) > 0) then (bif decide ((b.length + 1) * 2 * 40 ≤ 281474976710656) then some (.normal, [.ptr 0 0, .ptr 1 0, .agg (cellsM m 12 0), .i .i64 7], [zO, some [.si .i64 c, .slst .ro ity ds, .bs true 0 0 (b.length + 1)]], [some (.live (.arr retT (List.take b.length (List.drop 0 b) ++ [m 6])))], 88, 0, 0) else none) else some (.normal, [.ptr 0 0, .ptr 1 0, .agg (cellsM m 12 0), .i .i64 7], [zO, cE c ds b], [some (.live (.arr retT b))], 88, 0, 0) := by kernel_rfl
theorem eJ7_eq (c : Int) (ds : List Int) (b : List (Ty.den retT)) (m : Nw) : (pc 26 3 cfgJ (lp 26 2) [4, 12, 73, 74] [4, 12] (eJ 7 c ds b m)).run = bif decide (rN (m 7) > 0) then (bif decide ((b.length + 1) * 2 * 40 ≤ 281474976710656) then some (.normal, [.ptr 0 0, .ptr 1 0, .agg (cellsM m 12 0), .i .i64 8], [zO, some [.si .i64 c, .slst .ro ity ds, .bs true 0 0 (b.length + 1)]], [some (.live (.arr retT (List.take b.length (List.drop 0 b) ++ [m 7])))], 88, 0, 0) else none) else some (.normal, [.ptr 0 0, .ptr 1 0, .agg (cellsM m 12 0), .i .i64 8], [zO, cE c ds b], [some (.live (.arr retT b))], 88, 0, 0) := by kernel_rfl
theorem eJ8_eq (c : Int) (ds : List Int) (b : List (Ty.den retT)) (m : Nw) : (pc 26 3 cfgJ (lp 26 2) [4, 12, 73, 74] [4, 12] (eJ 8 c ds b m)).run = bif decide (rN (m 8) > 0) then (bif decide ((b.length + 1) * 2 * 40 ≤ 281474976710656) then some (.normal, [.ptr 0 0, .ptr 1 0, .agg (cellsM m 12 0), .i .i64 9], [zO, some [.si .i64 c, .slst .ro ity ds, .bs true 0 0 (b.length + 1)]], [some (.live (.arr retT (List.take b.length (List.drop 0 b) ++ [m 8])))], 88, 0, 0) else none) else some (.normal, [.ptr 0 0, .ptr 1 0, .agg (cellsM m 12 0), .i .i64 9], [zO, cE c ds b], [some (.live (.arr retT b))], 88, 0, 0) := by kernel_rfl
theorem eJ9_eq (c : Int) (ds : List Int) (b : List (Ty.den retT)) (m : Nw) : (pc 26 3 cfgJ (lp 26 2) [4, 12, 73, 74] [4, 12] (eJ 9 c ds b m)).run = bif decide (rN (m 9) > 0) then (bif decide ((b.length + 1) * 2 * 40 ≤ 281474976710656) then some (.normal, [.ptr 0 0, .ptr 1 0, .agg (cellsM m 12 0), .i .i64 10], [zO, some [.si .i64 c, .slst .ro ity ds, .bs true 0 0 (b.length + 1)]], [some (.live (.arr retT (List.take b.length (List.drop 0 b) ++ [m 9])))], 88, 0, 0) else none) else some (.normal, [.ptr 0 0, .ptr 1 0, .agg (cellsM m 12 0), .i .i64 10], [zO, cE c ds b], [some (.live (.arr retT b))], 88, 0, 0) := by kernel_rfl
theorem eJ10_eq (c : Int) (ds : List Int) (b : List (Ty.den retT)) (m : Nw) : (pc 26 3 cfgJ (lp 26 2) [4, 12, 73, 74] [4, 12] (eJ 10 c ds b m)).run = bif decide (rN (m 10) > 0) then (bif decide ((b.length + 1) * 2 * 40 ≤ 281474976710656) then some (.normal, [.ptr 0 0, .ptr 1 0, .agg (cellsM m 12 0), .i .i64 11], [zO, some [.si .i64 c, .slst .ro ity ds, .bs true 0 0 (b.length + 1)]], [some (.live (.arr retT (List.take b.length (List.drop 0 b) ++ [m 10])))], 88, 0, 0) else none) else some (.normal, [.ptr 0 0, .ptr 1 0, .agg (cellsM m 12 0), .i .i64 11], [zO, cE c ds b], [some (.live (.arr retT b))], 88, 0, 0) := by kernel_rfl
theorem eJ11_eq (c : Int) (ds : List Int) (b : List (Ty.den retT)) (m : Nw) : (pc 26 3 cfgJ (lp 26 2) [4, 12, 73, 74] [4, 12] (eJ 11 c ds b m)).run = bif decide (rN (m 11) > 0) then (bif decide ((b.length + 1) * 2 * 40 ≤ 281474976710656) then some (.normal, [.ptr 0 0, .ptr 1 0, .agg (cellsM m 12 0), .i .i64 12], [zO, some [.si .i64 c, .slst .ro ity ds, .bs true 0 0 (b.length + 1)]], [some (.live (.arr retT (List.take b.length (List.drop 0 b) ++ [m 11])))], 88, 0, 0) else none) else some (.normal, [.ptr 0 0, .ptr 1 0, .agg (cellsM m 12 0), .i .i64 12], [zO, cE c ds b], [some (.live (.arr retT b))], 88, 0, 0) := by kernel_rfl
theorem eJx2_eq (c : Int) (ds : List Int) (b : List (Ty.den retT)) (m : Nw) : (pc 26 3 cfgJ (lp 26 2) [4, 12, 73, 74] [4, 12] (eJ 12 c ds b m)).run = some (.exit 4, [.ptr 0 0, .ptr 1 0], [zO, cE c ds b], [some (.live (.arr retT b))], 88, 0, 0) := by kernel_rfl
end T
end Go.Proofs.Ytofbchcclkejgaa

/- Package tally: Join: contract. -/
set_option linter.unusedVariables false
set_option linter.unusedSimpArgs false
set_option maxRecDepth 100000
set_option maxHeartbeats 4000000
namespace Go.Proofs.Ytofbchcclkejgaa
open Go
namespace T
def zeroM : Nw := fun _ => ((0 : Int), (0 : Int), ([] : List Int), ())
def outT (m : Nw) : Nat → List (Ty.den retT)
 | 0 => []
 | j + 1 => bif decide (rN (m j) > 0) then outT m j ++ [m j] else outT m j
theorem outT_next (m : Nw) (j : Nat) : outT m (j + 1) = bif decide (rN (m j) > 0) then outT m j ++ [m j] else outT m j := rfl
theorem outT_len (m : Nw) : ∀ j, (outT m j).length ≤ j
 | 0 => Nat.le_refl _
 | j + 1 => by
  have := outT_len m j
  rw [outT_next]
  cases decide (rN (m j) > 0)
  · simp only [cond_false]; omega
  · simp only [cond_true, List.length_append, List.length_singleton]; omega
def joinD (rs rs' : List (Ty.den retT)) : List (Ty.den retT) := outT (foldM rs' (foldM rs zeroM)) 12
section
variable {c : Int} {ds : List Int} {rs rs' : List (Ty.den retT)} {m : Nw} {b : List (Ty.den retT)}
theorem snocJ (x : Ty.den retT) (j : Int) : eJ j c ds (b ++ [x]) m = St.of 88 [4, 12, 73, 74] [.ptr 0 0, .ptr 1 0, .agg (cellsM m 12 0), .i .i64 j] [zO, some [.si .i64 c, .slst .ro ity ds, .bs true 0 0 (b.length + 1)]] [some (.live (.arr retT (b ++ [x])))] := by
 unfold eJ cE; rw [List.length_append]; rfl
theorem takeJ (x : Ty.den retT) : List.take b.length (List.drop 0 b) ++ [x] = b ++ [x] := by rw [List.drop_zero, List.take_length]
theorem eJ0_go : SemC Try.prog Γ (lp 26 2) (eJ 0 c ds (outT m 0) m) .normal (eJ 1 c ds (outT m 1) m) := by
 have hl := outT_len m 0
 rw [outT_next m 0]
 by_cases h : rN (m 0) > 0
 · have := pc_ok cfgJ_ok Try.func26 bd26 (lies0 (by kernel_rfl)) ((eJ0_eq c ds (outT m 0) m).trans (by rw [decide_eq_true h, decide_eq_true (by omega : ((outT m 0).length + 1) * 2 * 40 ≤ 281474976710656), takeJ]; rfl))
   rw [decide_eq_true h, cond_true, snocJ]
   exact this
 · have := pc_ok cfgJ_ok Try.func26 bd26 (lies0 (by kernel_rfl)) ((eJ0_eq c ds (outT m 0) m).trans (by rw [decide_eq_false h]; rfl))
   rw [decide_eq_false h]
   exact this
theorem eJ1_go : SemC Try.prog Γ (lp 26 2) (eJ 1 c ds (outT m 1) m) .normal (eJ 2 c ds (outT m 2) m) := by
 have hl := outT_len m 1
 rw [outT_next m 1]
 by_cases h : rN (m 1) > 0
 · have := pc_ok cfgJ_ok Try.func26 bd26 (lies0 (by kernel_rfl)) ((eJ1_eq c ds (outT m 1) m).trans (by rw [decide_eq_true h, decide_eq_true (by omega : ((outT m 1).length + 1) * 2 * 40 ≤ 281474976710656), takeJ]; rfl))
   rw [decide_eq_true h, cond_true, snocJ]
   exact this
 · have := pc_ok cfgJ_ok Try.func26 bd26 (lies0 (by kernel_rfl)) ((eJ1_eq c ds (outT m 1) m).trans (by rw [decide_eq_false h]; rfl))
   rw [decide_eq_false h]
   exact this
theorem eJ2_go : SemC Try.prog Γ (lp 26 2) (eJ 2 c ds (outT m 2) m) .normal (eJ 3 c ds (outT m 3) m) := by
 have hl := outT_len m 2
 rw [outT_next m 2]
 by_cases h : rN (m 2) > 0
 · have := pc_ok cfgJ_ok Try.func26 bd26 (lies0 (by kernel_rfl)) ((eJ2_eq c ds (outT m 2) m).trans (by rw [decide_eq_true h, decide_eq_true (by omega : ((outT m 2).length + 1) * 2 * 40 ≤ 281474976710656), takeJ]; rfl))
   rw [decide_eq_true h, cond_true, snocJ]
   exact this
 · have := pc_ok cfgJ_ok Try.func26 bd26 (lies0 (by kernel_rfl)) ((eJ2_eq c ds (outT m 2) m).trans (by rw [decide_eq_false h]; rfl))
   rw [decide_eq_false h]
   exact this
theorem eJ3_go : SemC Try.prog Γ (lp 26 2) (eJ 3 c ds (outT m 3) m) .normal (eJ 4 c ds (outT m 4) m) := by
 have hl := outT_len m 3
 rw [outT_next m 3]
 by_cases h : rN (m 3) > 0
 · have := pc_ok cfgJ_ok Try.func26 bd26 (lies0 (by kernel_rfl)) ((eJ3_eq c ds (outT m 3) m).trans (by rw [decide_eq_true h, decide_eq_true (by omega : ((outT m 3).length + 1) * 2 * 40 ≤ 281474976710656), takeJ]; rfl))
   rw [decide_eq_true h, cond_true, snocJ]
   exact this
 · have := pc_ok cfgJ_ok Try.func26 bd26 (lies0 (by kernel_rfl)) ((eJ3_eq c ds (outT m 3) m).trans (by rw [decide_eq_false h]; rfl))
   rw [decide_eq_false h]
   exact this
theorem eJ4_go : SemC Try.prog Γ (lp 26 2) (eJ 4 c ds (outT m 4) m) .normal (eJ 5 c ds (outT m 5) m) := by
 have hl := outT_len m 4
 rw [outT_next m 4]
 by_cases h : rN (m 4) > 0
 · have := pc_ok cfgJ_ok Try.func26 bd26 (lies0 (by kernel_rfl)) ((eJ4_eq c ds (outT m 4) m).trans (by rw [decide_eq_true h, decide_eq_true (by omega : ((outT m 4).length + 1) * 2 * 40 ≤ 281474976710656), takeJ]; rfl))
   rw [decide_eq_true h, cond_true, snocJ]
   exact this
 · have := pc_ok cfgJ_ok Try.func26 bd26 (lies0 (by kernel_rfl)) ((eJ4_eq c ds (outT m 4) m).trans (by rw [decide_eq_false h]; rfl))
   rw [decide_eq_false h]
   exact this
theorem eJ5_go : SemC Try.prog Γ (lp 26 2) (eJ 5 c ds (outT m 5) m) .normal (eJ 6 c ds (outT m 6) m) := by
 have hl := outT_len m 5
 rw [outT_next m 5]
 by_cases h : rN (m 5) > 0
 · have := pc_ok cfgJ_ok Try.func26 bd26 (lies0 (by kernel_rfl)) ((eJ5_eq c ds (outT m 5) m).trans (by rw [decide_eq_true h, decide_eq_true (by omega : ((outT m 5).length + 1) * 2 * 40 ≤ 281474976710656), takeJ]; rfl))
   rw [decide_eq_true h, cond_true, snocJ]
   exact this
 · have := pc_ok cfgJ_ok Try.func26 bd26 (lies0 (by kernel_rfl)) ((eJ5_eq c ds (outT m 5) m).trans (by rw [decide_eq_false h]; rfl))
   rw [decide_eq_false h]
   exact this
theorem eJ6_go : SemC Try.prog Γ (lp 26 2) (eJ 6 c ds (outT m 6) m) .normal (eJ 7 c ds (outT m 7) m) := by
 have hl := outT_len m 6
 rw [outT_next m 6]
 by_cases h : rN (m 6) > 0
 · have := pc_ok cfgJ_ok Try.func26 bd26 (lies0 (by kernel_rfl)) ((eJ6_eq c ds (outT m 6) m).trans (by rw [decide_eq_true h, decide_eq_true (by omega : ((outT m 6).length + 1) * 2 * 40 ≤ 281474976710656), takeJ]; rfl))
   rw [decide_eq_true h, cond_true, snocJ]
   exact this
 · have := pc_ok cfgJ_ok Try.func26 bd26 (lies0 (by kernel_rfl)) ((eJ6_eq c ds (outT m 6) m).trans (by rw [decide_eq_false h]; rfl))
   rw [decide_eq_false h]
   exact this
theorem eJ7_go : SemC Try.prog Γ (lp 26 2) (eJ 7 c ds (outT m 7) m) .normal (eJ 8 c ds (outT m 8) m) := by
 have hl := outT_len m 7
 rw [outT_next m 7]
 by_cases h : rN (m 7) > 0
 · have := pc_ok cfgJ_ok Try.func26 bd26 (lies0 (by kernel_rfl)) ((eJ7_eq c ds (outT m 7) m).trans (by rw [decide_eq_true h, decide_eq_true (by omega : ((outT m 7).length + 1) * 2 * 40 ≤ 281474976710656), takeJ]; rfl))
   rw [decide_eq_true h, cond_true, snocJ]
   exact this
 · have := pc_ok cfgJ_ok Try.func26 bd26 (lies0 (by kernel_rfl)) ((eJ7_eq c ds (outT m 7) m).trans (by rw [decide_eq_false h]; rfl))
   rw [decide_eq_false h]
   exact this
theorem eJ8_go : SemC Try.prog Γ (lp 26 2) (eJ 8 c ds (outT m 8) m) .normal (eJ 9 c ds (outT m 9) m) := by
 have hl := outT_len m 8
 rw [outT_next m 8]
 by_cases h : rN (m 8) > 0
 · have := pc_ok cfgJ_ok Try.func26 bd26 (lies0 (by kernel_rfl)) ((eJ8_eq c ds (outT m 8) m).trans (by rw [decide_eq_true h, decide_eq_true (by omega : ((outT m 8).length + 1) * 2 * 40 ≤ 281474976710656), takeJ]; rfl))
   rw [decide_eq_true h, cond_true, snocJ]
   exact this
 · have := pc_ok cfgJ_ok Try.func26 bd26 (lies0 (by kernel_rfl)) ((eJ8_eq c ds (outT m 8) m).trans (by rw [decide_eq_false h]; rfl))
   rw [decide_eq_false h]
   exact this
theorem eJ9_go : SemC Try.prog Γ (lp 26 2) (eJ 9 c ds (outT m 9) m) .normal (eJ 10 c ds (outT m 10) m) := by
 have hl := outT_len m 9
 rw [outT_next m 9]
 by_cases h : rN (m 9) > 0
 · have := pc_ok cfgJ_ok Try.func26 bd26 (lies0 (by kernel_rfl)) ((eJ9_eq c ds (outT m 9) m).trans (by rw [decide_eq_true h, decide_eq_true (by omega : ((outT m 9).length + 1) * 2 * 40 ≤ 281474976710656), takeJ]; rfl))
   rw [decide_eq_true h, cond_true, snocJ]
   exact this
 · have := pc_ok cfgJ_ok Try.func26 bd26 (lies0 (by kernel_rfl)) ((eJ9_eq c ds (outT m 9) m).trans (by rw [decide_eq_false h]; rfl))
   rw [decide_eq_false h]
   exact this
theorem eJ10_go : SemC Try.prog Γ (lp 26 2) (eJ 10 c ds (outT m 10) m) .normal (eJ 11 c ds (outT m 11) m) := by
 have hl := outT_len m 10
 rw [outT_next m 10]
 by_cases h : rN (m 10) > 0
 · have := pc_ok cfgJ_ok Try.func26 bd26 (lies0 (by kernel_rfl)) ((eJ10_eq c ds (outT m 10) m).trans (by rw [decide_eq_true h, decide_eq_true (by omega : ((outT m 10).length + 1) * 2 * 40 ≤ 281474976710656), takeJ]; rfl))
   rw [decide_eq_true h, cond_true, snocJ]
   exact this
 · have := pc_ok cfgJ_ok Try.func26 bd26 (lies0 (by kernel_rfl)) ((eJ10_eq c ds (outT m 10) m).trans (by rw [decide_eq_false h]; rfl))
   rw [decide_eq_false h]
   exact this
theorem eJ11_go : SemC Try.prog Γ (lp 26 2) (eJ 11 c ds (outT m 11) m) .normal (eJ 12 c ds (outT m 12) m) := by
 have hl := outT_len m 11
 rw [outT_next m 11]
 by_cases h : rN (m 11) > 0
 · have := pc_ok cfgJ_ok Try.func26 bd26 (lies0 (by kernel_rfl)) ((eJ11_eq c ds (outT m 11) m).trans (by rw [decide_eq_true h, decide_eq_true (by omega : ((outT m 11).length + 1) * 2 * 40 ≤ 281474976710656), takeJ]; rfl))
   rw [decide_eq_true h, cond_true, snocJ]
   exact this
 · have := pc_ok cfgJ_ok Try.func26 bd26 (lies0 (by kernel_rfl)) ((eJ11_eq c ds (outT m 11) m).trans (by rw [decide_eq_false h]; rfl))
   rw [decide_eq_false h]
   exact this
theorem outer4 : SemL Try.prog Γ (lp 26 2) (eJ 0 c ds [] m) (.exit 4) (St.of 88 [4, 12] [.ptr 0 0, .ptr 1 0] [zO, cE c ds (outT m 12)] [some (.live (.arr retT (outT m 12)))]) := by
 refine SemL.next eJ0_go ?_
 refine SemL.next eJ1_go ?_
 refine SemL.next eJ2_go ?_
 refine SemL.next eJ3_go ?_
 refine SemL.next eJ4_go ?_
 refine SemL.next eJ5_go ?_
 refine SemL.next eJ6_go ?_
 refine SemL.next eJ7_go ?_
 refine SemL.next eJ8_go ?_
 refine SemL.next eJ9_go ?_
 refine SemL.next eJ10_go ?_
 refine SemL.next eJ11_go ?_
 exact SemL.out (by simp [Ex.to]) (pc_ok cfgJ_ok Try.func26 bd26 (lies0 (by kernel_rfl)) (eJx2_eq c ds (outT m 12) m))
theorem jE2_eq : (pc 26 2 cfgE jE [4, 6, 12] [] (St.of 88 [2, 4, 6] [.ptr 0 0, .ptr 1 0, .ptr 2 0] (obJ c ds rs m) [])).run = bif !!validC c ds && (decide (ds.length ≤ 1000000) && true) then some (.normal, [.ptr 0 0, .ptr 1 0, .ptr 2 0], [zO, some (cellsM m 12 0), some [.si .i64 c, .slst .ro ity ds, .lst .full []]], [], 88, 0, 0) else none := by kernel_rfl
theorem innerI {q : Int} {l : List (Ty.den retT)} (hl : l.length ≤ 1000000) (hok : okM l) (hm : ∀ j, (rV (m j)).length ≤ 1000000) :
 SemC Try.prog Γ (.seq roD (.block 2 (.loop (lp 26 1)))) (St.of 88 [2, 4, 6, 8, 37, 38] [.ptr 0 0, .ptr 1 0, .ptr 2 0, .slst .ro retT l, aJ rs rs', .i .i64 q] (obJ c ds rs m) []) .normal (jO q c ds rs rs' (foldM l m)) := by
 have hD := (pc_ok cfgJ_ok Try.func26 bd26 (lies0 (by kernel_rfl)) (roD_eq q c ds rs rs' l m)).post (y' := jI [] [.si .i64 0] c ds rs rs' q l m) (St.of_imps rfl fun G j v v' h1 h2 cv hr => by
  match j with
  | 0 => cases h1; cases h2; exact hr
  | 1 => cases h1; cases h2; exact hr
  | 2 => cases h1; cases h2; exact hr
  | 3 => cases h1; cases h2; exact hr
  | 4 => cases h1; cases h2; exact hr
  | 5 => cases h1; cases h2; exact hr
  | 6 => cases h1; cases h2; exact hr
  | 7 => cases h1; cases h2; exact si0 hr
  | j + 8 => cases h1)
 exact hD.seq (SemC.block_exit (SemC.loop (inner_go hl hok hm)))
theorem round0 (hl : rs.length ≤ 1000000) (hok : okM rs) (hm : ∀ j, (rV (m j)).length ≤ 1000000) : SemC Try.prog Γ (lp 26 0) (jO 0 c ds rs rs' m) .normal (jO 1 c ds rs rs' (foldM rs m)) := by
 have hA := pc_ok cfgJ_ok Try.func26 bd26 (lies0 (by kernel_rfl)) (roA0_eq c ds rs rs' m)
 have hB := pc_ok cfgJ_ok Try.func26 bd26 (lies0 (by kernel_rfl)) (roB1_eq 0 c ds rs rs' m)
 have hC := pc_ok cfgJ_ok Try.func26 bd26 (lies0 (by kernel_rfl)) (roC0_eq c ds rs rs' m)
 have hK := pc_ok cfgJ_ok Try.func26 bd26 (lies0 (by kernel_rfl)) (roK0_eq c ds rs rs' (foldM rs m))
 show SemC Try.prog Γ ro _ _ _
 rw [ro_eq]
 exact hA.seq (hB.seq ((SemC.block (by simp) (hC.seq (innerI hl hok hm))).seq hK))
theorem round1 (hl : rs'.length ≤ 1000000) (hok : okM rs') (hm : ∀ j, (rV (m j)).length ≤ 1000000) : SemC Try.prog Γ (lp 26 0) (jO 1 c ds rs rs' m) .normal (jO 2 c ds rs rs' (foldM rs' m)) := by
 have hA := pc_ok cfgJ_ok Try.func26 bd26 (lies0 (by kernel_rfl)) (roA1_eq c ds rs rs' m)
 have hB := pc_ok cfgJ_ok Try.func26 bd26 (lies0 (by kernel_rfl)) (roB1_eq 1 c ds rs rs' m)
 have hC := pc_ok cfgJ_ok Try.func26 bd26 (lies0 (by kernel_rfl)) (roC1_eq c ds rs rs' m)
 have hK := pc_ok cfgJ_ok Try.func26 bd26 (lies0 (by kernel_rfl)) (roK1_eq c ds rs rs' (foldM rs' m))
 show SemC Try.prog Γ ro _ _ _
 rw [ro_eq]
 exact hA.seq (hB.seq ((SemC.block (by simp) (hC.seq (innerI hl hok hm))).seq hK))
theorem round2 : SemC Try.prog Γ (lp 26 0) (jO 2 c ds rs rs' m) (.exit 0) (St.of 88 [2, 4, 6] [.ptr 0 0, .ptr 1 0, .ptr 2 0] (obJ c ds rs m) []) := by
 have hA := pc_ok cfgJ_ok Try.func26 bd26 (lies0 (by kernel_rfl)) (roA2_eq c ds rs rs' m)
 have hB := pc_ok cfgJ_ok Try.func26 bd26 (lies0 (by kernel_rfl)) (roB0_eq 2 c ds rs rs' m)
 show SemC Try.prog Γ ro _ _ _
 rw [ro_eq]
 exact hA.seq (SemC.seq_out (by simp [Ex.to]) hB)
end
def okJ (c : Int) (ds : List Int) (rs : List (Ty.den retT)) (c' : Int) (ds' : List Int) (rs' : List (Ty.den retT)) : Bool := validT c ds rs && (validT c' ds' rs' && (c == c' && eqL ds ds'))
theorem okM_of {c : Int} {ds : List Int} {rs : List (Ty.den retT)} (h : validT c ds rs = true) : okM rs := fun x hx => by
 have h1 := (validC_iff.1 (validT_iff.1 h).1).2.1
 have h2 := (properD_iff.1 ((validT_iff.1 h).2.1 x hx)).1
 have h3 := (validT_sz h).2 x hx
 exact ⟨h2.1, by omega, h3⟩
theorem c26_ok (c : Int) (ds : List Int) (rs : List (Ty.den retT)) (c' : Int) (ds' : List Int) (rs' : List (Ty.den retT)) (h : szR rs ∧ szR rs') : SemF Try.prog Γ 26 [vT c ds rs, vT c' ds' rs'] [] []
 (.tup [.agg [.si .i64 (bif okJ c ds rs c' ds' rs' then c else 0), .slst .ro ity (bif okJ c ds rs c' ds' rs' then ds else []), .slst .ro retT (bif okJ c ds rs c' ds' rs' then joinD rs rs' else [])], .si .i64 (bif okJ c ds rs c' ds' rs' then 0 else 270)]) [] [] := by
 have hA := pc_ok cfg13_ok Try.func26 bd26 (lies0 (by kernel_rfl)) (jA_eq c ds rs c' ds' rs')
 have hlen : validT c ds rs = true → ds.length ≤ 1000000 := fun hv => by have := (validC_iff.1 (validT_iff.1 hv).1).2.1; omega
 have hcond : (some (decide (szR rs) && (!validT c ds rs || decide (szR rs') && (!validT c' ds' rs' || decide (ds.length ≤ 1000000))))).getD true = true := by
  rw [decide_eq_true h.1, decide_eq_true h.2]
  cases hv : validT c ds rs
  · rfl
  · rw [decide_eq_true (hlen hv), Bool.or_true]; rfl
 have hok : (bif bif !validT c ds rs then true else bif !validT c' ds' rs' then true else !(c == c' && eqL ds ds') then true else false) = !okJ c ds rs c' ds' rs' := by
  unfold okJ
  cases validT c ds rs <;> cases validT c' ds' rs' <;> cases (c == c' && eqL ds ds') <;> rfl
 cases hj : okJ c ds rs c' ds' rs' with
 | false =>
  rw [hj] at hok
  have hB := pc_ok cfg13_ok Try.func26 bd26 (lies0 (by kernel_rfl)) ((jB_eq c ds rs c' ds' rs').trans (by
   rw [hcond]
   have : (bif !validT c ds rs then true else bif !validT c' ds' rs' then true else !(c == c' && eqL ds ds')) = true := by
    revert hok
    cases (bif !validT c ds rs then true else bif !validT c' ds' rs' then true else !(c == c' && eqL ds ds')) <;> simp
   rw [this]
   rfl))
  have hc : SemC Try.prog Γ (root 26) (St.start 88 [vT c ds rs, vT c' ds' rs'] [] []) .ret (St.of 88 [4, 5] [.ptr 0 0, .i .i64 270] [zO] []) := by
   rw [root26]; exact hA.seq (SemC.seq_out (by simp [Ex.to]) hB)
  have hf : SemF Try.prog Γ 26 [vT c ds rs, vT c' ds' rs'] [] [] (.tup [.agg [z0, .lst .full [], .lst .full []], .i .i64 270]) [zO] [] := SemF.of_body Try.func26 bd26 (.inl rfl) hc (by kernel_rfl)
  exact (hf.drop (v' := .tup [.agg [z0, .lst .full [], .lst .full []], .i .i64 270]) (by kernel_rfl)).weaken (fun G cv hr => by
   cases hr with
   | tup hs hr => exact .tup hs (fun j v w a b => by
    match j with
    | 0 => cases a; exact Ty.ofV_ok (t := talT) (x := (((0 : Int), ([] : List Int), ()), ([] : List (Ty.den retT)), ())) (by kernel_rfl) (hr 0 _ _ rfl b)
    | 1 => cases a; exact si0 (hr 1 _ _ rfl b)
    | j + 2 => cases a))
 | true =>
  rw [hj] at hok
  have hv : validT c ds rs = true ∧ validT c' ds' rs' = true := by
   unfold okJ at hj
   simp only [Bool.and_eq_true] at hj
   exact ⟨hj.1, hj.2.1⟩
  have hB := pc_ok cfg13_ok Try.func26 bd26 (lies0 (by kernel_rfl)) ((jB_eq c ds rs c' ds' rs').trans (by
   rw [hcond]
   have : (bif !validT c ds rs then true else bif !validT c' ds' rs' then true else !(c == c' && eqL ds ds')) = false := by
    revert hok
    cases (bif !validT c ds rs then true else bif !validT c' ds' rs' then true else !(c == c' && eqL ds ds')) <;> simp
   rw [this]
   rfl))
  have hC := pc_ok cfg13_ok Try.func26 bd26 (lies0 (by kernel_rfl)) (jC_eq c ds rs c' ds' rs')
  have hD := (pc_ok cfgJ_ok Try.func26 bd26 (lies0 (by kernel_rfl)) (jD_eq c ds rs c' ds' rs')).post (y' := jO 0 c ds rs rs' zeroM) (ob_imp [.keep, .keep, .cells (cellsP 12)] (by kernel_rfl))
  have hz : ∀ j, (rV (zeroM j)).length ≤ 1000000 := fun j => by show (0 : Nat) ≤ _; omega
  have hL : SemL Try.prog Γ (lp 26 0) (jO 0 c ds rs rs' zeroM) (.exit 0) (St.of 88 [2, 4, 6] [.ptr 0 0, .ptr 1 0, .ptr 2 0] (obJ c ds rs (foldM rs' (foldM rs zeroM))) []) :=
   SemL.next (round0 h.1.1 (okM_of hv.1) hz) (SemL.next (round1 h.2.1 (okM_of hv.2) (foldM_sz (okM_of hv.1) hz)) (SemL.out (by simp) round2))
  have hE := pc_ok cfgE_ok Try.func26 bd26 (lies0 (by kernel_rfl)) ((jE2_eq (c := c) (ds := ds) (rs := rs) (m := foldM rs' (foldM rs zeroM))).trans (by rw [(validT_iff.1 hv.1).1, decide_eq_true (hlen hv.1)]; rfl))
  have hF := (pc_ok cfgJ_ok Try.func26 bd26 (lies0 (by kernel_rfl)) (jF_eq c ds (foldM rs' (foldM rs zeroM)))).post (y' := eJ 0 c ds [] (foldM rs' (foldM rs zeroM))) (St.birthOb 1 2 (cs := [.si .i64 c, .slst .ro ity ds, .lst .full []]) rfl rfl (c := .arr retT []) rfl)
  have hG := pc_ok cfgJ_ok Try.func26 bd26 (lies0 (by kernel_rfl)) (jG_eq c ds (joinD rs rs'))
  have hc : SemC Try.prog Γ (root 26) (St.start 88 [vT c ds rs, vT c' ds' rs'] [] []) .ret (St.of 88 [4, 5] [.ptr 0 0, z0] [some [.si .i64 c, .slst .ro ity ds, .bs true 0 0 (joinD rs rs').length]] [some (.live (.arr retT (joinD rs rs')))]) := by
   rw [root26]
   exact hA.seq (hB.seq (hC.seq ((hD.seq (SemC.block_exit (SemC.loop hL))).seq (hE.seq ((hF.seq (SemC.block_exit (SemC.loop outer4))).seq hG)))))
  have hf : SemF Try.prog Γ 26 [vT c ds rs, vT c' ds' rs'] [] [] (.tup [.agg [.si .i64 c, .slst .ro ity ds, .bs true 0 0 (joinD rs rs').length], z0]) [some [.si .i64 c, .slst .ro ity ds, .bs true 0 0 (joinD rs rs').length]] [some (.live (.arr retT (joinD rs rs')))] := SemF.of_body Try.func26 bd26 (.inl rfl) hc (by kernel_rfl)
  have e : ∀ z : List (Ty.den retT), List.take z.length (List.drop 0 z) = z := fun z => by rw [List.drop_zero, List.take_length]
  refine (hf.drop (v' := .tup [.agg [.si .i64 c, .slst .ro ity ds, .slst .ro retT (List.take (joinD rs rs').length (List.drop 0 (joinD rs rs')))], z0]) (by kernel_rfl)).weaken (fun G cv hr => ?_)
  refine (congrArg (fun z : List (Ty.den retT) => VRel G (.tup [.agg [.si .i64 c, .slst .ro ity ds, .slst .ro retT z], .si .i64 0]) cv) (e (joinD rs rs'))).mp ?_
  cases hr with
  | tup hs hr => exact .tup hs (fun j v w a b => by
   match j with
   | 0 => cases a; exact hr 0 _ _ rfl b
   | 1 => cases a; exact si0 (hr 1 _ _ rfl b)
   | j + 2 => cases a)
noncomputable def gg_o26 (c : Int) (ds : List Int) (rs : List (Ty.den retT)) (c' : Int) (ds' : List Int) (rs' : List (Ty.den retT)) : Option Bool × V := (some (decide (szR rs ∧ szR rs')), .tup [.agg [.si .i64 (bif okJ c ds rs c' ds' rs' then c else 0), .slst .ro ity (bif okJ c ds rs c' ds' rs' then ds else []), .slst .ro retT (bif okJ c ds rs c' ds' rs' then joinD rs rs' else [])], .si .i64 (bif okJ c ds rs c' ds' rs' then 0 else 270)])
theorem gg_o26_c (c : Int) (ds : List Int) (rs : List (Ty.den retT)) (c' : Int) (ds' : List Int) (rs' : List (Ty.den retT)) (h : (gg_o26 c ds rs c' ds' rs').1.getD true = true) : szR rs ∧ szR rs' := of_decide_eq_true h
noncomputable def o26 : Orc := fun f args => if f = 26 then (Ty.ofVs [talT, talT] args).map (fun x => gg_o26 x.1.1.1 x.1.1.2.1 x.1.2.1 x.2.1.1.1 x.2.1.1.2.1 x.2.1.2.1) else o12 f args
theorem o26_ok : OrcOk Try.prog Γ o26 := o12_ok.plain 26 [talT, talT] (fun x => gg_o26 x.1.1.1 x.1.1.2.1 x.1.2.1 x.2.1.1.1 x.2.1.1.2.1 x.2.1.2.1) Try.f26 Try.func26 rfl (by kernel_rfl) (fun x h => c26_ok x.1.1.1 x.1.1.2.1 x.1.2.1 x.2.1.1.1 x.2.1.1.2.1 x.2.1.2.1 (gg_o26_c x.1.1.1 x.1.1.2.1 x.1.2.1 x.2.1.1.1 x.2.1.1.2.1 x.2.1.2.1 h))
noncomputable def cfg14 : Cfg := cfgQ o26 lo10
theorem cfg14_ok : CfgOk Try.prog Γ cfg14 := cfgQ_ok o26_ok lo10_ok
theorem c14_run (c : Int) (ds : List Int) (rs : List (Ty.den retT)) (d n : Int) (v : List Int) : runL cfg14 14 [vT c ds rs, .agg [.si .i64 d, .si .i64 n, .slst .ro ity v]] = .ok (some ((some (decide (szR rs) && (!validT c ds rs || decide (ds.length ≤ 1000000 ∧ v.length ≤ 1000000)))).getD true && ((bif !validT c ds rs then true else !properD c ds d n v) || decide (szR rs ∧ szR [(d, n, v, ())])))) (V.tup [V.agg [V.si .i64 (bif bif !validT c ds rs then true else !properD c ds d n v then (0 : Int) else bif okJ c ds rs c ds [(d, n, v, ())] then c else (0 : Int)), V.slst .ro ity (bif bif !validT c ds rs then true else !properD c ds d n v then [] else bif okJ c ds rs c ds [(d, n, v, ())] then ds else []), V.slst .ro retT (bif bif !validT c ds rs then true else !properD c ds d n v then [] else bif okJ c ds rs c ds [(d, n, v, ())] then joinD rs [(d, n, v, ())] else [])], V.si .i64 (bif bif !validT c ds rs then true else !properD c ds d n v then (270 : Int) else bif okJ c ds rs c ds [(d, n, v, ())] then (0 : Int) else (270 : Int))]) := by kernel_rfl
end T
end Go.Proofs.Ytofbchcclkejgaa

/- Package tally: Add, Same; comparisons of lists; picks. -/
set_option linter.unusedVariables false
set_option linter.unusedSimpArgs false
set_option maxRecDepth 100000
set_option maxHeartbeats 4000000
namespace Go.Proofs.Ytofbchcclkejgaa
open Go
namespace T
theorem mem1 {α : Type} {r x : α} (h : r ∈ [x]) : r = x := List.mem_singleton.1 h
def addOk (c : Int) (ds : List Int) (rs : List (Ty.den retT)) (d n : Int) (v : List Int) : Bool := validT c ds rs && properD c ds d n v
theorem okJ_one {c : Int} {ds : List Int} {rs : List (Ty.den retT)} {d n : Int} {v : List Int} (h : addOk c ds rs d n v = true) : okJ c ds rs c ds [(d, n, v, ())] = true := by
 unfold addOk at h
 rw [Bool.and_eq_true] at h
 obtain ⟨h1, h2⟩ := h
 have h3 : validT c ds [(d, n, v, ())] = true := validT_iff.2 ⟨(validT_iff.1 h1).1, fun r hr => by
  have hr := mem1 hr
  subst hr; exact h2, fun i h0 hi => by have hi : i < 1 := hi; omega⟩
 unfold okJ
 rw [h1, h3, eqL_iff.2 rfl]
 simp
theorem c14_ok (c : Int) (ds : List Int) (rs : List (Ty.den retT)) (d n : Int) (v : List Int) (h : szR rs ∧ v.length ≤ 1000000) : SemF Try.prog Γ 14 [vT c ds rs, .agg [.si .i64 d, .si .i64 n, .slst .ro ity v]] [] []
 (.tup [.agg [.si .i64 (bif addOk c ds rs d n v then c else 0), .slst .ro ity (bif addOk c ds rs d n v then ds else []), .slst .ro retT (bif addOk c ds rs d n v then joinD rs [(d, n, v, ())] else [])], .si .i64 (bif addOk c ds rs d n v then 0 else 270)]) [] [] := by
 have hsz : szR [(d, n, v, ())] := ⟨by show 1 ≤ 1000000; omega, fun r hr => by
  have hr := mem1 hr
  subst hr; exact h.2⟩
 refine of_runL cfg14_ok (c14_run c ds rs d n v) ?_ ?_
 · cases hv : validT c ds rs
   · rw [decide_eq_true h.1]; simp
   · have hd : ds.length ≤ 1000000 := by have := (validC_iff.1 (validT_iff.1 hv).1).2.1; omega
     rw [decide_eq_true h.1, decide_eq_true (show ds.length ≤ 1000000 ∧ v.length ≤ 1000000 from ⟨hd, h.2⟩), decide_eq_true (show szR rs ∧ szR [(d, n, v, ())] from ⟨h.1, hsz⟩)]
     simp
 · cases ha : addOk c ds rs d n v with
   | true =>
    rw [okJ_one ha]
    unfold addOk at ha
    rw [Bool.and_eq_true] at ha
    rw [ha.1, ha.2]
    rfl
   | false =>
    have : (bif !validT c ds rs then true else !properD c ds d n v) = true := by
     unfold addOk at ha
     revert ha
     cases validT c ds rs <;> cases properD c ds d n v <;> simp
    rw [this]
    rfl
noncomputable def gg_o14 (c : Int) (ds : List Int) (rs : List (Ty.den retT)) (d n : Int) (v : List Int) : Option Bool × V := (some (decide (szR rs ∧ v.length ≤ 1000000)), .tup [.agg [.si .i64 (bif addOk c ds rs d n v then c else 0), .slst .ro ity (bif addOk c ds rs d n v then ds else []), .slst .ro retT (bif addOk c ds rs d n v then joinD rs [(d, n, v, ())] else [])], .si .i64 (bif addOk c ds rs d n v then 0 else 270)])
theorem gg_o14_c (c : Int) (ds : List Int) (rs : List (Ty.den retT)) (d n : Int) (v : List Int) (h : (gg_o14 c ds rs d n v).1.getD true = true) : szR rs ∧ v.length ≤ 1000000 := of_decide_eq_true h
noncomputable def o14 : Orc := fun f args => if f = 14 then (Ty.ofVs [talT, retT] args).map (fun x => gg_o14 x.1.1.1 x.1.1.2.1 x.1.2.1 x.2.1.1 x.2.1.2.1 x.2.1.2.2.1) else o26 f args
theorem o14_ok : OrcOk Try.prog Γ o14 := o26_ok.plain 14 [talT, retT] (fun x => gg_o14 x.1.1.1 x.1.1.2.1 x.1.2.1 x.2.1.1 x.2.1.2.1 x.2.1.2.2.1) Try.f14 Try.func14 rfl (by kernel_rfl) (fun x h => c14_ok x.1.1.1 x.1.1.2.1 x.1.2.1 x.2.1.1 x.2.1.2.1 x.2.1.2.2.1 (gg_o14_c x.1.1.1 x.1.1.2.1 x.1.2.1 x.2.1.1 x.2.1.2.1 x.2.1.2.2.1 h))
noncomputable def cfg15 : Cfg := cfgQ o14 lo10
theorem cfg15_ok : CfgOk Try.prog Γ cfg15 := cfgQ_ok o14_ok lo10_ok
def hp_ef : HP := { n := 32, lv := [1, 2, 15, 16, 17], sp := [.ty (.slice retT), .fn 50 [], .ty (.slice retT), .ty ity, .ty ity], op := [], bp := [] }
def lve_ef : Ex → List Nat
 | .normal => [1, 2, 15, 16, 17]
 | .ret => [6]
 | .exit 0 => []
 | _ => []
theorem bd_ef : Try.f51.body = some (root 51) := by kernel_rfl
theorem le_ef : (loops (root 51))[0]? = some (lp 51 0) := by kernel_rfl
theorem li_ef : Lies (root 51) 1 (lp 51 0) := Lies.of_take (n := 0) (by kernel_rfl)
def st_ef (b a : List (Ty.den retT)) (n i : Int) : St := hp_ef.st ⟨(b, (), a, n, i, ()), (), ()⟩
noncomputable def rn_ef (b a : List (Ty.den retT)) (n i : Int) := outa lve_ef (evCK Try.prog Γ (cfM Try.prog Γ cfg15 30) (cfg15.lo 51) [4] 60 1 (lp 51 0) (st_ef b a n i))
theorem rn_ef_eq (b a : List (Ty.den retT)) (n i : Int) : (rn_ef b a n i).run = (bif decide (i < n) then (bif decide ((0 : Int) ≤ i ∧ i < (a.length : Int)) then (bif decide ((0 : Int) ≤ i ∧ i < (b.length : Int)) then (bif (some (!(rD (a.getD i.toNat retT.dflt)) == (rD (b.getD i.toNat retT.dflt)) || decide (List.length (rV (a.getD i.toNat retT.dflt)) ≤ 1000000 ∧ List.length (rV (b.getD i.toNat retT.dflt)) ≤ 1000000))).getD true then (bif !bif (rD (a.getD i.toNat retT.dflt)) == (rD (b.getD i.toNat retT.dflt)) then cmpD (rN (a.getD i.toNat retT.dflt)) (rV (a.getD i.toNat retT.dflt)) (rN (b.getD i.toNat retT.dflt)) (rV (b.getD i.toNat retT.dflt)) == (0 : Int) else false then (some ((Ex.ret, [V.b false], [], [], 32, 0, 0))) else (some ((Ex.normal, [V.slst .ro retT b, V.fn (Fn.func (50 : FuncId)) [] [], V.slst .ro retT a, V.si .i64 n, V.si .i64 (IntKind.i64.wrap (i + (1 : Int)))], [], [], 32, 0, 0)))) else none) else none) else none) else (some ((Ex.exit 0, [], [], [], 32, 0, 0)))) := by kernel_rfl
theorem rn_ef_c (b a : List (Ty.den retT)) (n i : Int) {e : Ex} {vs : List V} {ob : Ob} {nm : Nm} {n' kh kt : Nat} (h : (rn_ef b a n i).run = some (e, vs, ob, nm, n', kh, kt)) : SemC Try.prog Γ (lp 51 0) (st_ef b a n i) e.to (St.of n' (lve_ef e) vs ob nm kh kt) := SemC.of_evM cfg15_ok Try.func51 bd_ef li_ef h
def hp_is : HP := { n := 26, lv := [0, 1, 5], sp := [.ty (.slice ity), .ty (.slice ity), .ty ity], op := [], bp := [] }
def lve_is : Ex → List Nat
 | .normal => [0, 1, 5]
 | .ret => [4]
 | .exit 0 => []
 | _ => []
theorem bd_is : Try.f25.body = some (root 25) := by kernel_rfl
theorem le_is : (loops (root 25))[0]? = some (lp 25 0) := by kernel_rfl
theorem li_is : Lies (root 25) 1 (lp 25 0) := Lies.of_take (n := 0) (by kernel_rfl)
def st_is (a b : List Int) (i : Int) : St := hp_is.st ⟨(a, b, i, ()), (), ()⟩
noncomputable def rn_is (a b : List Int) (i : Int) := outa lve_is (evCK Try.prog Γ (cfM Try.prog Γ cfg15 30) (cfg15.lo 25) [] 60 1 (lp 25 0) (st_is a b i))
theorem rn_is_eq (a b : List Int) (i : Int) : (rn_is a b i).run = (bif decide (i < (a.length : Int)) then (bif decide ((0 : Int) ≤ i ∧ i < (a.length : Int)) then (bif decide ((0 : Int) ≤ i ∧ i < (b.length : Int)) then (bif a.getD i.toNat (0 : Int) != b.getD i.toNat (0 : Int) then (some ((Ex.ret, [V.b false], [], [], 26, 0, 0))) else (some ((Ex.normal, [V.slst .ro ity a, V.slst .ro ity b, V.si .i64 (IntKind.i64.wrap (i + (1 : Int)))], [], [], 26, 0, 0)))) else none) else none) else (some ((Ex.exit 0, [], [], [], 26, 0, 0)))) := by kernel_rfl
theorem rn_is_c (a b : List Int) (i : Int) {e : Ex} {vs : List V} {ob : Ob} {nm : Nm} {n' kh kt : Nat} (h : (rn_is a b i).run = some (e, vs, ob, nm, n', kh, kt)) : SemC Try.prog Γ (lp 25 0) (st_is a b i) e.to (St.of n' (lve_is e) vs ob nm kh kt) := SemC.of_evM cfg15_ok Try.func25 bd_is li_is h
theorem c36_run (k n : Int) : runL cfg15 36 [.si .i64 k, .si .i64 n] = .ok (some (bif decide (k < (0 : Int)) then decide (n ≠ (0 : Int)) else decide (n ≠ (0 : Int)))) (V.si .i64 (bif decide (k < (0 : Int)) then (IntKind.i64.wrap ((0 : Int) - IntKind.i64.wrap (k + (1 : Int)))).tmod n else k.tmod n)) := by kernel_rfl
theorem c63_run (k n : Int) : runL cfg15 63 [.si .i64 k, .si .i64 n] = .ok (some (bif decide (k < (0 : Int)) then decide (n ≠ (0 : Int)) else decide (n ≠ (0 : Int)))) (V.si .i64 (bif decide (k < (0 : Int)) then (IntKind.i64.wrap ((0 : Int) - IntKind.i64.wrap (k + (1 : Int)))).tmod n else k.tmod n)) := by kernel_rfl
theorem sgn_zero {a b : Int} : sgn a b = 0 ↔ a = b := by
 unfold sgn
 constructor
 · intro h
   split at h
   · cases h
   · split at h
     · cases h
     · omega
 · rintro rfl
   simp
theorem lexC_zero : ∀ {a b : List Int}, lexC a b = 0 ↔ a = b
 | [], [] => by simp [lexC]
 | [], _ :: _ => by simp [lexC]
 | _ :: _, [] => by simp [lexC]
 | x :: a, y :: b => by
  simp only [lexC]
  by_cases h : sgn x y = 0
  · rw [if_neg (fun hh => hh h), lexC_zero, sgn_zero.1 h]
    simp
  · rw [if_pos h]
    constructor
    · intro hh; exact absurd hh h
    · intro hh; cases hh; exact absurd (sgn_zero.2 rfl) h
theorem cmpD_zero {n n' : Int} {v v' : List Int} : cmpD n v n' v' = 0 ↔ n = n' ∧ v = v' := by
 unfold cmpD
 by_cases h : sgn n n' = 0
 · rw [if_neg (fun hh => hh h), lexC_zero, sgn_zero.1 h]; simp
 · rw [if_pos h]
   constructor
   · intro hh; exact absurd hh h
   · rintro ⟨rfl, _⟩; exact absurd (sgn_zero.2 rfl) h
def sameB (x y : Ty.den retT) : Bool := bif rD x == rD y then cmpD (rN x) (rV x) (rN y) (rV y) == (0 : Int) else false
theorem sameB_iff {x y : Ty.den retT} : sameB x y = true ↔ x = y := by
 unfold sameB
 constructor
 · intro h
   by_cases h1 : rD x = rD y
   · rw [show (rD x == rD y) = true by simpa using h1] at h
     have h : (cmpD (rN x) (rV x) (rN y) (rV y) == (0 : Int)) = true := h
     have := cmpD_zero.1 (by simpa using h)
     have e : ∀ z : Ty.den retT, z = (rD z, rN z, rV z, ()) := fun z => rfl
     rw [e x, e y, h1, this.1, this.2]
   · rw [show (rD x == rD y) = false by simpa using h1] at h
     cases h
 · rintro rfl
   rw [show (rD x == rD x) = true by simp]
   show (cmpD (rN x) (rV x) (rN x) (rV x) == (0 : Int)) = true
   rw [cmpD_zero.2 ⟨rfl, rfl⟩]; rfl
def eqR (a b : List (Ty.den retT)) : Bool := decide (a = b)
theorem eqR_iff {a b : List (Ty.den retT)} : eqR a b = true ↔ a = b := decide_eq_true_iff
abbrev pre_ef (b a : List (Ty.den retT)) (n i : Int) : Prop := n = (a.length : Int) ∧ i = 0 ∧ szR a ∧ szR b ∧ b.length = a.length
def rs_ef (b a : List (Ty.den retT)) (n i : Int) : Ex × St := if eqR a b = true then (.exit 0, St.of 32 (lve_ef (.exit 0)) [] [] [] hp_ef.kh hp_ef.kt) else (.ret, St.of 32 (lve_ef (.ret)) [.b false] [] [] hp_ef.kh hp_ef.kt)
def res_ef (b a : List (Ty.den retT)) (n i : Int) : Tr (Ex × St) := .br (decide (pre_ef b a n i)) (.br (decide (eqR a b = true)) (.leaf (some (.exit 0, St.of 32 (lve_ef (.exit 0)) [] [] [] hp_ef.kh hp_ef.kt))) (.leaf (some (.ret, St.of 32 (lve_ef (.ret)) [.b false] [] [] hp_ef.kh hp_ef.kt)))) (.leaf none)
def ent_ef : LEnt := LEnt.by hp_ef fun ⟨(b, _, a, n, i, _), _, _⟩ => res_ef b a n i
theorem ent_ef_ok (hgo : ∀ (b a : List (Ty.den retT)) (n i : Int), pre_ef b a n i → SemL Try.prog Γ (lp 51 0) (st_ef b a n i) (rs_ef b a n i).1.to (rs_ef b a n i).2) : EntOk Try.prog Γ (lp 51 0) ent_ef := LEnt.by_ok fun ⟨(b, _, a, n, i, _), _, _⟩ _ _ h_ => SemL.br (out := rs_ef b a n i) (Tr.run_ite rfl rfl) (hgo b a n i) h_
theorem ext_at {α : Type} {a b : List α} (d : α) (hl : b.length = a.length) (h : ∀ i, i < a.length → a.getD i d = b.getD i d) : a = b := by
 refine List.ext_getElem hl.symm fun i h1 h2 => ?_
 have := h i h1
 simpa [List.getD, h1, h2] using this
theorem ef_go (b a : List (Ty.den retT)) (n i : Int) (h : pre_ef b a n i) : SemL Try.prog Γ (lp 51 0) (st_ef b a n i) (rs_ef b a n i).1.to (rs_ef b a n i).2 := by
 obtain ⟨rfl, rfl, ha, hb, hl⟩ := h
 have eq0 : ∀ i : Nat, i < a.length → (rn_ef b a a.length i).run = (bif sameB (a.getD i retT.dflt) (b.getD i retT.dflt) then (some (Ex.normal, [V.slst Tag.ro retT b, V.fn (Fn.func 50) [] [], V.slst Tag.ro retT a, V.si IntKind.i64 a.length, V.si IntKind.i64 ((i + 1 : Nat) : Int)], [], [], (32 : Nat), (0 : Nat), (0 : Nat))) else (some (Ex.ret, [V.b false], [], [], (32 : Nat), (0 : Nat), (0 : Nat)))) := by
  intro i hi
  have hx := ha.2 _ (getD_mem retT.dflt hi)
  have hy := hb.2 _ (getD_mem retT.dflt (show i < b.length by omega))
  rw [rn_ef_eq, wrap_succ hi ha.1, decide_eq_true (by omega : (i : Int) < a.length), decide_eq_true (by omega : (0 : Int) ≤ (i : Int) ∧ (i : Int) < a.length), decide_eq_true (by omega : (0 : Int) ≤ (i : Int) ∧ (i : Int) < b.length), Int.toNat_natCast, decide_eq_true (⟨hx, hy⟩ : List.length (rV (a.getD i retT.dflt)) ≤ 1000000 ∧ List.length (rV (b.getD i retT.dflt)) ≤ 1000000)]
  rw [Bool.or_true]
  unfold sameB
  generalize (bif rD (a.getD i retT.dflt) == rD (b.getD i retT.dflt) then cmpD (rN (a.getD i retT.dflt)) (rV (a.getD i retT.dflt)) (rN (b.getD i retT.dflt)) (rV (b.getD i retT.dflt)) == (0 : Int) else false) = q
  cases q <;> rfl
 refine SemL.scan a.length 0 (Nat.zero_le _) (fun i => st_ef b a a.length (i : Nat)) (fun i => sameB (a.getD i retT.dflt) (b.getD i retT.dflt)) _ ?_ ?_ ?_
 · intro i _ hi hbb hp
   refine rn_ef_c b a a.length i (e := .normal) ?_
   rw [eq0 i hi, hp]
   rfl
 · intro i _ hi hbb hp
   have hne : ¬ eqR a b = true := fun he => by
    obtain rfl := eqR_iff.1 he
    rw [sameB_iff.2 rfl] at hp
    cases hp
   unfold rs_ef
   rw [if_neg hne]
   refine ⟨by simp [Ex.to], rn_ef_c b a a.length i (e := .ret) ?_⟩
   rw [eq0 i hi, hp]
   rfl
 · intro hbb
   unfold rs_ef
   rw [if_pos (eqR_iff.2 (ext_at retT.dflt hl (fun i hi => sameB_iff.1 (hbb i (Nat.zero_le _) hi))))]
   refine ⟨by simp [Ex.to], rn_ef_c b a a.length a.length (e := .exit 0) ?_⟩
   rw [rn_ef_eq, decide_eq_false (by omega)]
   rfl
abbrev pre_is (a b : List Int) (i : Int) : Prop := i = 0 ∧ a.length ≤ 1000000 ∧ b.length = a.length
def rs_is (a b : List Int) (i : Int) : Ex × St := if eqL a b = true then (.exit 0, St.of 26 (lve_is (.exit 0)) [] [] [] hp_is.kh hp_is.kt) else (.ret, St.of 26 (lve_is (.ret)) [.b false] [] [] hp_is.kh hp_is.kt)
def res_is (a b : List Int) (i : Int) : Tr (Ex × St) := .br (decide (pre_is a b i)) (.br (decide (eqL a b = true)) (.leaf (some (.exit 0, St.of 26 (lve_is (.exit 0)) [] [] [] hp_is.kh hp_is.kt))) (.leaf (some (.ret, St.of 26 (lve_is (.ret)) [.b false] [] [] hp_is.kh hp_is.kt)))) (.leaf none)
def ent_is : LEnt := LEnt.by hp_is fun ⟨(a, b, i, _), _, _⟩ => res_is a b i
theorem ent_is_ok (hgo : ∀ (a b : List Int) (i : Int), pre_is a b i → SemL Try.prog Γ (lp 25 0) (st_is a b i) (rs_is a b i).1.to (rs_is a b i).2) : EntOk Try.prog Γ (lp 25 0) ent_is := LEnt.by_ok fun ⟨(a, b, i, _), _, _⟩ _ _ h_ => SemL.br (out := rs_is a b i) (Tr.run_ite rfl rfl) (hgo a b i) h_
theorem is_go (a b : List Int) (i : Int) (h : pre_is a b i) : SemL Try.prog Γ (lp 25 0) (st_is a b i) (rs_is a b i).1.to (rs_is a b i).2 := by
 obtain ⟨rfl, hc, hl⟩ := h
 refine SemL.scan a.length 0 (Nat.zero_le _) (fun i => st_is a b (i : Nat)) (fun i => a.getD i 0 == b.getD i 0) _ ?_ ?_ ?_
 · intro i _ hi hb hp
   refine rn_is_c a b i (e := .normal) ?_
   have hp' : (a.getD i 0 != b.getD i 0) = false := by simpa using hp
   rw [rn_is_eq, wrap_succ hi hc, decide_eq_true (by omega : (i : Int) < (Nat.cast a.length : Int)), decide_eq_true (by omega : (0 : Int) ≤ (i : Int) ∧ (i : Int) < (Nat.cast a.length : Int)), decide_eq_true (by omega : (0 : Int) ≤ (i : Int) ∧ (i : Int) < (Nat.cast b.length : Int)), Int.toNat_natCast, hp']
   rfl
 · intro i _ hi hb hp
   have hp' : (a.getD i 0 != b.getD i 0) = true := by simpa using hp
   have hne : ¬ a = b := by rintro rfl; simp at hp
   unfold rs_is
   rw [if_neg (fun h => hne (eqL_iff.1 h))]
   refine ⟨by simp [Ex.to], rn_is_c a b i (e := .ret) ?_⟩
   rw [rn_is_eq, decide_eq_true (by omega : (i : Int) < (Nat.cast a.length : Int)), decide_eq_true (by omega : (0 : Int) ≤ (i : Int) ∧ (i : Int) < (Nat.cast a.length : Int)), decide_eq_true (by omega : (0 : Int) ≤ (i : Int) ∧ (i : Int) < (Nat.cast b.length : Int)), Int.toNat_natCast, hp']
   rfl
 · intro hb
   unfold rs_is
   rw [if_pos (eqL_iff.2 (eq_of_at hl (fun i hi => hb i (Nat.zero_le _) hi)))]
   refine ⟨by simp [Ex.to], rn_is_c a b a.length (e := .exit 0) ?_⟩
   rw [rn_is_eq, decide_eq_false (by omega)]
   rfl
def inr (n : Int) : Bool := decide (-9223372036854775808 ≤ n ∧ n ≤ 9223372036854775807)
def pickD (k n : Int) : Int := if k < 0 then (-(k + 1)).tmod n else k.tmod n
theorem pickD_lt {k n : Int} (h : 0 < n) : 0 ≤ pickD k n ∧ pickD k n < n := by
 unfold pickD
 split
 · exact ⟨Int.tmod_nonneg _ (by omega), Int.tmod_lt_of_pos _ h⟩
 · exact ⟨Int.tmod_nonneg _ (by omega), Int.tmod_lt_of_pos _ h⟩
theorem pick_eq {k n : Int} (hk : inr k = true) : (bif decide (k < (0 : Int)) then (IntKind.i64.wrap ((0 : Int) - IntKind.i64.wrap (k + (1 : Int)))).tmod n else k.tmod n) = pickD k n := by
 have hk := of_decide_eq_true hk
 unfold pickD
 by_cases h : k < 0
 · rw [wrap_in (n := k + 1) (by omega) (by omega), wrap_in (by omega) (by omega)]
   simp [h, Int.neg_add]
 · simp [h]
theorem c36_ok (k n : Int) (h : inr k = true ∧ n ≠ 0) : SemF Try.prog Γ 36 [.si .i64 k, .si .i64 n] [] [] (.si .i64 (pickD k n)) [] [] :=
 of_runL cfg15_ok (c36_run k n) (by simp [h.2]) (by rw [pick_eq h.1])
theorem c63_ok (k n : Int) (h : inr k = true ∧ n ≠ 0) : SemF Try.prog Γ 63 [.si .i64 k, .si .i64 n] [] [] (.si .i64 (pickD k n)) [] [] :=
 of_runL cfg15_ok (c63_run k n) (by simp [h.2]) (by rw [pick_eq h.1])
noncomputable def gg_o36 (k n : Int) : Option Bool × V := (some (decide (inr k = true ∧ n ≠ 0)), .si .i64 (pickD k n))
theorem gg_o36_c (k n : Int) (h : (gg_o36 k n).1.getD true = true) : inr k = true ∧ n ≠ 0 := of_decide_eq_true h
noncomputable def o36 : Orc := fun f args => if f = 36 then (Ty.ofVs [ity, ity] args).map (fun x => gg_o36 x.1 x.2.1) else o14 f args
theorem o36_ok : OrcOk Try.prog Γ o36 := o14_ok.plain 36 [ity, ity] (fun x => gg_o36 x.1 x.2.1) Try.f36 Try.func36 rfl (by kernel_rfl) (fun x h => c36_ok x.1 x.2.1 (gg_o36_c x.1 x.2.1 h))
noncomputable def gg_o63 (k n : Int) : Option Bool × V := (some (decide (inr k = true ∧ n ≠ 0)), .si .i64 (pickD k n))
theorem gg_o63_c (k n : Int) (h : (gg_o63 k n).1.getD true = true) : inr k = true ∧ n ≠ 0 := of_decide_eq_true h
noncomputable def o63 : Orc := fun f args => if f = 63 then (Ty.ofVs [ity, ity] args).map (fun x => gg_o63 x.1 x.2.1) else o36 f args
theorem o63_ok : OrcOk Try.prog Γ o63 := o36_ok.plain 63 [ity, ity] (fun x => gg_o63 x.1 x.2.1) Try.f63 Try.func63 rfl (by kernel_rfl) (fun x h => c63_ok x.1 x.2.1 (gg_o63_c x.1 x.2.1 h))
def lo15 : LOrc := (LOrc.add (LOrc.add lo10 51 0 ent_ef) 25 0 ent_is)
theorem lo15_ok : LOrcOk Try.prog Γ lo15 := (LOrcOk.add (LOrcOk.add lo10_ok 51 0 Try.func51 bd_ef le_ef (ent_ef_ok ef_go)) 25 0 Try.func25 bd_is le_is (ent_is_ok is_go))
noncomputable def cfg16 : Cfg := cfgQ o63 lo15
theorem cfg16_ok : CfgOk Try.prog Γ cfg16 := cfgQ_ok o63_ok lo15_ok
theorem c28_run (c : Int) (ds : List Int) (rs : List (Ty.den retT)) (c2 : Int) (ds2 : List Int) (rs2 : List (Ty.den retT)) : runL cfg16 28 [vT c ds rs, vT c2 ds2 rs2] = .ok (some ((some (decide (ds.length ≤ 1000000) && (!(c == c2 && eqL ds ds2) || ((rs.length : Int) != (rs2.length : Int) || decide (pre_ef rs2 rs (rs.length : Int) (0 : Int)))))).getD true)) (V.sb (bif c == c2 && eqL ds ds2 then bif (rs.length : Int) != (rs2.length : Int) then false else bif decide (eqR rs rs2 = true) then true else false else false)) := by kernel_rfl
theorem c25_run (a b : List Int) : runL cfg16 25 [.slst .ro ity a, .slst .ro ity b] = .ok (some ((a.length : Int) != (b.length : Int) || decide (pre_is a b (0 : Int)))) (V.sb (bif (a.length : Int) != (b.length : Int) then false else bif decide (eqL a b = true) then true else false)) := by kernel_rfl
end T
end Go.Proofs.Ytofbchcclkejgaa

/- Package tally: Same; the reference's loops. -/
set_option linter.unusedVariables false
set_option linter.unusedSimpArgs false
set_option maxRecDepth 100000
set_option maxHeartbeats 4000000
namespace Go.Proofs.Ytofbchcclkejgaa
open Go
namespace T
def sameT (c : Int) (ds : List Int) (rs : List (Ty.den retT)) (c2 : Int) (ds2 : List Int) (rs2 : List (Ty.den retT)) : Bool := (c == c2 && eqL ds ds2) && eqR rs rs2
theorem ne_len {α : Type} {a b : List α} (h : ¬ b.length = a.length) : ((Nat.cast a.length : Int) != (Nat.cast b.length : Int)) = true := by simp; omega
theorem eq_len {α : Type} {a b : List α} (h : b.length = a.length) : ((Nat.cast a.length : Int) != (Nat.cast b.length : Int)) = false := by simp [h]
theorem c28_ok (c : Int) (ds : List Int) (rs : List (Ty.den retT)) (c2 : Int) (ds2 : List Int) (rs2 : List (Ty.den retT)) (h : ds.length ≤ 1000000 ∧ szR rs ∧ szR rs2) : SemF Try.prog Γ 28 [vT c ds rs, vT c2 ds2 rs2] [] [] (.sb (sameT c ds rs c2 ds2 rs2)) [] [] := by
 refine of_runL cfg16_ok (c28_run c ds rs c2 ds2 rs2) ?_ ?_
 · rw [decide_eq_true h.1]
   by_cases hl : rs2.length = rs.length
   · rw [decide_eq_true (show pre_ef rs2 rs (Nat.cast rs.length : Int) 0 from ⟨rfl, rfl, h.2.1, h.2.2, hl⟩)]; simp
   · rw [ne_len hl]; simp
 · unfold sameT
   by_cases hl : rs2.length = rs.length
   · rw [eq_len hl]
     cases (c == c2 && eqL ds ds2) <;> cases eqR rs rs2 <;> rfl
   · have he : eqR rs rs2 = false := by
      cases hb : eqR rs rs2 with
      | false => rfl
      | true => exact absurd (by rw [eqR_iff.1 hb]) hl
     rw [ne_len hl, he]
     cases (c == c2 && eqL ds ds2) <;> rfl
theorem c25_ok (a b : List Int) (h : a.length ≤ 1000000) : SemF Try.prog Γ 25 [.slst .ro ity a, .slst .ro ity b] [] [] (.sb (eqL a b)) [] [] := by
 refine of_runL cfg16_ok (c25_run a b) ?_ ?_
 · by_cases hl : b.length = a.length
   · rw [decide_eq_true (show pre_is a b 0 from ⟨rfl, h, hl⟩)]; simp
   · rw [ne_len hl]; rfl
 · by_cases hl : b.length = a.length
   · rw [eq_len hl]; cases eqL a b <;> rfl
   · have he : eqL a b = false := by
      cases hb : eqL a b with
      | false => rfl
      | true => exact absurd (by rw [eqL_iff.1 hb]) hl
     rw [ne_len hl, he]; rfl
noncomputable def gg_o28 (c : Int) (ds : List Int) (rs : List (Ty.den retT)) (c2 : Int) (ds2 : List Int) (rs2 : List (Ty.den retT)) : Option Bool × V := (some (decide (ds.length ≤ 1000000 ∧ szR rs ∧ szR rs2)), .sb (sameT c ds rs c2 ds2 rs2))
theorem gg_o28_c (c : Int) (ds : List Int) (rs : List (Ty.den retT)) (c2 : Int) (ds2 : List Int) (rs2 : List (Ty.den retT)) (h : (gg_o28 c ds rs c2 ds2 rs2).1.getD true = true) : ds.length ≤ 1000000 ∧ szR rs ∧ szR rs2 := of_decide_eq_true h
noncomputable def o28 : Orc := fun f args => if f = 28 then (Ty.ofVs [talT, talT] args).map (fun x => gg_o28 x.1.1.1 x.1.1.2.1 x.1.2.1 x.2.1.1.1 x.2.1.1.2.1 x.2.1.2.1) else o63 f args
theorem o28_ok : OrcOk Try.prog Γ o28 := o63_ok.plain 28 [talT, talT] (fun x => gg_o28 x.1.1.1 x.1.1.2.1 x.1.2.1 x.2.1.1.1 x.2.1.1.2.1 x.2.1.2.1) Try.f28 Try.func28 rfl (by kernel_rfl) (fun x h => c28_ok x.1.1.1 x.1.1.2.1 x.1.2.1 x.2.1.1.1 x.2.1.1.2.1 x.2.1.2.1 (gg_o28_c x.1.1.1 x.1.1.2.1 x.1.2.1 x.2.1.1.1 x.2.1.1.2.1 x.2.1.2.1 h))
noncomputable def gg_o25 (a b : List Int) : Option Bool × V := (some (decide (a.length ≤ 1000000)), .sb (eqL a b))
theorem gg_o25_c (a b : List Int) (h : (gg_o25 a b).1.getD true = true) : a.length ≤ 1000000 := of_decide_eq_true h
noncomputable def o25 : Orc := fun f args => if f = 25 then (Ty.ofVs [.slice ity, .slice ity] args).map (fun x => gg_o25 x.1 x.2.1) else o28 f args
theorem o25_ok : OrcOk Try.prog Γ o25 := o28_ok.plain 25 [.slice ity, .slice ity] (fun x => gg_o25 x.1 x.2.1) Try.f25 Try.func25 rfl (by kernel_rfl) (fun x h => c25_ok x.1 x.2.1 (gg_o25_c x.1 x.2.1 h))
noncomputable def cfg17 : Cfg := cfgQ o25 lo15
theorem cfg17_ok : CfgOk Try.prog Γ cfg17 := cfgQ_ok o25_ok lo15_ok
def hp_vc : HP := { n := 29, lv := [1, 3], sp := [.ptr 0 0, .ty ity], op := [.cells [.ty ity, .ty (.slice ity)]], bp := [] }
def lve_vc : Ex → List Nat
 | .normal => [1, 3]
 | .ret => [2]
 | .exit 0 => []
 | _ => []
theorem bd_vc : Try.f41.body = some (root 41) := by kernel_rfl
theorem le_vc : (loops (root 41))[0]? = some (lp 41 0) := by kernel_rfl
theorem li_vc : Lies (root 41) 1 (lp 41 0) := Lies.of_take (n := 0) (by kernel_rfl)
def st_vc (c : Int) (ds : List Int) (i : Int) : St := hp_vc.st ⟨((), i, ()), ((c, ds, ()), ()), ()⟩
noncomputable def rn_vc (c : Int) (ds : List Int) (i : Int) := outa lve_vc (evCK Try.prog Γ (cfM Try.prog Γ cfg17 30) (cfg17.lo 41) [14] 60 1 (lp 41 0) (st_vc c ds i))
theorem rn_vc_eq (c : Int) (ds : List Int) (i : Int) : (rn_vc c ds i).run = (bif decide (i < (ds.length : Int)) then (bif decide ((0 : Int) ≤ i ∧ i < (ds.length : Int)) then (bif !bif decide (ds.getD i.toNat (0 : Int) ≥ (0 : Int)) then decide (ds.getD i.toNat (0 : Int) ≤ (100000 : Int)) else false then (some ((Ex.ret, [V.b false], [], [], 29, 0, 0))) else (some ((Ex.normal, [V.ptr 0 0, V.si .i64 (IntKind.i64.wrap (i + (1 : Int)))], [some [V.si .i64 c, V.slst .ro ity ds]], [], 29, 0, 0)))) else none) else (some ((Ex.exit 0, [], [], [], 29, 0, 0)))) := by kernel_rfl
theorem rn_vc_c (c : Int) (ds : List Int) (i : Int) {e : Ex} {vs : List V} {ob : Ob} {nm : Nm} {n' kh kt : Nat} (h : (rn_vc c ds i).run = some (e, vs, ob, nm, n', kh, kt)) : SemC Try.prog Γ (lp 41 0) (st_vc c ds i) e.to (St.of n' (lve_vc e) vs ob nm kh kt) := SemC.of_evM cfg17_ok Try.func41 bd_vc li_vc h
def hp_pr : HP := { n := 58, lv := [2, 3, 5, 6], sp := [.ptr 0 0, .ptr 1 0, .ty ity, .ty ity], op := [.cells [.ty ity, .ty (.slice ity)], .cells [.ty ity, .ty ity, .ty (.slice ity)]], bp := [] }
def lve_pr : Ex → List Nat
 | .normal => [2, 3, 5, 6]
 | .ret => [4]
 | .exit 0 => [2, 3, 5]
 | _ => []
theorem bd_pr : Try.f43.body = some (root 43) := by kernel_rfl
theorem le_pr : (loops (root 43))[0]? = some (lp 43 0) := by kernel_rfl
theorem li_pr : Lies (root 43) 1 (lp 43 0) := Lies.of_take (n := 0) (by kernel_rfl)
def st_pr (c : Int) (ds : List Int) (d n : Int) (v : List Int) (s i : Int) : St := hp_pr.st ⟨((), (), s, i, ()), ((c, ds, ()), (d, n, v, ()), ()), ()⟩
noncomputable def rn_pr (c : Int) (ds : List Int) (d n : Int) (v : List Int) (s i : Int) := outa lve_pr (evCK Try.prog Γ (cfM Try.prog Γ cfg17 30) (cfg17.lo 43) [28] 60 1 (lp 43 0) (st_pr c ds d n v s i))
theorem rn_pr_eq (c : Int) (ds : List Int) (d n : Int) (v : List Int) (s i : Int) : (rn_pr c ds d n v s i).run = (bif decide (i < (v.length : Int)) then (bif decide ((0 : Int) ≤ i ∧ i < (v.length : Int)) then (bif !bif decide (v.getD i.toNat (0 : Int) ≥ (0 : Int)) then decide (v.getD i.toNat (0 : Int) ≤ (100000 : Int)) else false then (some ((Ex.ret, [V.b false], [], [], 58, 0, 0))) else (bif decide ((0 : Int) ≤ i ∧ i < (v.length : Int)) then (some ((Ex.normal, [V.ptr 0 0, V.ptr 1 0, V.si .i64 (IntKind.i64.wrap (s + v.getD i.toNat (0 : Int))), V.si .i64 (IntKind.i64.wrap (i + (1 : Int)))], [some [V.si .i64 c, V.slst .ro ity ds], some [V.si .i64 d, V.si .i64 n, V.slst .ro ity v]], [], 58, 0, 0))) else none)) else none) else (some ((Ex.exit 0, [V.ptr 0 0, V.ptr 1 0, V.si .i64 s], [some [V.si .i64 c, V.slst .ro ity ds], some [V.si .i64 d, V.si .i64 n, V.slst .ro ity v]], [], 58, 0, 0)))) := by kernel_rfl
theorem rn_pr_c (c : Int) (ds : List Int) (d n : Int) (v : List Int) (s i : Int) {e : Ex} {vs : List V} {ob : Ob} {nm : Nm} {n' kh kt : Nat} (h : (rn_pr c ds d n v s i).run = some (e, vs, ob, nm, n', kh, kt)) : SemC Try.prog Γ (lp 43 0) (st_pr c ds d n v s i) e.to (St.of n' (lve_pr e) vs ob nm kh kt) := SemC.of_evM cfg17_ok Try.func43 bd_pr li_pr h
def hp_nw : HP := { n := 52, lv := [2, 3, 5], sp := [.ptr 0 0, .ptr 1 0, .ty ity], op := [.cells [.ty ity, .ty ity, .ty (.slice ity)], .cells [.ty ity, .ty ity, .ty (.slice ity)]], bp := [] }
def lve_nw : Ex → List Nat
 | .normal => [2, 3, 5]
 | .ret => [4]
 | .exit 0 => []
 | _ => []
theorem bd_nw : Try.f45.body = some (root 45) := by kernel_rfl
theorem le_nw : (loops (root 45))[0]? = some (lp 45 0) := by kernel_rfl
theorem li_nw : Lies (root 45) 1 (lp 45 0) := Lies.of_take (n := 0) (by kernel_rfl)
def st_nw (d n : Int) (v : List Int) (d2 n2 : Int) (v2 : List Int) (i : Int) : St := hp_nw.st ⟨((), (), i, ()), ((d, n, v, ()), (d2, n2, v2, ()), ()), ()⟩
noncomputable def rn_nw (d n : Int) (v : List Int) (d2 n2 : Int) (v2 : List Int) (i : Int) := outa lve_nw (evCK Try.prog Γ (cfM Try.prog Γ cfg17 30) (cfg17.lo 45) [27] 60 1 (lp 45 0) (st_nw d n v d2 n2 v2 i))
theorem rn_nw_eq (d n : Int) (v : List Int) (d2 n2 : Int) (v2 : List Int) (i : Int) : (rn_nw d n v d2 n2 v2 i).run = (bif bif decide (i < (v.length : Int)) then decide (i < (v2.length : Int)) else false then (bif decide ((0 : Int) ≤ i ∧ i < (v.length : Int)) then (bif decide ((0 : Int) ≤ i ∧ i < (v2.length : Int)) then (bif v.getD i.toNat (0 : Int) != v2.getD i.toNat (0 : Int) then (bif decide ((0 : Int) ≤ i ∧ i < (v.length : Int)) then (bif decide ((0 : Int) ≤ i ∧ i < (v2.length : Int)) then (some ((Ex.ret, [V.sb (decide (v.getD i.toNat (0 : Int) > v2.getD i.toNat (0 : Int)))], [], [], 52, 0, 0))) else none) else none) else (some ((Ex.normal, [V.ptr 0 0, V.ptr 1 0, V.si .i64 (IntKind.i64.wrap (i + (1 : Int)))], [some [V.si .i64 d, V.si .i64 n, V.slst .ro ity v], some [V.si .i64 d2, V.si .i64 n2, V.slst .ro ity v2]], [], 52, 0, 0)))) else none) else none) else (some ((Ex.exit 0, [], [], [], 52, 0, 0)))) := by kernel_rfl
theorem rn_nw_c (d n : Int) (v : List Int) (d2 n2 : Int) (v2 : List Int) (i : Int) {e : Ex} {vs : List V} {ob : Ob} {nm : Nm} {n' kh kt : Nat} (h : (rn_nw d n v d2 n2 v2 i).run = some (e, vs, ob, nm, n', kh, kt)) : SemC Try.prog Γ (lp 45 0) (st_nw d n v d2 n2 v2 i) e.to (St.of n' (lve_nw e) vs ob nm kh kt) := SemC.of_evM cfg17_ok Try.func45 bd_nw li_nw h
end T
end Go.Proofs.Ytofbchcclkejgaa

/- Package tally: the reference: validity, newer. -/
set_option linter.unusedVariables false
set_option linter.unusedSimpArgs false
set_option maxRecDepth 100000
set_option maxHeartbeats 4000000
namespace Go.Proofs.Ytofbchcclkejgaa
open Go
namespace T
theorem okV_bif2 (x : Int) : (bif decide (x ≥ (0 : Int)) then decide (x ≤ (100000 : Int)) else false) = okV x := okV_bif x
abbrev pre_vc (c : Int) (ds : List Int) (i : Int) : Prop := i = 0 ∧ ds.length ≤ 1000000
def rs_vc (c : Int) (ds : List Int) (i : Int) : Ex × St := if ds.all okV = true then (.exit 0, St.of 29 (lve_vc (.exit 0)) [] [] [] hp_vc.kh hp_vc.kt) else (.ret, St.of 29 (lve_vc (.ret)) [.b false] [] [] hp_vc.kh hp_vc.kt)
def res_vc (c : Int) (ds : List Int) (i : Int) : Tr (Ex × St) := .br (decide (pre_vc c ds i)) (.br (decide (ds.all okV = true)) (.leaf (some (.exit 0, St.of 29 (lve_vc (.exit 0)) [] [] [] hp_vc.kh hp_vc.kt))) (.leaf (some (.ret, St.of 29 (lve_vc (.ret)) [.b false] [] [] hp_vc.kh hp_vc.kt)))) (.leaf none)
def ent_vc : LEnt := LEnt.by hp_vc fun ⟨(_, i, _), ((c, ds, _), _), _⟩ => res_vc c ds i
theorem ent_vc_ok (hgo : ∀ (c : Int) (ds : List Int) (i : Int), pre_vc c ds i → SemL Try.prog Γ (lp 41 0) (st_vc c ds i) (rs_vc c ds i).1.to (rs_vc c ds i).2) : EntOk Try.prog Γ (lp 41 0) ent_vc := LEnt.by_ok fun ⟨(_, i, _), ((c, ds, _), _), _⟩ _ _ h_ => SemL.br (out := rs_vc c ds i) (Tr.run_ite rfl rfl) (hgo c ds i) h_
theorem vc_go (c : Int) (ds : List Int) (i : Int) (h : pre_vc c ds i) : SemL Try.prog Γ (lp 41 0) (st_vc c ds i) (rs_vc c ds i).1.to (rs_vc c ds i).2 := by
 obtain ⟨rfl, hc⟩ := h
 refine SemL.scan ds.length 0 (Nat.zero_le _) (fun i => st_vc c ds (i : Nat)) (fun i => okV (ds.getD i 0)) _ ?_ ?_ ?_
 · intro i _ hi hb hp
   refine rn_vc_c c ds i (e := .normal) ?_
   rw [rn_vc_eq, wrap_succ hi hc, decide_eq_true (by omega : (i : Int) < (Nat.cast ds.length : Int)), decide_eq_true (by omega : (0 : Int) ≤ (i : Int) ∧ (i : Int) < (Nat.cast ds.length : Int)), Int.toNat_natCast, okV_bif2, hp]
   rfl
 · intro i _ hi hb hp
   unfold rs_vc
   rw [if_neg (all_not 0 hi hp)]
   refine ⟨by simp [Ex.to], rn_vc_c c ds i (e := .ret) ?_⟩
   rw [rn_vc_eq, decide_eq_true (by omega : (i : Int) < (Nat.cast ds.length : Int)), decide_eq_true (by omega : (0 : Int) ≤ (i : Int) ∧ (i : Int) < (Nat.cast ds.length : Int)), Int.toNat_natCast, okV_bif2, hp]
   rfl
 · intro hb
   unfold rs_vc
   rw [if_pos (all_at 0 (fun j hj => hb j (Nat.zero_le _) hj))]
   refine ⟨by simp [Ex.to], rn_vc_c c ds ds.length (e := .exit 0) ?_⟩
   rw [rn_vc_eq, decide_eq_false (by omega)]
   rfl
abbrev pre_pr (c : Int) (ds : List Int) (d n : Int) (v : List Int) (s i : Int) : Prop := i = 0 ∧ s = 0 ∧ v.length ≤ 1000000
def rs_pr (c : Int) (ds : List Int) (d n : Int) (v : List Int) (s i : Int) : Ex × St := if v.all okV = true then (.exit 0, St.of 58 (lve_pr (.exit 0)) [.ptr 0 0, .ptr 1 0, .si .i64 v.sum] [some [.si .i64 c, .slst .ro ity ds], some [.si .i64 d, .si .i64 n, .slst .ro ity v]] [] hp_pr.kh hp_pr.kt) else (.ret, St.of 58 (lve_pr (.ret)) [.b false] [] [] hp_pr.kh hp_pr.kt)
def res_pr (c : Int) (ds : List Int) (d n : Int) (v : List Int) (s i : Int) : Tr (Ex × St) := .br (decide (pre_pr c ds d n v s i)) (.br (decide (v.all okV = true)) (.leaf (some (.exit 0, St.of 58 (lve_pr (.exit 0)) [.ptr 0 0, .ptr 1 0, .si .i64 v.sum] [some [.si .i64 c, .slst .ro ity ds], some [.si .i64 d, .si .i64 n, .slst .ro ity v]] [] hp_pr.kh hp_pr.kt))) (.leaf (some (.ret, St.of 58 (lve_pr (.ret)) [.b false] [] [] hp_pr.kh hp_pr.kt)))) (.leaf none)
def ent_pr : LEnt := LEnt.by hp_pr fun ⟨(_, _, s, i, _), ((c, ds, _), (d, n, v, _), _), _⟩ => res_pr c ds d n v s i
theorem ent_pr_ok (hgo : ∀ (c : Int) (ds : List Int) (d n : Int) (v : List Int) (s i : Int), pre_pr c ds d n v s i → SemL Try.prog Γ (lp 43 0) (st_pr c ds d n v s i) (rs_pr c ds d n v s i).1.to (rs_pr c ds d n v s i).2) : EntOk Try.prog Γ (lp 43 0) ent_pr := LEnt.by_ok fun ⟨(_, _, s, i, _), ((c, ds, _), (d, n, v, _), _), _⟩ _ _ h_ => SemL.br (out := rs_pr c ds d n v s i) (Tr.run_ite rfl rfl) (hgo c ds d n v s i) h_
theorem pr_go (c : Int) (ds : List Int) (d n : Int) (v : List Int) (s i : Int) (h : pre_pr c ds d n v s i) : SemL Try.prog Γ (lp 43 0) (st_pr c ds d n v s i) (rs_pr c ds d n v s i).1.to (rs_pr c ds d n v s i).2 := by
 obtain ⟨rfl, rfl, hc⟩ := h
 refine SemL.scan v.length 0 (Nat.zero_le _) (fun i => st_pr c ds d n v (v.take i).sum (i : Nat)) (fun i => okV (v.getD i 0)) _ ?_ ?_ ?_
 · intro i _ hi hb hp
   refine rn_pr_c c ds d n v _ i (e := .normal) ?_
   have hs := sum_bound (all_take (Nat.le_of_lt hi) (fun j hj => hb j (Nat.zero_le _) hj))
   have hx := okV_iff.1 hp
   have hl : ((v.take i).length : Int) ≤ 1000000 := by simp only [List.length_take]; omega
   have hw : IntKind.i64.wrap ((v.take i).sum + v.getD i 0) = (v.take (i + 1)).sum := by
    rw [sum_take hi, wrap_in]
    · omega
    · omega
   rw [rn_pr_eq, wrap_succ hi hc, decide_eq_true (by omega : (i : Int) < (Nat.cast v.length : Int)), decide_eq_true (by omega : (0 : Int) ≤ (i : Int) ∧ (i : Int) < (Nat.cast v.length : Int)), Int.toNat_natCast, okV_bif2, hp, hw]
   rfl
 · intro i _ hi hb hp
   unfold rs_pr
   rw [if_neg (all_not 0 hi hp)]
   refine ⟨by simp [Ex.to], rn_pr_c c ds d n v _ i (e := .ret) ?_⟩
   rw [rn_pr_eq, decide_eq_true (by omega : (i : Int) < (Nat.cast v.length : Int)), decide_eq_true (by omega : (0 : Int) ≤ (i : Int) ∧ (i : Int) < (Nat.cast v.length : Int)), Int.toNat_natCast, okV_bif2, hp]
   rfl
 · intro hb
   unfold rs_pr
   rw [if_pos (all_at 0 (fun j hj => hb j (Nat.zero_le _) hj))]
   refine ⟨by simp [Ex.to], rn_pr_c c ds d n v _ v.length (e := .exit 0) ?_⟩
   rw [rn_pr_eq, decide_eq_false (by omega), List.take_length]
   rfl
theorem sgn_pos {a b : Int} : sgn a b > 0 ↔ a > b := by
 unfold sgn
 split
 · constructor <;> intro h <;> omega
 · split <;> constructor <;> intro h <;> omega
theorem lexC_self (v : List Int) : lexC v v = 0 := lexC_zero.2 rfl
abbrev pre_nw (d n : Int) (v : List Int) (d2 n2 : Int) (v2 : List Int) (i : Int) : Prop := i = 0 ∧ v.length ≤ 1000000 ∧ v2.length = v.length
def rs_nw (d n : Int) (v : List Int) (d2 n2 : Int) (v2 : List Int) (i : Int) : Ex × St := if eqL v v2 = true then (.exit 0, St.of 52 (lve_nw (.exit 0)) [] [] [] hp_nw.kh hp_nw.kt) else (.ret, St.of 52 (lve_nw (.ret)) [.sb (decide (lexC v v2 > 0))] [] [] hp_nw.kh hp_nw.kt)
def res_nw (d n : Int) (v : List Int) (d2 n2 : Int) (v2 : List Int) (i : Int) : Tr (Ex × St) := .br (decide (pre_nw d n v d2 n2 v2 i)) (.br (decide (eqL v v2 = true)) (.leaf (some (.exit 0, St.of 52 (lve_nw (.exit 0)) [] [] [] hp_nw.kh hp_nw.kt))) (.leaf (some (.ret, St.of 52 (lve_nw (.ret)) [.sb (decide (lexC v v2 > 0))] [] [] hp_nw.kh hp_nw.kt)))) (.leaf none)
def ent_nw : LEnt := LEnt.by hp_nw fun ⟨(_, _, i, _), ((d, n, v, _), (d2, n2, v2, _), _), _⟩ => res_nw d n v d2 n2 v2 i
theorem ent_nw_ok (hgo : ∀ (d n : Int) (v : List Int) (d2 n2 : Int) (v2 : List Int) (i : Int), pre_nw d n v d2 n2 v2 i → SemL Try.prog Γ (lp 45 0) (st_nw d n v d2 n2 v2 i) (rs_nw d n v d2 n2 v2 i).1.to (rs_nw d n v d2 n2 v2 i).2) : EntOk Try.prog Γ (lp 45 0) ent_nw := LEnt.by_ok fun ⟨(_, _, i, _), ((d, n, v, _), (d2, n2, v2, _), _), _⟩ _ _ h_ => SemL.br (out := rs_nw d n v d2 n2 v2 i) (Tr.run_ite rfl rfl) (hgo d n v d2 n2 v2 i) h_
theorem nw_go (d n : Int) (v : List Int) (d2 n2 : Int) (v2 : List Int) (i : Int) (h : pre_nw d n v d2 n2 v2 i) : SemL Try.prog Γ (lp 45 0) (st_nw d n v d2 n2 v2 i) (rs_nw d n v d2 n2 v2 i).1.to (rs_nw d n v d2 n2 v2 i).2 := by
 obtain ⟨rfl, hc, hl⟩ := h
 have hlt : ∀ i : Nat, i < v.length → (bif decide ((i : Int) < (Nat.cast v.length : Int)) then decide ((i : Int) < (Nat.cast v2.length : Int)) else false) = true := fun i hi => by
  rw [decide_eq_true (by omega : (i : Int) < (Nat.cast v.length : Int)), decide_eq_true (by omega : (i : Int) < (Nat.cast v2.length : Int))]; rfl
 refine SemL.scan v.length 0 (Nat.zero_le _) (fun i => st_nw d n v d2 n2 v2 (i : Nat)) (fun i => v.getD i 0 == v2.getD i 0) _ ?_ ?_ ?_
 · intro i _ hi hb hp
   refine rn_nw_c d n v d2 n2 v2 i (e := .normal) ?_
   have hp' : (v.getD i 0 != v2.getD i 0) = false := by simpa using hp
   rw [rn_nw_eq, wrap_succ hi hc, hlt i hi, decide_eq_true (by omega : (0 : Int) ≤ (i : Int) ∧ (i : Int) < (Nat.cast v.length : Int)), decide_eq_true (by omega : (0 : Int) ≤ (i : Int) ∧ (i : Int) < (Nat.cast v2.length : Int)), Int.toNat_natCast, hp']
   rfl
 · intro i _ hi hb hp
   have hp' : (v.getD i 0 != v2.getD i 0) = true := by simpa using hp
   have hne : ¬ eqL v v2 = true := fun he => by obtain rfl := eqL_iff.1 he; simp at hp
   have hlex : lexC v v2 = sgn (v.getD i 0) (v2.getD i 0) := by
    rw [lexC_drop (i := i) (by omega) (fun j hj => by
     have := hb j (Nat.zero_le _) hj
     unfold lexP
     rw [decide_eq_true (by omega : j < v2.length), decide_eq_true (sgn_zero.2 (by simpa using this))]; rfl), drop_cons hi, drop_cons (show i < v2.length by omega)]
    simp only [lexC]
    rw [if_pos (fun h0 => by rw [sgn_zero.1 h0] at hp'; simp at hp')]
   unfold rs_nw
   rw [if_neg hne]
   refine ⟨by simp [Ex.to], ?_⟩
   have e : decide (lexC v v2 > 0) = decide (v.getD i 0 > v2.getD i 0) := by
    rw [hlex]
    by_cases h : v.getD i 0 > v2.getD i 0
    · rw [decide_eq_true h, decide_eq_true (sgn_pos.2 h)]
    · rw [decide_eq_false h, decide_eq_false (fun h2 => h (sgn_pos.1 h2))]
   rw [e]
   refine rn_nw_c d n v d2 n2 v2 i (e := .ret) ?_
   rw [rn_nw_eq, hlt i hi, decide_eq_true (by omega : (0 : Int) ≤ (i : Int) ∧ (i : Int) < (Nat.cast v.length : Int)), decide_eq_true (by omega : (0 : Int) ≤ (i : Int) ∧ (i : Int) < (Nat.cast v2.length : Int)), Int.toNat_natCast, hp']
   rfl
 · intro hb
   unfold rs_nw
   rw [if_pos (eqL_iff.2 (eq_of_at hl (fun i hi => hb i (Nat.zero_le _) hi)))]
   refine ⟨by simp [Ex.to], rn_nw_c d n v d2 n2 v2 v.length (e := .exit 0) ?_⟩
   rw [rn_nw_eq, show (bif decide ((v.length : Int) < (Nat.cast v.length : Int)) then decide ((v.length : Int) < (Nat.cast v2.length : Int)) else false) = false by rw [decide_eq_false (by omega)]; rfl]
   rfl
def lo17 : LOrc := (LOrc.add (LOrc.add (LOrc.add lo15 41 0 ent_vc) 43 0 ent_pr) 45 0 ent_nw)
theorem lo17_ok : LOrcOk Try.prog Γ lo17 := (LOrcOk.add (LOrcOk.add (LOrcOk.add lo15_ok 41 0 Try.func41 bd_vc le_vc (ent_vc_ok vc_go)) 43 0 Try.func43 bd_pr le_pr (ent_pr_ok pr_go)) 45 0 Try.func45 bd_nw le_nw (ent_nw_ok nw_go))
noncomputable def cfg18 : Cfg := cfgQ o25 lo17
theorem cfg18_ok : CfgOk Try.prog Γ cfg18 := cfgQ_ok o25_ok lo17_ok
theorem c41_run (c : Int) (ds : List Int) : runL cfg18 41 [.agg [.si .i64 c, .slst .ro ity ds]] = .ok (some ((bif !bif decide (c ≥ (2 : Int)) then decide (c ≤ (4 : Int)) else false then true else !bif decide ((ds.length : Int) ≥ (1 : Int)) then decide ((ds.length : Int) ≤ (12 : Int)) else false) || decide (pre_vc c ds (0 : Int)))) (V.sb (bif bif !bif decide (c ≥ (2 : Int)) then decide (c ≤ (4 : Int)) else false then true else !bif decide ((ds.length : Int) ≥ (1 : Int)) then decide ((ds.length : Int) ≤ (12 : Int)) else false then false else bif decide (ds.all okV = true) then true else false)) := by kernel_rfl
theorem c43_run (c : Int) (ds : List Int) (d n : Int) (v : List Int) : runL cfg18 43 [.agg [.si .i64 c, .slst .ro ity ds], .agg [.si .i64 d, .si .i64 n, .slst .ro ity v]] = .ok (some ((bif !bif decide (d ≥ (0 : Int)) then decide (d ≤ IntKind.i64.wrap ((ds.length : Int) - (1 : Int))) else false then true else bif !bif decide (n ≥ (1 : Int)) then decide (n ≤ (1000 : Int)) else false then true else (v.length : Int) != c) || decide (pre_pr c ds d n v (0 : Int) (0 : Int)) && (!decide (v.all okV = true) || decide ((0 : Int) ≤ d ∧ d < (ds.length : Int))))) (V.sb (bif bif !bif decide (d ≥ (0 : Int)) then decide (d ≤ IntKind.i64.wrap ((ds.length : Int) - (1 : Int))) else false then true else bif !bif decide (n ≥ (1 : Int)) then decide (n ≤ (1000 : Int)) else false then true else (v.length : Int) != c then false else bif decide (v.all okV = true) then decide (v.sum ≤ ds.getD d.toNat (0 : Int)) else false)) := by kernel_rfl
theorem c45_run (d n : Int) (v : List Int) (d2 n2 : Int) (v2 : List Int) : runL cfg18 45 [.agg [.si .i64 d, .si .i64 n, .slst .ro ity v], .agg [.si .i64 d2, .si .i64 n2, .slst .ro ity v2]] = .ok (some (n != n2 || decide (pre_nw d n v d2 n2 v2 (0 : Int)))) (V.sb (bif n != n2 then decide (n > n2) else bif decide (eqL v v2 = true) then false else decide (lexC v v2 > (0 : Int)))) := by kernel_rfl
theorem c44_run (d n : Int) (v : List Int) : runL cfg18 44 [.agg [.si .i64 d, .si .i64 n, .slst .ro ity v]] = .ok (some (decide (v.length * 2 * (8 : Nat) ≤ 281474976710656))) (V.agg [V.si .i64 d, V.si .i64 n, V.slst .ro ity (List.take v.length (List.drop (0) v))]) := by kernel_rfl
end T
end Go.Proofs.Ytofbchcclkejgaa

/- Package tally: the reference: contracts; loops of Valid, Add, Contest, All. -/
set_option linter.unusedVariables false
set_option linter.unusedSimpArgs false
set_option maxRecDepth 100000
set_option maxHeartbeats 4000000
namespace Go.Proofs.Ytofbchcclkejgaa
open Go
namespace T
theorem ge_bif (a b k : Int) : (bif decide (k ≥ a) then decide (k ≤ b) else false) = decide (a ≤ k ∧ k ≤ b) := by
 by_cases h1 : a ≤ k <;> by_cases h2 : k ≤ b <;> simp [h1, h2]
theorem c41_ok (c : Int) (ds : List Int) : SemF Try.prog Γ 41 [.agg [.si .i64 c, .slst .ro ity ds]] [] [] (.sb (validC c ds)) [] [] := by
 have e2 : decide ((1 : Int) ≤ (Nat.cast ds.length : Int) ∧ (Nat.cast ds.length : Int) ≤ 12) = decide (1 ≤ ds.length ∧ ds.length ≤ 12) := by congr 1; apply propext; omega
 refine of_runL cfg18_ok (c41_run c ds) ?_ ?_
 · rw [ge_bif, ge_bif, e2]
   by_cases h : 1 ≤ ds.length ∧ ds.length ≤ 12
   · rw [decide_eq_true (show pre_vc c ds 0 from ⟨rfl, by omega⟩), Bool.or_true]; rfl
   · rw [decide_eq_false h]
     cases decide (2 ≤ c ∧ c ≤ 4) <;> rfl
 · rw [ge_bif, ge_bif, e2]
   unfold validC
   cases decide (2 ≤ c ∧ c ≤ 4) <;> cases decide (1 ≤ ds.length ∧ ds.length ≤ 12) <;> cases ds.all okV <;> rfl
theorem c43_ok (c : Int) (ds : List Int) (d n : Int) (v : List Int) (h : ds.length ≤ 1000000 ∧ v.length ≤ 1000000) : SemF Try.prog Γ 43 [.agg [.si .i64 c, .slst .ro ity ds], .agg [.si .i64 d, .si .i64 n, .slst .ro ity v]] [] [] (.sb (properD c ds d n v)) [] [] := by
 have hw : IntKind.i64.wrap ((Nat.cast (ds.length) : Int) - (1 : Int)) = (ds.length : Int) - 1 := by rw [wrap_in] <;> omega
 have e1 : decide (0 ≤ d ∧ d ≤ (ds.length : Int) - 1) = decide (0 ≤ d ∧ d < (ds.length : Int)) := by congr 1; apply propext; omega
 have e2 : ((Nat.cast v.length : Int) != c) = !decide ((v.length : Int) = c) := by
  by_cases hc : (v.length : Int) = c <;> simp [hc]
 have hp : decide (pre_pr c ds d n v 0 0) = true := decide_eq_true ⟨rfl, rfl, h.2⟩
 refine of_runL cfg18_ok (c43_run c ds d n v) ?_ ?_
 · rw [hw, ge_bif, ge_bif, e1, e2, hp]
   cases decide (0 ≤ d ∧ d < (ds.length : Int)) <;> cases decide (1 ≤ n ∧ n ≤ 1000) <;> cases decide ((v.length : Int) = c) <;> cases decide (v.all okV = true) <;> rfl
 · rw [hw, ge_bif, ge_bif, e1, e2]
   unfold properD
   cases decide (0 ≤ d ∧ d < (ds.length : Int)) <;> cases decide (1 ≤ n ∧ n ≤ 1000) <;> cases decide ((v.length : Int) = c) <;> cases v.all okV <;> rfl
theorem c45_ok (d n : Int) (v : List Int) (d2 n2 : Int) (v2 : List Int) (h : v.length ≤ 1000000 ∧ v2.length = v.length) : SemF Try.prog Γ 45 [.agg [.si .i64 d, .si .i64 n, .slst .ro ity v], .agg [.si .i64 d2, .si .i64 n2, .slst .ro ity v2]] [] [] (.sb (decide (cmpD n v n2 v2 > 0))) [] [] := by
 refine of_runL cfg18_ok (c45_run d n v d2 n2 v2) ?_ ?_
 · rw [decide_eq_true (show pre_nw d n v d2 n2 v2 0 from ⟨rfl, h.1, h.2⟩), Bool.or_true]; rfl
 · congr 1
   unfold cmpD
   by_cases hn : n = n2
   · subst hn
     rw [sgn_zero.2 rfl, show (n != n) = false by simp, if_neg (fun hh => hh rfl)]
     cases he : eqL v v2 with
     | false => rfl
     | true => obtain rfl := eqL_iff.1 he; rw [lexC_self]; rfl
   · have h1 : ¬ sgn n n2 = 0 := fun hh => hn (sgn_zero.1 hh)
     rw [show (n != n2) = true by simpa using hn, if_pos h1]
     show decide (n > n2) = _
     by_cases h2 : n > n2
     · rw [decide_eq_true h2, decide_eq_true (sgn_pos.2 h2)]
     · rw [decide_eq_false h2, decide_eq_false (fun hh => h2 (sgn_pos.1 hh))]
theorem c44_ok (d n : Int) (v : List Int) (h : v.length ≤ 1000000) : SemF Try.prog Γ 44 [.agg [.si .i64 d, .si .i64 n, .slst .ro ity v]] [] [] (.agg [.si .i64 d, .si .i64 n, .slst .ro ity v]) [] [] := by
 have hr := of_runL cfg18_ok (c44_run d n v) (by rw [decide_eq_true (by omega : v.length * 2 * 8 ≤ 281474976710656)]; rfl) rfl
 have e : List.take v.length (List.drop 0 v) = v := by rw [List.drop_zero, List.take_length]
 exact (congrArg (fun z : List Int => SemF Try.prog Γ 44 [.agg [.si .i64 d, .si .i64 n, .slst .ro ity v]] [] [] (.agg [.si .i64 d, .si .i64 n, .slst .ro ity z]) [] []) e).mp hr
noncomputable def gg_o41 (c : Int) (ds : List Int) : Option Bool × V := (none, .sb (validC c ds))
noncomputable def o41 : Orc := fun f args => if f = 41 then (Ty.ofVs [conT] args).map (fun x => gg_o41 x.1.1 x.1.2.1) else o25 f args
theorem o41_ok : OrcOk Try.prog Γ o41 := o25_ok.plain 41 [conT] (fun x => gg_o41 x.1.1 x.1.2.1) Try.f41 Try.func41 rfl (by kernel_rfl) (fun x h => (fun c ds => c41_ok c ds) x.1.1 x.1.2.1)
noncomputable def gg_o43 (c : Int) (ds : List Int) (d n : Int) (v : List Int) : Option Bool × V := (some (decide (ds.length ≤ 1000000 ∧ v.length ≤ 1000000)), .sb (properD c ds d n v))
theorem gg_o43_c (c : Int) (ds : List Int) (d n : Int) (v : List Int) (h : (gg_o43 c ds d n v).1.getD true = true) : ds.length ≤ 1000000 ∧ v.length ≤ 1000000 := of_decide_eq_true h
noncomputable def o43 : Orc := fun f args => if f = 43 then (Ty.ofVs [conT, retT] args).map (fun x => gg_o43 x.1.1 x.1.2.1 x.2.1.1 x.2.1.2.1 x.2.1.2.2.1) else o41 f args
theorem o43_ok : OrcOk Try.prog Γ o43 := o41_ok.plain 43 [conT, retT] (fun x => gg_o43 x.1.1 x.1.2.1 x.2.1.1 x.2.1.2.1 x.2.1.2.2.1) Try.f43 Try.func43 rfl (by kernel_rfl) (fun x h => c43_ok x.1.1 x.1.2.1 x.2.1.1 x.2.1.2.1 x.2.1.2.2.1 (gg_o43_c x.1.1 x.1.2.1 x.2.1.1 x.2.1.2.1 x.2.1.2.2.1 h))
noncomputable def gg_o45 (d n : Int) (v : List Int) (d2 n2 : Int) (v2 : List Int) : Option Bool × V := (some (decide (v.length ≤ 1000000 ∧ v2.length = v.length)), .sb (decide (cmpD n v n2 v2 > 0)))
theorem gg_o45_c (d n : Int) (v : List Int) (d2 n2 : Int) (v2 : List Int) (h : (gg_o45 d n v d2 n2 v2).1.getD true = true) : v.length ≤ 1000000 ∧ v2.length = v.length := of_decide_eq_true h
noncomputable def o45 : Orc := fun f args => if f = 45 then (Ty.ofVs [retT, retT] args).map (fun x => gg_o45 x.1.1 x.1.2.1 x.1.2.2.1 x.2.1.1 x.2.1.2.1 x.2.1.2.2.1) else o43 f args
theorem o45_ok : OrcOk Try.prog Γ o45 := o43_ok.plain 45 [retT, retT] (fun x => gg_o45 x.1.1 x.1.2.1 x.1.2.2.1 x.2.1.1 x.2.1.2.1 x.2.1.2.2.1) Try.f45 Try.func45 rfl (by kernel_rfl) (fun x h => c45_ok x.1.1 x.1.2.1 x.1.2.2.1 x.2.1.1 x.2.1.2.1 x.2.1.2.2.1 (gg_o45_c x.1.1 x.1.2.1 x.1.2.2.1 x.2.1.1 x.2.1.2.1 x.2.1.2.2.1 h))
noncomputable def gg_o44 (d n : Int) (v : List Int) : Option Bool × V := (some (decide (v.length ≤ 1000000)), .agg [.si .i64 d, .si .i64 n, .slst .ro ity v])
theorem gg_o44_c (d n : Int) (v : List Int) (h : (gg_o44 d n v).1.getD true = true) : v.length ≤ 1000000 := of_decide_eq_true h
noncomputable def o44 : Orc := fun f args => if f = 44 then (Ty.ofVs [retT] args).map (fun x => gg_o44 x.1.1 x.1.2.1 x.1.2.2.1) else o45 f args
theorem o44_ok : OrcOk Try.prog Γ o44 := o45_ok.plain 44 [retT] (fun x => gg_o44 x.1.1 x.1.2.1 x.1.2.2.1) Try.f44 Try.func44 rfl (by kernel_rfl) (fun x h => c44_ok x.1.1 x.1.2.1 x.1.2.2.1 (gg_o44_c x.1.1 x.1.2.1 x.1.2.2.1 h))
noncomputable def cfg19 : Cfg := cfgQ o44 lo17
theorem cfg19_ok : CfgOk Try.prog Γ cfg19 := cfgQ_ok o44_ok lo17_ok
def hp_vr : HP := { n := 44, lv := [1, 3], sp := [.ptr 0 0, .ty ity], op := [.cells [.ty ity, .ty (.slice ity), .ty (.slice retT)]], bp := [] }
def lve_vr : Ex → List Nat
 | .normal => [1, 3]
 | .ret => [2]
 | .exit 0 => []
 | _ => []
theorem bd_vr : Try.f23.body = some (root 23) := by kernel_rfl
theorem le_vr : (loops (root 23))[0]? = some (lp 23 0) := by kernel_rfl
theorem li_vr : Lies (root 23) 1 (lp 23 0) := Lies.of_take (n := 0) (by kernel_rfl)
def st_vr (c : Int) (ds : List Int) (rs : List (Ty.den retT)) (i : Int) : St := hp_vr.st ⟨((), i, ()), ((c, ds, rs, ()), ()), ()⟩
noncomputable def rn_vr (c : Int) (ds : List Int) (rs : List (Ty.den retT)) (i : Int) := outa lve_vr (evCK Try.prog Γ (cfM Try.prog Γ cfg19 30) (cfg19.lo 23) [43] 60 1 (lp 23 0) (st_vr c ds rs i))
theorem rn_vr_eq (c : Int) (ds : List Int) (rs : List (Ty.den retT)) (i : Int) : (rn_vr c ds rs i).run = (bif decide (i < (rs.length : Int)) then (bif (some (decide ((0 : Int) ≤ i ∧ i < (rs.length : Int)) && (decide (ds.length ≤ 1000000 ∧ List.length (rV (rs.getD i.toNat retT.dflt)) ≤ 1000000) && (!properD c ds (rD (rs.getD i.toNat retT.dflt)) (rN (rs.getD i.toNat retT.dflt)) (rV (rs.getD i.toNat retT.dflt)) || (!decide (i > (0 : Int)) || decide ((0 : Int) ≤ i ∧ i < (rs.length : Int)) && decide ((0 : Int) ≤ IntKind.i64.wrap (i - (1 : Int)) ∧ IntKind.i64.wrap (i - (1 : Int)) < (rs.length : Int))))))).getD true then (bif bif !properD c ds (rD (rs.getD i.toNat retT.dflt)) (rN (rs.getD i.toNat retT.dflt)) (rV (rs.getD i.toNat retT.dflt)) then true else bif decide (i > (0 : Int)) then decide ((rD (rs.getD i.toNat retT.dflt)) ≤ (rD (rs.getD (IntKind.i64.wrap (i - (1 : Int))).toNat retT.dflt))) else false then (some ((Ex.ret, [V.b false], [], [], 44, 0, 0))) else (some ((Ex.normal, [V.ptr 0 0, V.si .i64 (IntKind.i64.wrap (i + (1 : Int)))], [some [V.si .i64 c, V.slst .ro ity ds, V.slst .ro retT rs]], [], 44, 0, 0)))) else none) else (some ((Ex.exit 0, [], [], [], 44, 0, 0)))) := by kernel_rfl
theorem rn_vr_c (c : Int) (ds : List Int) (rs : List (Ty.den retT)) (i : Int) {e : Ex} {vs : List V} {ob : Ob} {nm : Nm} {n' kh kt : Nat} (h : (rn_vr c ds rs i).run = some (e, vs, ob, nm, n', kh, kt)) : SemC Try.prog Γ (lp 23 0) (st_vr c ds rs i) e.to (St.of n' (lve_vr e) vs ob nm kh kt) := SemC.of_evM cfg19_ok Try.func23 bd_vr li_vr h
theorem c13_run (c : Int) (ds : List Int) : runL cfg19 13 [.agg [.si .i64 c, .slst .ro ity ds]] = .ok (some (!validC c ds || decide (ds.length * 2 * (8 : Nat) ≤ 281474976710656))) (V.tup [V.agg [V.si .i64 (bif !validC c ds then (0 : Int) else c), V.slst .ro ity (bif !validC c ds then [] else List.take ds.length (List.drop (0) ds)), V.lst .ro []], V.si .i64 (bif !validC c ds then (270 : Int) else (0 : Int))]) := by kernel_rfl
def hp_a1 : HP := { n := 92, lv := [2, 3, 4, 6, 7, 8, 9, 10], sp := [.ptr 0 0, .ptr 1 0, .ptr 2 0, .ptr 3 0, .ty ity, .ptr 4 0, .ty ity, .ty ity], op := [.cells [.ty ity, .ty (.slice ity), .ty (.slice retT)], .cells [.ty ity, .ty ity, .ty (.slice ity)], .cells [.ci 0, .nl, .nl], .cells [.ty ity, .bz 0, .bz 1], .cells [.ty ity, .ty ity, .ty (.slice ity)]], bp := [.arr ity, .arr retT], bo := [(3, 2, retT)] }
def lve_a1 : Ex → List Nat
 | .normal => [2, 3, 4, 6, 7, 8, 9, 10]
 | .exit 2 => [2, 3, 4, 6, 7, 8, 9]
 | _ => []
theorem bd_a1 : Try.f15.body = some (root 15) := by kernel_rfl
theorem le_a1 : (loops (root 15))[1]? = some (lp 15 1) := by kernel_rfl
theorem li_a1 : Lies (root 15) 2 (lp 15 1) := Lies.of_take (n := 0) (by kernel_rfl)
def st_a1 (c : Int) (ds : List Int) (rs : List (Ty.den retT)) (d n : Int) (v : List Int) (c2 : Int) (j0 j : Nat) (bd bn : Int) (bv : List Int) (er q i : Int) (b0 : List Int) (o : List (Ty.den retT)) : St := hp_a1.st ⟨((), (), (), (), er, (), q, i, ()), ((c, ds, rs, ()), (d, n, v, ()), ((), (), (), ()), (c2, j0, j, ()), (bd, bn, bv, ()), ()), (b0, o, ())⟩
noncomputable def rn_a1 (c : Int) (ds : List Int) (rs : List (Ty.den retT)) (d n : Int) (v : List Int) (c2 : Int) (j0 j : Nat) (bd bn : Int) (bv : List Int) (er q i : Int) (b0 : List Int) (o : List (Ty.den retT)) := outa lve_a1 (evCK Try.prog Γ (cfM Try.prog Γ cfg19 30) (cfg19.lo 15) [] 60 2 (lp 15 1) (st_a1 c ds rs d n v c2 j0 j bd bn bv er q i b0 o))
theorem rn_a1_eq (c : Int) (ds : List Int) (rs : List (Ty.den retT)) (d n : Int) (v : List Int) (c2 : Int) (j0 j : Nat) (bd bn : Int) (bv : List Int) (er q i : Int) (b0 : List Int) (o : List (Ty.den retT)) : (rn_a1 c ds rs d n v c2 j0 j bd bn bv er q i b0 o).run = (bif decide (i < (rs.length : Int)) then (bif decide ((0 : Int) ≤ i ∧ i < (rs.length : Int)) then (bif (rD (rs.getD i.toNat retT.dflt)) != q then (some ((Ex.normal, [V.ptr 0 0, V.ptr 1 0, V.ptr 2 0, V.ptr 3 0, V.si .i64 er, V.ptr 4 0, V.si .i64 q, V.si .i64 (IntKind.i64.wrap (i + (1 : Int)))], [some [V.si .i64 c, V.slst .ro ity ds, V.slst .ro retT rs], some [V.si .i64 d, V.si .i64 n, V.slst .ro ity v], some [V.i .i64 (0 : Int), V.lst .full [], V.lst .full []], some [V.si .i64 c2, V.bs true 0 0 j0, V.bs true 1 0 j], some [V.si .i64 bd, V.si .i64 bn, V.slst .ro ity bv]], [some (Bf.live (.arr ity b0)), some (Bf.live (.arr retT o))], 92, 0, 0))) else (bif q != d then (bif decide ((0 : Int) ≤ i ∧ i < (rs.length : Int)) then (bif decide (List.length (rV (rs.getD i.toNat retT.dflt)) ≤ 1000000) then (bif decide ((j + 1) * 2 * 40 ≤ 281474976710656) then (some ((Ex.normal, [V.ptr 0 0, V.ptr 1 0, V.ptr 2 0, V.ptr 3 0, V.si .i64 er, V.ptr 4 0, V.si .i64 q, V.si .i64 (IntKind.i64.wrap (i + (1 : Int)))], [some [V.si .i64 c, V.slst .ro ity ds, V.slst .ro retT rs], some [V.si .i64 d, V.si .i64 n, V.slst .ro ity v], some [V.i .i64 (0 : Int), V.lst .full [], V.lst .full []], some [V.si .i64 c2, V.bs true 0 0 j0, V.bs true 1 0 (j + (1 : Nat))], some [V.si .i64 bd, V.si .i64 bn, V.slst .ro ity bv]], [some (Bf.live (.arr ity b0)), some (Bf.live (.arr retT (List.take j (List.drop (0) o) ++ [(rs.getD i.toNat retT.dflt)])))], 92, 0, 0))) else none) else none) else none) else (bif decide ((0 : Int) ≤ i ∧ i < (rs.length : Int)) then (bif decide (List.length (rV (rs.getD i.toNat retT.dflt)) ≤ 1000000 ∧ v.length = List.length (rV (rs.getD i.toNat retT.dflt))) then (bif decide (cmpD (rN (rs.getD i.toNat retT.dflt)) (rV (rs.getD i.toNat retT.dflt)) n v > (0 : Int)) then (bif decide ((0 : Int) ≤ i ∧ i < (rs.length : Int)) then (some ((Ex.normal, [V.ptr 0 0, V.ptr 1 0, V.ptr 2 0, V.ptr 3 0, V.si .i64 er, V.ptr 4 0, V.si .i64 q, V.si .i64 (IntKind.i64.wrap (i + (1 : Int)))], [some [V.si .i64 c, V.slst .ro ity ds, V.slst .ro retT rs], some [V.si .i64 d, V.si .i64 n, V.slst .ro ity v], some [V.i .i64 (0 : Int), V.lst .full [], V.lst .full []], some [V.si .i64 c2, V.bs true 0 0 j0, V.bs true 1 0 j], some [V.si .i64 (rD (rs.getD i.toNat retT.dflt)), V.si .i64 (rN (rs.getD i.toNat retT.dflt)), V.slst .ro ity (rV (rs.getD i.toNat retT.dflt))]], [some (Bf.live (.arr ity b0)), some (Bf.live (.arr retT o))], 92, 0, 0))) else none) else (some ((Ex.normal, [V.ptr 0 0, V.ptr 1 0, V.ptr 2 0, V.ptr 3 0, V.si .i64 er, V.ptr 4 0, V.si .i64 q, V.si .i64 (IntKind.i64.wrap (i + (1 : Int)))], [some [V.si .i64 c, V.slst .ro ity ds, V.slst .ro retT rs], some [V.si .i64 d, V.si .i64 n, V.slst .ro ity v], some [V.i .i64 (0 : Int), V.lst .full [], V.lst .full []], some [V.si .i64 c2, V.bs true 0 0 j0, V.bs true 1 0 j], some [V.si .i64 bd, V.si .i64 bn, V.slst .ro ity bv]], [some (Bf.live (.arr ity b0)), some (Bf.live (.arr retT o))], 92, 0, 0)))) else none) else none))) else none) else (some ((Ex.exit 2, [V.ptr 0 0, V.ptr 1 0, V.ptr 2 0, V.ptr 3 0, V.si .i64 er, V.ptr 4 0, V.si .i64 q], [some [V.si .i64 c, V.slst .ro ity ds, V.slst .ro retT rs], some [V.si .i64 d, V.si .i64 n, V.slst .ro ity v], some [V.i .i64 (0 : Int), V.lst .full [], V.lst .full []], some [V.si .i64 c2, V.bs true 0 0 j0, V.bs true 1 0 j], some [V.si .i64 bd, V.si .i64 bn, V.slst .ro ity bv]], [some (Bf.live (.arr ity b0)), some (Bf.live (.arr retT o))], 92, 0, 0)))) := by kernel_rfl
theorem rn_a1_c (c : Int) (ds : List Int) (rs : List (Ty.den retT)) (d n : Int) (v : List Int) (c2 : Int) (j0 j : Nat) (bd bn : Int) (bv : List Int) (er q i : Int) (b0 : List Int) (o : List (Ty.den retT)) {e : Ex} {vs : List V} {ob : Ob} {nm : Nm} {n' kh kt : Nat} (h : (rn_a1 c ds rs d n v c2 j0 j bd bn bv er q i b0 o).run = some (e, vs, ob, nm, n', kh, kt)) : SemC Try.prog Γ (lp 15 1) (st_a1 c ds rs d n v c2 j0 j bd bn bv er q i b0 o) e.to (St.of n' (lve_a1 e) vs ob nm kh kt) := SemC.of_evM cfg19_ok Try.func15 bd_a1 li_a1 h
def hp_cn : HP := { n := 33, lv := [1, 4, 5, 6], sp := [.ty (.slice ity), .ptr 0 0, .ptr 1 0, .ty ity], op := [.cells [.ci 0, .nl], .cells [.ty ity, .bz 0]], bp := [.arr ity] }
def lve_cn : Ex → List Nat
 | .normal => [1, 4, 5, 6]
 | .exit 0 => [4, 5]
 | _ => []
theorem bd_cn : Try.f34.body = some (root 34) := by kernel_rfl
theorem li_cn : Lies (root 34) 1 (lp 34 0) := Lies.of_take (n := 0) (by kernel_rfl)
def st_cn (x : List Int) (c : Int) (j : Nat) (i : Int) (b : List Int) : St := hp_cn.st ⟨(x, (), (), i, ()), (((), (), ()), (c, j, ()), ()), (b, ())⟩
noncomputable def rn_cn (x : List Int) (c : Int) (j : Nat) (i : Int) (b : List Int) := outa lve_cn (evCK Try.prog Γ (cfM Try.prog Γ cfg19 30) (cfg19.lo 34) [19] 60 1 (lp 34 0) (st_cn x c j i b))
theorem rn_cn_eq (x : List Int) (c : Int) (j : Nat) (i : Int) (b : List Int) : (rn_cn x c j i b).run = (bif bif decide (i < (x.length : Int)) then decide (i < (8 : Int)) else false then (bif decide ((0 : Int) ≤ i ∧ i < (x.length : Int)) then (bif decide (inr (x.getD i.toNat (0 : Int)) = true ∧ (120 : Int) ≠ (0 : Int)) then (bif decide ((j + 1) * 2 * 8 ≤ 281474976710656) then (some ((Ex.normal, [V.slst .ro ity x, V.ptr 0 0, V.ptr 1 0, V.si .i64 (IntKind.i64.wrap (i + (1 : Int)))], [some [V.i .i64 (0 : Int), V.lst .full []], some [V.si .i64 c, V.bs true 0 0 (j + (1 : Nat))]], [some (Bf.live (.arr ity (List.take j (List.drop (0) b) ++ [pickD (x.getD i.toNat (0 : Int)) (120 : Int)])))], 33, 0, 0))) else none) else none) else none) else (some ((Ex.exit 0, [V.ptr 0 0, V.ptr 1 0], [some [V.i .i64 (0 : Int), V.lst .full []], some [V.si .i64 c, V.bs true 0 0 j]], [some (Bf.live (.arr ity b))], 33, 0, 0)))) := by kernel_rfl
theorem rn_cn_c (x : List Int) (c : Int) (j : Nat) (i : Int) (b : List Int) {e : Ex} {vs : List V} {ob : Ob} {nm : Nm} {n' kh kt : Nat} (h : (rn_cn x c j i b).run = some (e, vs, ob, nm, n', kh, kt)) : SemC Try.prog Γ (lp 34 0) (st_cn x c j i b) e.to (St.of n' (lve_cn e) vs ob nm kh kt) := SemC.of_evM cfg19_ok Try.func34 bd_cn li_cn h
abbrev pre_vr (c : Int) (ds : List Int) (rs : List (Ty.den retT)) (i : Int) : Prop := i = 0 ∧ ds.length ≤ 1000000 ∧ szR rs
def rs_vr (c : Int) (ds : List Int) (rs : List (Ty.den retT)) (i : Int) : Ex × St := if validR c ds rs = true then (.exit 0, St.of 44 (lve_vr (.exit 0)) [] [] [] hp_vr.kh hp_vr.kt) else (.ret, St.of 44 (lve_vr (.ret)) [.b false] [] [] hp_vr.kh hp_vr.kt)
def res_vr (c : Int) (ds : List Int) (rs : List (Ty.den retT)) (i : Int) : Tr (Ex × St) := .br (decide (pre_vr c ds rs i)) (.br (decide (validR c ds rs = true)) (.leaf (some (.exit 0, St.of 44 (lve_vr (.exit 0)) [] [] [] hp_vr.kh hp_vr.kt))) (.leaf (some (.ret, St.of 44 (lve_vr (.ret)) [.b false] [] [] hp_vr.kh hp_vr.kt)))) (.leaf none)
def ent_vr : LEnt := LEnt.by hp_vr fun ⟨(_, i, _), ((c, ds, rs, _), _), _⟩ => res_vr c ds rs i
theorem ent_vr_ok (hgo : ∀ (c : Int) (ds : List Int) (rs : List (Ty.den retT)) (i : Int), pre_vr c ds rs i → SemL Try.prog Γ (lp 23 0) (st_vr c ds rs i) (rs_vr c ds rs i).1.to (rs_vr c ds rs i).2) : EntOk Try.prog Γ (lp 23 0) ent_vr := LEnt.by_ok fun ⟨(_, i, _), ((c, ds, rs, _), _), _⟩ _ _ h_ => SemL.br (out := rs_vr c ds rs i) (Tr.run_ite rfl rfl) (hgo c ds rs i) h_
theorem vr_go (c : Int) (ds : List Int) (rs : List (Ty.den retT)) (i : Int) (h : pre_vr c ds rs i) : SemL Try.prog Γ (lp 23 0) (st_vr c ds rs i) (rs_vr c ds rs i).1.to (rs_vr c ds rs i).2 := by
 obtain ⟨rfl, hd, hc, hv⟩ := h
 have eq0 : ∀ i : Nat, i < rs.length → (rn_vr c ds rs i).run = (bif vaR c ds rs i then (some (Ex.normal, [V.ptr 0 0, V.si IntKind.i64 ((i + 1 : Nat) : Int)], [some [V.si IntKind.i64 c, V.slst Tag.ro ity ds, V.slst Tag.ro retT rs]], [], (44 : Nat), (0 : Nat), (0 : Nat))) else (some (Ex.ret, [V.b false], [], [], (44 : Nat), (0 : Nat), (0 : Nat)))) := by
  intro i hi
  have hx := hv _ (getD_mem retT.dflt hi)
  rw [rn_vr_eq, wrap_succ hi hc, decide_eq_true (by omega : (i : Int) < (Nat.cast rs.length : Int)), decide_eq_true (by omega : (0 : Int) ≤ (i : Int) ∧ (i : Int) < (Nat.cast rs.length : Int)), Int.toNat_natCast, decide_eq_true (⟨hd, hx⟩ : ds.length ≤ 1000000 ∧ List.length (rV (rs.getD i retT.dflt)) ≤ 1000000)]
  unfold vaR prR
  generalize properD c ds (rD (rs.getD i retT.dflt)) (rN (rs.getD i retT.dflt)) (rV (rs.getD i retT.dflt)) = p
  by_cases h0 : i = 0
  · subst h0
    cases p <;> simp
  · have hw2 : IntKind.i64.wrap ((i : Int) - 1) = ((i - 1 : Nat) : Int) := by rw [wrap_in (by omega) (by omega)]; omega
    have hgt : decide ((i : Int) > 0) = true := decide_eq_true (by omega)
    rw [hgt, hw2, Int.toNat_natCast, decide_eq_true (by omega : (0 : Int) ≤ ((i - 1 : Nat) : Int) ∧ ((i - 1 : Nat) : Int) < (Nat.cast rs.length : Int))]
    generalize rD (rs.getD (i - 1) retT.dflt) = y
    generalize rD (rs.getD i retT.dflt) = z
    have hi0 : 0 < i := by omega
    by_cases h : y < z
    · have h' : ¬ z ≤ y := by omega
      cases p <;> simp [h, h', hi0]
    · have h' : z ≤ y := by omega
      cases p <;> simp [h, h', hi0]
 refine SemL.scan rs.length 0 (Nat.zero_le _) (fun i => st_vr c ds rs (i : Nat)) (vaR c ds rs) _ ?_ ?_ ?_
 · intro i _ hi hb hp
   refine rn_vr_c c ds rs i (e := .normal) ?_
   rw [eq0 i hi, hp]
   rfl
 · intro i _ hi hb hp
   have hr : ¬ validR c ds rs = true := by unfold validR; rw [allI_false hi hp]; simp
   unfold rs_vr
   rw [if_neg hr]
   refine ⟨by simp [Ex.to], rn_vr_c c ds rs i (e := .ret) ?_⟩
   rw [eq0 i hi, hp]
   rfl
 · intro hb
   have hr : validR c ds rs = true := allI_true.2 fun i hi => hb i (Nat.zero_le _) hi
   unfold rs_vr
   rw [if_pos hr]
   refine ⟨by simp [Ex.to], rn_vr_c c ds rs rs.length (e := .exit 0) ?_⟩
   rw [rn_vr_eq, decide_eq_false (by omega)]
   rfl
abbrev R1 := Ty.den retT
def aStep (d n : Int) (v : List Int) (q : Int) (p : R1 × List R1) (x : R1) : R1 × List R1 := bif rD x != q then p else bif q != d then (p.1, p.2 ++ [x]) else bif decide (cmpD (rN x) (rV x) n v > 0) then (x, p.2) else p
def aIn (d n : Int) (v : List Int) (q : Int) (rs : List R1) (p : R1 × List R1) : R1 × List R1 := rs.foldl (aStep d n v q) p
theorem aIn_take {d n : Int} {v : List Int} {q : Int} {rs : List R1} {p : R1 × List R1} {i : Nat} (hi : i < rs.length) : aIn d n v q (rs.take (i + 1)) p = aStep d n v q (aIn d n v q (rs.take i) p) (rs.getD i retT.dflt) := by
 rw [take_snoc retT.dflt hi, aIn, List.foldl_append]; rfl
theorem aStep_len (d n : Int) (v : List Int) (q : Int) (p : R1 × List R1) (x : R1) : (aStep d n v q p x).2.length ≤ p.2.length + 1 := by
 unfold aStep
 cases rD x != q
 · cases q != d
   · cases decide (cmpD (rN x) (rV x) n v > 0)
     · exact Nat.le_succ _
     · exact Nat.le_succ _
   · show (p.2 ++ [x]).length ≤ _; rw [List.length_append]; exact Nat.le_refl _
 · exact Nat.le_succ _
theorem aIn_len {d n : Int} {v : List Int} {q : Int} {rs : List R1} {p : R1 × List R1} : ∀ i, i ≤ rs.length → (aIn d n v q (rs.take i) p).2.length ≤ p.2.length + i
 | 0, _ => Nat.le_refl _
 | i + 1, hi => by
  have h1 := aIn_len (d := d) (n := n) (v := v) (q := q) (rs := rs) (p := p) i (by omega)
  have h2 := aStep_len d n v q (aIn d n v q (rs.take i) p) (rs.getD i retT.dflt)
  rw [aIn_take (by omega)]
  omega
abbrev oB (p : R1) : Option (List V) := some [.si .i64 (rD p), .si .i64 (rN p), .slst .ro ity (rV p)]
abbrev pre_a1 (c : Int) (ds : List Int) (rs : List (Ty.den retT)) (d n : Int) (v : List Int) (c2 : Int) (j0 j : Nat) (bd bn : Int) (bv : List Int) (er q i : Int) (b0 : List Int) (o : List (Ty.den retT)) : Prop := i = 0 ∧ j = o.length ∧ rs.length ≤ 1000 ∧ o.length ≤ 1000000 ∧ v.length ≤ 1000000 ∧ ∀ r ∈ rs, (rV r).length = v.length
def rs_a1 (c : Int) (ds : List Int) (rs : List (Ty.den retT)) (d n : Int) (v : List Int) (c2 : Int) (j0 j : Nat) (bd bn : Int) (bv : List Int) (er q i : Int) (b0 : List Int) (o : List (Ty.den retT)) : Ex × St := (.exit 2, St.of 92 (lve_a1 (.exit 2)) [.ptr 0 0, .ptr 1 0, .ptr 2 0, .ptr 3 0, .si .i64 er, .ptr 4 0, .si .i64 q] [some [.si .i64 c, .slst .ro ity ds, .slst .ro retT rs], some [.si .i64 d, .si .i64 n, .slst .ro ity v], some [.i .i64 0, .lst .full [], .lst .full []], some [.si .i64 c2, .bs true 0 0 j0, .bs true 1 0 (aIn d n v q rs ((bd, bn, bv, ()), o)).2.length], oB (aIn d n v q rs ((bd, bn, bv, ()), o)).1] [some (.live (.arr ity b0)), some (.live (.arr retT (aIn d n v q rs ((bd, bn, bv, ()), o)).2))] hp_a1.kh hp_a1.kt)
def res_a1 (c : Int) (ds : List Int) (rs : List (Ty.den retT)) (d n : Int) (v : List Int) (c2 : Int) (j0 j : Nat) (bd bn : Int) (bv : List Int) (er q i : Int) (b0 : List Int) (o : List (Ty.den retT)) : Tr (Ex × St) := .br (decide (pre_a1 c ds rs d n v c2 j0 j bd bn bv er q i b0 o)) (.leaf (some (.exit 2, St.of 92 (lve_a1 (.exit 2)) [.ptr 0 0, .ptr 1 0, .ptr 2 0, .ptr 3 0, .si .i64 er, .ptr 4 0, .si .i64 q] [some [.si .i64 c, .slst .ro ity ds, .slst .ro retT rs], some [.si .i64 d, .si .i64 n, .slst .ro ity v], some [.i .i64 0, .lst .full [], .lst .full []], some [.si .i64 c2, .bs true 0 0 j0, .bs true 1 0 (aIn d n v q rs ((bd, bn, bv, ()), o)).2.length], oB (aIn d n v q rs ((bd, bn, bv, ()), o)).1] [some (.live (.arr ity b0)), some (.live (.arr retT (aIn d n v q rs ((bd, bn, bv, ()), o)).2))] hp_a1.kh hp_a1.kt))) (.leaf none)
def ent_a1 : LEnt := LEnt.by hp_a1 fun ⟨(_, _, _, _, er, _, q, i, _), ((c, ds, rs, _), (d, n, v, _), (_, _, _, _), (c2, j0, j, _), (bd, bn, bv, _), _), (b0, o, _)⟩ => res_a1 c ds rs d n v c2 j0 j bd bn bv er q i b0 o
theorem ent_a1_ok (hgo : ∀ (c : Int) (ds : List Int) (rs : List (Ty.den retT)) (d n : Int) (v : List Int) (c2 : Int) (j0 j : Nat) (bd bn : Int) (bv : List Int) (er q i : Int) (b0 : List Int) (o : List (Ty.den retT)), pre_a1 c ds rs d n v c2 j0 j bd bn bv er q i b0 o → SemL Try.prog Γ (lp 15 1) (st_a1 c ds rs d n v c2 j0 j bd bn bv er q i b0 o) (rs_a1 c ds rs d n v c2 j0 j bd bn bv er q i b0 o).1.to (rs_a1 c ds rs d n v c2 j0 j bd bn bv er q i b0 o).2) : EntOk Try.prog Γ (lp 15 1) ent_a1 := LEnt.by_ok fun ⟨(_, _, _, _, er, _, q, i, _), ((c, ds, rs, _), (d, n, v, _), (_, _, _, _), (c2, j0, j, _), (bd, bn, bv, _), _), (b0, o, _)⟩ _ _ h_ => SemL.br (out := rs_a1 c ds rs d n v c2 j0 j bd bn bv er q i b0 o) rfl (hgo c ds rs d n v c2 j0 j bd bn bv er q i b0 o) h_
theorem a1_go (c : Int) (ds : List Int) (rs : List (Ty.den retT)) (d n : Int) (v : List Int) (c2 : Int) (j0 j : Nat) (bd bn : Int) (bv : List Int) (er q i : Int) (b0 : List Int) (o : List (Ty.den retT)) (h : pre_a1 c ds rs d n v c2 j0 j bd bn bv er q i b0 o) :
 SemL Try.prog Γ (lp 15 1) (st_a1 c ds rs d n v c2 j0 j bd bn bv er q i b0 o) (rs_a1 c ds rs d n v c2 j0 j bd bn bv er q i b0 o).1.to (rs_a1 c ds rs d n v c2 j0 j bd bn bv er q i b0 o).2 := by
 obtain ⟨rfl, rfl, hr, ho, hv, hl⟩ := h
 refine SemL.scan rs.length 0 (Nat.zero_le _) (fun i => st_a1 c ds rs d n v c2 j0 (aIn d n v q (rs.take i) ((bd, bn, bv, ()), o)).2.length (rD (aIn d n v q (rs.take i) ((bd, bn, bv, ()), o)).1) (rN (aIn d n v q (rs.take i) ((bd, bn, bv, ()), o)).1) (rV (aIn d n v q (rs.take i) ((bd, bn, bv, ()), o)).1) er q (i : Nat) b0 (aIn d n v q (rs.take i) ((bd, bn, bv, ()), o)).2) (fun _ => true) _ ?_ ?_ ?_
 · intro i _ hi _ _
   have hlen := aIn_len (d := d) (n := n) (v := v) (q := q) (rs := rs) (p := ((bd, bn, bv, ()), o)) i (by omega)
   have hlen : (aIn d n v q (rs.take i) ((bd, bn, bv, ()), o)).2.length ≤ o.length + i := hlen
   have hx := hl _ (getD_mem retT.dflt hi)
   refine rn_a1_c c ds rs d n v c2 j0 _ _ _ _ er q i b0 _ (e := .normal) ?_
   rw [rn_a1_eq, wrap_succ hi (by omega), decide_eq_true (by omega : (i : Int) < (Nat.cast rs.length : Int)), decide_eq_true (by omega : (0 : Int) ≤ (i : Int) ∧ (i : Int) < (Nat.cast rs.length : Int)), Int.toNat_natCast, aIn_take hi]
   generalize aIn d n v q (rs.take i) ((bd, bn, bv, ()), o) = P at hlen ⊢
   unfold aStep
   cases h1 : rD (rs.getD i retT.dflt) != q with
   | true => rfl
   | false =>
    cases h2 : q != d with
    | true =>
     rw [decide_eq_true (by omega : List.length (rV (rs.getD i retT.dflt)) ≤ 1000000), decide_eq_true (by omega : (P.2.length + 1) * 2 * 40 ≤ 281474976710656), List.drop_zero, List.take_length]
     simp only [cond_true, cond_false, List.length_append, List.length_singleton]
     rfl
    | false =>
     rw [decide_eq_true (show List.length (rV (rs.getD i retT.dflt)) ≤ 1000000 ∧ v.length = List.length (rV (rs.getD i retT.dflt)) from ⟨by omega, hx.symm⟩)]
     cases h3 : decide (cmpD (rN (rs.getD i retT.dflt)) (rV (rs.getD i retT.dflt)) n v > 0) <;> rfl
 · intro i _ _ _ hp
   cases hp
 · intro _
   unfold rs_a1
   refine ⟨by simp [Ex.to], rn_a1_c c ds rs d n v c2 j0 _ _ _ _ er q rs.length b0 _ (e := .exit 2) ?_⟩
   rw [rn_a1_eq, decide_eq_false (by omega), List.take_length]
   rfl
def lo18 : LOrc := (LOrc.add (LOrc.add lo17 23 0 ent_vr) 15 1 ent_a1)
theorem lo18_ok : LOrcOk Try.prog Γ lo18 := (LOrcOk.add (LOrcOk.add lo17_ok 23 0 Try.func23 bd_vr le_vr (ent_vr_ok vr_go)) 15 1 Try.func15 bd_a1 le_a1 (ent_a1_ok a1_go))
end T
end Go.Proofs.Ytofbchcclkejgaa

