/- Parts of the library of texts, one after the other: Ev28, K30, K31, K9, K10, K32, K33, K34, K35, Ev29, K36, K37, K38, K11. -/
import Derived.Test.YtnjjkobijjdnbaaM4i
import Derived.Shelf.Sort.Plain
import Derived.Shelf.Slices.In.SortNone
import Derived.Lib.SortBridge
/- The library's sort of integers, as a contract on a buffer. -/
set_option linter.unusedVariables false
set_option linter.unusedSimpArgs false
namespace Go.Proofs.Ytnjjkobijjdnbaa
open Go Go.Sort Go.Proofs

def sortI (l : List Int) : List Int := l.mergeSort fun x y => decide (x ≤ y)
theorem sortI_len (l : List Int) : (sortI l).length = l.length := List.length_mergeSort l
def siL (l : List Int) : List V := l.map fun n => V.si .i64 n
theorem siL_len (l : List Int) : (siL l).length = l.length := List.length_map ..
theorem flat_ints (l : List Int) : flat (siL l) = siL l := by
  induction l with
  | nil => rfl
  | cons x xs ih => simp only [siL, flat, List.map_cons, List.flatMap_cons] at ih ⊢; rw [ih]; rfl
section
variable {P : Program} {Γ : Nat → Option V} {G : Gh} {ob : Ob} {nm : Nm} {w : World}
/-- Cells of a buffer set. -/
theorem WRel.putSet (P : Program) (h : WRel Γ G ob nm w) {n : Nat} {c c' : BC} {x : Tail} (hn : nm[n]? = some (some (.live c))) (hT : G.T n = some x) {off k : Nat} {ys : List V} {vs : List Value} (hp : Put c.sz off k c ys c')
    (hy : ys.length = k) (hyl : ∀ v ∈ ys, v.cells.length = c.sz) (hr : Rels G (flat ys) vs) (h1 : ∀ v ∈ vs, v.oneCell' = true) (hl : off + k ≤ x.len) :
    WRel Γ G ob (nm.set n (some (.live c'))) (w.setCells x.b (x.lo + off * x.sz) vs) := by
  obtain ⟨w', g1, g2⟩ := h.put (P := P) hn hT hp hy hyl hr h1 hl
  have B := h.hnm n c x hn hT
  obtain ⟨cvs, E, fr, e1, e2, e3, e4⟩ := B.row
  have hyl' : ∀ v ∈ ys, v.cells.length = x.sz := fun v hv => (hyl v hv).trans B.sz.symm
  have hvl : vs.length = k * x.sz := hr.1.trans (by rw [flat_length hyl', hy])
  have hle : off * x.sz + k * x.sz ≤ x.cap * x.sz := by rw [← Nat.add_mul]; exact Nat.mul_le_mul_right _ (Nat.le_trans hl B.cap)
  have hb : ∀ j, j < vs.length → x.lo + off * x.sz + 0 + j < cvs.size := fun j hj => by omega
  have e := run_storeCells_cells (P := P) x.b (x.lo + off * x.sz) vs 0 w (fun j hj => by rw [cell_row e1, Array.getElem?_eq_getElem (hb j hj)]; rfl) (fun j hj => frozen_row e1 e2 (hb j hj)) h1
  rw [g1] at e
  simp only [Nat.add_zero] at e
  cases e
  exact g2
/-- A buffer of integers, sorted. -/
theorem sort_semF {ρ : Go.Shelf.Ren} (L : Go.Proofs.Lays.n189 P ρ) (sy : Bool) (len : Nat) (l : List Int) (hl : l.length < 4611686018427387904) :
    SemF P Γ (ρ.f 189) [.bs sy 0 0 len] [] [some (.live (.arr (.int .i64) l))] (.tup []) [] [some (.live (.arr (.int .i64) (sortI (l.take len) ++ l.drop len)))] := by
  intro G w cargs hw hr
  obtain ⟨cv, rfl⟩ : ∃ cv, cargs = [cv] := by
    match cargs, hr.1 with
    | [cv], _ => exact ⟨cv, rfl⟩
  have hv : VRel G (.bs sy 0 0 len) cv := hr.2 0 _ cv rfl rfl
  have htup : VRel G (.tup []) (.tuple #[]) := .tup rfl (fun j v cv h => by simp at h)
  rw [callsX_fn L.f189]
  have hnil : len = 0 → ∀ p c, cv = .slice p 0 c → Calls P (ρ.f 189) #[cv] w fun e w' => ∃ cv G', e = .returned cv ∧ G.le G' ∧ VRel G' (.tup []) cv ∧ WRel Γ G' [] [some (.live (.arr (.int .i64) (sortI (l.take len) ++ l.drop len)))] w' := fun h0 p c hc => by
    subst h0
    subst hc
    refine (Go.Proofs.Any.slices_Sort_int_none L p c w).mono ?_
    rintro e w' ⟨rfl, rfl⟩
    refine ⟨_, G, rfl, Gh.le.refl G, htup, ?_⟩
    have : sortI (l.take 0) ++ l.drop 0 = l := by simp [sortI]
    rw [this]
    exact hw
  rcases hv.bs_inv with ⟨h0, h1 | ⟨b, o, h1⟩⟩ | ⟨x, hx, hle, rfl⟩
  · exact hnil h0 none 0 h1
  · exact hnil h0 _ 0 h1
  · have B := hw.hnm 0 _ x rfl hx
    obtain ⟨cvs, E, fr, e1, e2, e3, e4⟩ := B.row
    have hsz : x.sz = 1 := B.sz
    have hxl : x.len = l.length := B.len.symm
    have hcap := B.cap
    have hln : len ≤ l.length := by omega
    have e4 : Rels G (flat (siL l)) ((cvs.toList.drop x.lo).take (flat (siL l)).length) := e4
    rw [flat_ints, siL_len] at e4
    rw [hsz, Nat.mul_one] at e3
    have hcell : ∀ j, (hj : j < l.length) → cvs[x.lo + j]? = some (Value.int .i64 l[j]) := fun j hj => by
      have hb : x.lo + j < cvs.size := by omega
      have h1 : ((cvs.toList.drop x.lo).take l.length)[j]? = some cvs[x.lo + j] := by
        rw [List.getElem?_take_of_lt hj, List.getElem?_drop, Array.getElem?_toList, Array.getElem?_eq_getElem hb]
      have h2 := e4.2 j (.si .i64 l[j]) _ (by rw [siL, List.getElem?_map, List.getElem?_eq_getElem hj]; rfl) h1
      cases hc : cvs[x.lo + j] with
      | int k z => rw [hc] at h2; cases h2; rw [Array.getElem?_eq_getElem hb, hc]
      | _ => rw [hc] at h2; cases h2
    have hH : Sort.Holds (Value.int .i64) w x.b (x.lo + 0 * x.sz) (l.take len).toArray := fun j hj => by
      have hj' : j < len := by simp at hj; omega
      have hjl : j < l.length := by omega
      rw [Nat.zero_mul, Nat.add_zero]
      refine ⟨?_, frozen_row e1 e2 (by omega)⟩
      rw [cell_row e1, hcell j hjl, getElem!_pos _ j hj]
      simp
    have hlen : (l.take len).length = len := by simp; omega
    have key := Go.Proofs.Any.slices_Sort_int L x.b (x.lo + 0 * x.sz) (x.cap - 0) (l.take len) w hH (lt_of_heap e1) (by omega)
    rw [hlen] at key
    refine key.mono ?_
    rintro e w' ⟨rfl, q, os, rfl⟩
    refine ⟨_, G, rfl, Gh.le.refl G, htup, ?_⟩
    have hs : ((l.take len).mergeSort fun x y => decide (x ≤ y)) = sortI (l.take len) := rfl
    have hsl : (sortI (l.take len)).length = len := by rw [sortI_len, hlen]
    rw [hs, Lib.sorted_world _ w x.b _ q _ _ os hH (by rw [hsl]; simp; omega)]
    have hwd : WRel Γ G [] [some (.live (.arr (.int .i64) l))] (w.drewN q) := hw.keep (Nat.le_refl _) (fun _ _ => rfl) rfl rfl rfl
    have hp : Put (BC.arr (.int .i64) l).sz 0 len (.arr (.int .i64) l) (siL (sortI (l.take len))) (.arr (.int .i64) (sortI (l.take len) ++ l.drop len)) := ⟨rfl, (by show (sortI (l.take len) ++ l.drop len).length = l.length; rw [List.length_append, hsl, List.length_drop]; omega), (fun v hv => by
        obtain ⟨z, _, rfl⟩ := List.mem_map.1 (show v ∈ siL (sortI (l.take len) ++ l.drop len) from hv); rfl), fun G cvs h => by
      have e : (BC.arr (.int .i64) (sortI (l.take len) ++ l.drop len)).els = (BC.arr (.int .i64) l).els.take 0 ++ siL (sortI (l.take len)) ++ (BC.arr (.int .i64) l).els.drop (0 + len) := by
        show siL (sortI (l.take len) ++ l.drop len) = (siL l).take 0 ++ siL (sortI (l.take len)) ++ (siL l).drop (0 + len)
        rw [siL, siL, siL, List.map_append, List.take_zero, List.nil_append, Nat.zero_add, List.map_drop]
      rw [e]; exact h⟩
    have h2 := hwd.putSet P (n := 0) rfl hx hp (by rw [siL_len, hsl]) (fun v hv => by
        obtain ⟨z, _, rfl⟩ := List.mem_map.1 hv; rfl) (vs := (sortI (l.take len)).map (Value.int .i64)) (by
        rw [flat_ints]
        refine ⟨by rw [siL_len, List.length_map], fun j v cv h1 h2 => ?_⟩
        rw [siL, List.getElem?_map, Option.map_eq_some_iff] at h1
        rw [List.getElem?_map, Option.map_eq_some_iff] at h2
        obtain ⟨a, ha, rfl⟩ := h1
        obtain ⟨b, hb, rfl⟩ := h2
        rw [ha] at hb; cases hb
        exact .si _ _) (fun v hv => by
        obtain ⟨z, _, rfl⟩ := List.mem_map.1 hv; rfl) (by omega)
    exact h2.keep (by simp [Sort.grow]) (fun k hk => heap_grow_old _ os hk) rfl rfl rfl
/-- The same at an empty list. -/
theorem sort_nil {ρ : Go.Shelf.Ren} (L : Go.Proofs.Lays.n189 P ρ) : SemF P Γ (ρ.f 189) [.lst .full []] [] [] (.tup []) [] [] := by
  intro G w cargs hw hr
  obtain ⟨cv, rfl⟩ : ∃ cv, cargs = [cv] := by
    match cargs, hr.1 with
    | [cv], _ => exact ⟨cv, rfl⟩
  have hv : VRel G (.lst .full []) cv := hr.2 0 _ cv rfl rfl
  obtain ⟨p, c, rfl⟩ := hv.slice_form
  rw [callsX_fn L.f189]
  refine (Go.Proofs.Any.slices_Sort_int_none L p c w).mono ?_
  rintro e w' ⟨rfl, rfl⟩
  exact ⟨_, G, rfl, Gh.le.refl G, .tup rfl (fun j v cv h => by simp at h), hw⟩
end
end Go.Proofs.Ytnjjkobijjdnbaa

/- Package disk: the library's sort in this program; its contract in a table. -/
set_option linter.unusedVariables false
set_option linter.unusedSimpArgs false
set_option maxRecDepth 100000
set_option maxHeartbeats 4000000
namespace Go.Proofs.Ytnjjkobijjdnbaa
open Go Go.Proofs
namespace D
def sortRen : Go.Shelf.Ren := ⟨fun | 189 => 46 | 125 => 51 | 257 => 50 | 128 => 61 | 129 => 62 | 294 => 52 | 295 => 53 | 296 => 54 | 297 => 55 | 298 => 56 | 299 => 57 | 216 => 58 | 300 => 59 | 301 => 60 | 328 => 63 | 329 => 64 | 330 => 65 | 331 => 66 | 332 => 67 | 215 => 68 | 343 => 69 | n => n, fun | 28 => 37 | 3 => 3 | 46 => 88 | 0 => 0 | 51 => 98 | 53 => 100 | 4 => 4 | 183 => 91 | 182 => 90 | 131 => 95 | 5 => 5 | 9 => 9 | 218 => 101 | 222 => 105 | 228 => 107 | 229 => 108 | n => n, fun | n => n⟩
theorem laysSort : Go.Proofs.Lays.n189 Try.prog sortRen := {
  mixed := by kernel_rfl
  f125 := Try.func51.trans (congrArg some (by kernel_rfl))
  f128 := Try.func61.trans (congrArg some (by kernel_rfl))
  f129 := Try.func62.trans (congrArg some (by kernel_rfl))
  f189 := Try.func46.trans (congrArg some (by kernel_rfl))
  f215 := Try.func68.trans (congrArg some (by kernel_rfl))
  f216 := Try.func58.trans (congrArg some (by kernel_rfl))
  f257 := Try.func50.trans (congrArg some (by kernel_rfl))
  f294 := Try.func52.trans (congrArg some (by kernel_rfl))
  f295 := Try.func53.trans (congrArg some (by kernel_rfl))
  f296 := Try.func54.trans (congrArg some (by kernel_rfl))
  f297 := Try.func55.trans (congrArg some (by kernel_rfl))
  f298 := Try.func56.trans (congrArg some (by kernel_rfl))
  f299 := Try.func57.trans (congrArg some (by kernel_rfl))
  f300 := Try.func59.trans (congrArg some (by kernel_rfl))
  f301 := Try.func60.trans (congrArg some (by kernel_rfl))
  f328 := Try.func63.trans (congrArg some (by kernel_rfl))
  f329 := Try.func64.trans (congrArg some (by kernel_rfl))
  f330 := Try.func65.trans (congrArg some (by kernel_rfl))
  f331 := Try.func66.trans (congrArg some (by kernel_rfl))
  f332 := Try.func67.trans (congrArg some (by kernel_rfl))
  f343 := Try.func69.trans (congrArg some (by kernel_rfl))
  t0 := Try.underlying0
  a0 := Try.isAgg0
  z0 := Try.sizeOf0
  v0 := Try.zeroValue0
  t3 := Try.underlying3
  a3 := Try.isAgg3
  z3 := Try.sizeOf3
  v3 := Try.zeroValue3
  t4 := Try.underlying4
  a4 := Try.isAgg4
  z4 := Try.sizeOf4
  v4 := Try.zeroValue4
  t5 := Try.underlying5
  a5 := Try.isAgg5
  z5 := Try.sizeOf5
  v5 := Try.zeroValue5
  t9 := Try.underlying9
  a9 := Try.isAgg9
  z9 := Try.sizeOf9
  v9 := Try.zeroValue9
  t28 := Try.underlying37
  a28 := Try.isAgg37
  z28 := Try.sizeOf37
  v28 := Try.zeroValue37
  t46 := Try.underlying88
  a46 := Try.isAgg88
  z46 := Try.sizeOf88
  v46 := Try.zeroValue88
  t51 := Try.underlying98
  a51 := Try.isAgg98
  z51 := Try.sizeOf98
  v51 := Try.zeroValue98
  t53 := Try.underlying100
  a53 := Try.isAgg100
  z53 := Try.sizeOf100
  v53 := Try.zeroValue100
  t131 := Try.underlying95
  a131 := Try.isAgg95
  z131 := Try.sizeOf95
  v131 := Try.zeroValue95
  t182 := Try.underlying90
  a182 := Try.isAgg90
  z182 := Try.sizeOf90
  v182 := Try.zeroValue90
  t183 := Try.underlying91
  a183 := Try.isAgg91
  z183 := Try.sizeOf91
  v183 := Try.zeroValue91
  t218 := Try.underlying101
  a218 := Try.isAgg101
  z218 := Try.sizeOf101
  v218 := Try.zeroValue101
  t222 := Try.underlying105
  a222 := Try.isAgg105
  z222 := Try.sizeOf105
  v222 := Try.zeroValue105
  t228 := Try.underlying107
  a228 := Try.isAgg107
  z228 := Try.sizeOf107
  v228 := Try.zeroValue107
  t229 := Try.underlying108
  a229 := Try.isAgg108
  z229 := Try.sizeOf108
  v229 := Try.zeroValue108 }
def il (l : List Int) : Option Bf := some (.live (.arr (.int .i64) l))
def srt (len : Nat) (l : List Int) : List Int := sortI (l.take len) ++ l.drop len
def g46 : List V → Ob → Nm → Option (Option Bool × V × Ob × Nm) := fun args ob nm =>
  match args, ob, nm with
  | [.bs sy 0 0 len], [], [some (.live (.arr (.int .i64) l))] => some (some (decide (l.length < 4611686018427387904)), .tup [], [], [il (srt len l)])
  | [.lst .full []], [], [] => some (none, .tup [], [], [])
  | _, _, _ => none
theorem g46_ok : ∀ args ob nm c v ob1 nm1, g46 args ob nm = some (c, v, ob1, nm1) → c.getD true = true → SemF Try.prog G0 46 args ob nm v ob1 nm1 := fun args ob nm c v ob1 nm1 h hc => by
  unfold g46 at h
  split at h
  · cases h
    exact sort_semF (Γ := G0) laysSort _ _ _ (of_decide_eq_true hc)
  · cases h
    exact sort_nil (Γ := G0) laysSort
  · cases h
def T0 : CallT := fun f args ob nm => match Nat.beq f 46 with | true => g46 args ob nm | false => none
theorem T0_ok : CtOk Try.prog G0 T0 := CtOk.cons CtOk.none 46 g46 (by decide) Try.f46 Try.func46 (by kernel_rfl) (by kernel_rfl) g46_ok
end D
end Go.Proofs.Ytnjjkobijjdnbaa

/- Package disk: the library's collecting of a slice's values: the loop of its iterator. -/
set_option linter.unusedVariables false
set_option linter.unusedSimpArgs false
set_option maxRecDepth 100000
set_option maxHeartbeats 4000000
namespace Go.Proofs.Ytnjjkobijjdnbaa
open Go
namespace D
/-- The first range over a function in a piece of code. -/
def rangeIn : Code → Option (Array Tmp × Code × Code)
  | .seq a b => (match rangeIn a with | some x => some x | none => rangeIn b)
  | .block _ b => rangeIn b
  | .rangeFunc _ ps a bd => some (ps, a, bd)
  | _ => none
noncomputable def as49 : Code := match rangeIn (root 49) with | some (_, a, _) => a | none => .skip
noncomputable def bd49 : Code := match rangeIn (root 49) with | some (_, _, b) => b | none => .skip
noncomputable def ps49 : Array Tmp := match rangeIn (root 49) with | some (p, _, _) => p | none => #[]
def tm49 : List V := [.lst .full [], .fn (.func 47) [] [.ptr 0 0], .ptr 1 0, .tup [], .lst .full [], .tup [], .fn (.func 47) [] [.ptr 0 0], .tup [], .tup [], .tup [], .tup [], .tup [], .tup []]
/-- What is collected of: a buffer of the call's own, or what was handed in. -/
inductive Sv where
  | bs (j : Nat) (l : List Int)
  | sl (l : List Int)
def Sv.v : Sv → V
  | .bs j _ => .bs true 0 0 j
  | .sl l => .slst .ro (.int .i64) l
def Sv.b : Sv → Option Bf
  | .bs _ l => il l
  | .sl _ => none
noncomputable def hdV (s : Sv) (n i : V) (acc : V) (r : Nm) : St := St.of 16 [0, 5, 6, 7] [.yl tm49 ps49 as49 bd49, s.v, n, i] [some [s.v], some [acc]] (s.b :: none :: r) 2 2
def lveV : Ex → List Nat | .normal => [0, 5, 6, 7] | _ => []
noncomputable def cfgV : Cfg := { cfg orc2 (fun _ _ => none) with mem := fun f => (47 :: mems).any (Nat.beq f), om := callC T0, omd := fun f => Nat.beq f 46 }
theorem cfgV_ok : CfgOk Try.prog G0 cfgV := { cfg_ok (wy := fun _ _ => none) orc2_ok with om := callC_calls T0_ok, fit := callC_fit T0_ok }
noncomputable def rndV (s : Sv) (n i : Int) (k : Nat) (a : List Int) := outa lveV (evCK Try.prog G0 (cfM Try.prog G0 cfgV 30) (cfgV.lo 47) [] 60 1 (lp 47 0) (hdV s (.si .i64 n) (.si .i64 i) (.bs true 2 0 k) [il a]))
def endV (s : Sv) (n i : Int) (k : Nat) (a : List Int) : Option (Ex × List V × Ob × Nm × Nat × Nat × Nat) := none
section
variable (n i : Int) (k j : Nat) (l a : List Int)
theorem rndV_a : (rndV (.bs j l) n i k a).path [true, true, true, true] = some (.normal, [.yl tm49 ps49 as49 bd49, .bs true 0 0 j, .si .i64 n, .si .i64 (IntKind.i64.wrap (i + 1))], [some [.bs true 0 0 j], some [.bs true 2 0 (k + 1)]], [il l, none, il (List.take k (List.drop 0 a) ++ [l.getD (0 + i.toNat) 0])], 16, 2, 2) := by kernel_rfl
theorem rndV_aC : (rndV (.bs j l) n i k a).conds [true, true, true, true] = [decide (i < n), decide (0 ≤ i ∧ i < (j : Int)), decide (0 + i.toNat < l.length), decide ((k + 1) * 2 * 8 ≤ 281474976710656) && true] := by kernel_rfl
theorem rndV_ae : (rndV (.bs j l) n i k a).path [false] = some (.exit 0, [], [some [.bs true 0 0 j], some [.bs true 2 0 k]], [il l, none, il a], 16, 2, 2) := by kernel_rfl
theorem rndV_aeC : (rndV (.bs j l) n i k a).conds [false] = [decide (i < n)] := by kernel_rfl
theorem rndV_b : (rndV (.sl l) n i k a).path [true, true, true] = some (.normal, [.yl tm49 ps49 as49 bd49, .slst .ro (.int .i64) l, .si .i64 n, .si .i64 (IntKind.i64.wrap (i + 1))], [some [.slst .ro (.int .i64) l], some [.bs true 2 0 (k + 1)]], [none, none, il (List.take k (List.drop 0 a) ++ [l.getD i.toNat 0])], 16, 2, 2) := by kernel_rfl
theorem rndV_bC : (rndV (.sl l) n i k a).conds [true, true, true] = [decide (i < n), decide (0 ≤ i ∧ i < (l.length : Int)), decide ((k + 1) * 2 * 8 ≤ 281474976710656) && true] := by kernel_rfl
theorem rndV_be : (rndV (.sl l) n i k a).path [false] = some (.exit 0, [], [some [.slst .ro (.int .i64) l], some [.bs true 2 0 k]], [none, none, il a], 16, 2, 2) := by kernel_rfl
theorem rndV_beC : (rndV (.sl l) n i k a).conds [false] = [decide (i < n)] := by kernel_rfl
end
end D
end Go.Proofs.Ytnjjkobijjdnbaa

/- Package disk: the loop of DiskReadsBack. -/
set_option linter.unusedVariables false
set_option linter.unusedSimpArgs false
set_option maxRecDepth 100000
set_option maxHeartbeats 4000000
namespace Go.Proofs.Ytnjjkobijjdnbaa
open Go
namespace D
theorem cpy_putN {v : List Int} {o n : Nat} {s : ByteArray} (h1 : o + s.size ≤ n) (h2 : n ≤ v.length) : cpy v o n (bytesOf s) = putN v o s s.size := by
  have hb := bytesOf_len s
  have hm : Nat.min (bytesOf s).length (n - o) = s.size := by rw [hb]; exact Nat.min_eq_left (by omega)
  unfold cpy putN
  rw [hm, Nat.zero_add, List.drop_zero, List.drop_zero, List.take_of_length_le (l := v.drop (o + s.size)) (by simp)]
theorem cpy_all {α : Type} {v y : List α} {n : Nat} (h1 : v.length = n) (h2 : y.length = n) : cpy v 0 n y = y := by
  unfold cpy
  have hm : Nat.min y.length (n - 0) = n := by rw [h2]; exact Nat.min_self n
  rw [hm]
  subst h1
  rw [← h2]
  simp
theorem part_all {v : List Int} {n : Int} (h : v.length = n.toNat) : part v n = v := by
  unfold part
  rw [List.drop_zero, ← h, List.take_length]
theorem fs_fit {w : Ty.den wt} {n : Int} (hn : 0 ≤ n) : 0 ≤ fo (wO w) n ∧ fo (wO w) n + ((fs (wS w) (wO w) n).size : Int) ≤ n := by
  have h1 := fo_in (o := wO w) hn
  have h2 := fs_size (s := wS w) (o := wO w) hn
  omega
theorem vis_b {b : List Int} {n : Int} {w : Ty.den wt} (hn : 0 ≤ n) (hb : b.length = n.toNat) : visW b n w = bW b n w := by
  have h := fs_fit (w := w) hn
  unfold visW bW
  exact cpy_putN (by omega) (by omega)
theorem bW_len {b : List Int} {n : Int} {w : Ty.den wt} (hn : 0 ≤ n) (hb : b.length = n.toNat) : (bW b n w).length = n.toNat := by
  have h := fs_fit (w := w) hn
  unfold bW
  rw [putN_len (by omega) (Nat.le_refl _), hb]
theorem cW_true {dur b : List Int} {m : Nat} {n : Int} {w : Ty.den wt} (hn : 0 ≤ n) (hn2 : n ≤ 300) (hd : dur.length = n.toNat) (hb : b.length = n.toNat) (hm : m ≤ 60) : cW dur b m n (fo (wO w) n) (fs (wS w) (wO w) n) = [true, true] := by
  obtain ⟨h1, h2⟩ := fs_fit (w := w) hn
  have hw : IntKind.i64.wrap (((dur.length : Nat) : Int) - fo (wO w) n) = dur.length - fo (wO w) n := wrap_in (by omega) (by omega)
  have a1 : decide (fo (wO w) n ≥ 0) = true := decide_eq_true h1
  have a2 : decide (((fs (wS w) (wO w) n).size : Int) ≥ 0) = true := decide_eq_true (by omega)
  have a3 : decide (fo (wO w) n ≤ (dur.length : Int)) = true := decide_eq_true (by omega)
  have a4 : decide (((fs (wS w) (wO w) n).size : Int) ≤ dur.length - fo (wO w) n) = true := decide_eq_true (by omega)
  have a5 : decide ((m + 1) * 2 * 24 ≤ 281474976710656) = true := decide_eq_true (by omega)
  have a6 : decide (0 ≤ fo (wO w) n ∧ fo (wO w) n + ((fs (wS w) (wO w) n).size : Int) ≤ (n.toNat : Int) ∧ n.toNat ≤ b.length ∧ n.toNat ≤ 4194304) = true := decide_eq_true ⟨h1, by omega, by omega, by omega⟩
  have a7 : decide (0 ≤ fo (wO w) n ∧ fo (wO w) n ≤ Bd.hi none n.toNat ∧ Bd.hi none n.toNat ≤ (n.toNat : Int)) = true := decide_eq_true ⟨h1, by simp only [Bd.hi]; omega, by simp only [Bd.hi]; omega⟩
  unfold cW
  rw [part_all hd, hw, a1, a2, a3, a4, a5, a6, a7]
  rfl
theorem cR_ok {dur b : List Int} {n : Int} (hn : 0 ≤ n) (hn2 : n ≤ 300) (hd : dur.length = n.toNat) (hb : b.length = n.toNat) : cR dur b b n = [true, false, false] := by
  unfold cR
  rw [part_all hd, part_all hb, ← hb, List.take_length]
  have a1 : decide (0 ≤ n ∧ n ≤ ((dur.length : Nat) : Int) ∧ n ≤ ((b.length : Nat) : Int) ∧ dur.length ≤ 4194304) = true := decide_eq_true ⟨hn, by omega, by omega, by omega⟩
  rw [a1]
  simp
theorem body6 : Try.f6.body = some (root 6) := by kernel_rfl
theorem lp6 : (loops (root 6))[0]? = some (lp 6 0) := by kernel_rfl
theorem lies6 : Lies (root 6) 1 (lp 6 0) := Lies.of_take (n := 0) (by kernel_rfl)
structure RS where
  i : Nat
  dur : List Int
  b : List Int
  q : List (Ty.den wp)
  m : Nat
theorem rb_loop (n : Int) (h1 : 1 ≤ n) (h2 : n ≤ 300) (l : List (Ty.den wt)) (hl : ∀ w ∈ l, inr (wO w) = true) : ∀ a : RS, (a.i ≤ 60 ∧ a.i ≤ l.length ∧ a.dur.length = n.toNat ∧ a.b.length = n.toNat ∧ a.m ≤ a.i) →
    SemL Try.prog G0 (lp 6 0) (hd n a.i a.dur a.b a.b a.q a.m l) (Ex.exit 0).to (St.of 79 [5] [.b true] [] []) :=
  SemL.ind (P := Try.prog) (Γ := G0) (b := lp 6 0) (fun a : RS => hd n a.i a.dur a.b a.b a.q a.m l) (fun a => l.length - a.i) (fun _ => (.exit 0, St.of 79 [5] [.b true] [] [])) (fun a => a.i ≤ 60 ∧ a.i ≤ l.length ∧ a.dur.length = n.toNat ∧ a.b.length = n.toNat ∧ a.m ≤ a.i) (fun a ⟨i1, i2, i3, i4, i5⟩ => by
    obtain ⟨i, dur, b, q, m⟩ := a
    simp only at i1 i2 i3 i4 i5
    have hC := cfgR_ok wy6
    by_cases hlt : i < l.length
    · by_cases h60 : i < 60
      · refine .inl ?_
        have hget : l.getD i wt.dflt = l[i] := by simp [List.getD, hlt]
        have hw := hl l[i] (List.getElem_mem hlt)
        generalize hW : l[i] = w at *
        have e0 : decide ((i : Int) < (l.length : Int)) = true := decide_eq_true (by omega)
        have e1 : decide ((i : Int) < 60) = true := decide_eq_true (by omega)
        have e2 : decide (0 ≤ (i : Int) ∧ (i : Int) < (l.length : Int)) = true := decide_eq_true ⟨by omega, by omega⟩
        have e3 : decide (0 ≤ n ∧ n ≤ 4194304) = true := decide_eq_true ⟨by omega, by omega⟩
        have hc := cW_true (w := w) (m := m) (by omega) h2 i3 i4 (by omega)
        have hv := vis_b (w := w) (by omega) i4
        have hbl := bW_len (w := w) (by omega) i4
        have hwi : IntKind.i64.wrap ((i : Int) + 1) = ((i + 1 : Nat) : Int) := by rw [wrap_in (by omega) (by omega)]; rfl
        cases hy : wY w with
        | false =>
          have hr := Tr.run_path _ _ _ (rnd_A n i dur b b q m l) (by
            rw [rnd_AC, Int.toNat_natCast, hget, hc, hv, cR_ok (by omega) h2 i3 hbl, e0, e1, e2, e3, hw, hy]; rfl)
          rw [Int.toNat_natCast, hget, hv, hwi] at hr
          exact ⟨⟨i + 1, dur, bW b n w, qW q m n w, m + 1⟩, SemC.of_evM hC Try.func6 body6 lies6 hr, ⟨by show i + 1 ≤ 60; omega, by show i + 1 ≤ l.length; omega, i3, hbl, by show m + 1 ≤ i + 1; omega⟩, by show l.length - (i + 1) < l.length - i; omega, rfl⟩
        | true =>
          have hds : durS dur (bW b n w) n = bW b n w := by
            unfold durS
            rw [part_all hbl]
            exact cpy_all i3 hbl
          have e4 : (decide ((0 : Int) ≤ 0 ∧ 0 ≤ Bd.hi (some (IntKind.i64, 0, false)) (m + 1) ∧ Bd.hi (some (IntKind.i64, 0, false)) (m + 1) ≤ ((m + 1 : Nat) : Int)) && true && true) = true := by
            rw [decide_eq_true (by simp only [Bd.hi]; omega)]; rfl
          have hr := Tr.run_path _ _ _ (rnd_B n i dur b b q m l) (by
            rw [rnd_BC, Int.toNat_natCast, hget, hc, hv, hds, cR_ok (by omega) h2 hbl hbl, e0, e1, e2, e3, hw, hy, e4]; rfl)
          rw [Int.toNat_natCast, hget, hv, hds, hwi] at hr
          exact ⟨⟨i + 1, bW b n w, bW b n w, qS (qW q m n w) (m + 1), 0⟩, SemC.of_evM hC Try.func6 body6 lies6 hr, ⟨by show i + 1 ≤ 60; omega, by show i + 1 ≤ l.length; omega, hbl, hbl, Nat.zero_le _⟩, by show l.length - (i + 1) < l.length - i; omega, rfl⟩
      · refine .inr ⟨by simp [Ex.to], ?_⟩
        have hr := Tr.run_path _ _ _ (rnd_F n i dur b b q m l) (by rw [rnd_FC, decide_eq_true (by omega), decide_eq_false (by omega)])
        exact SemC.of_evM hC Try.func6 body6 lies6 hr
    · refine .inr ⟨by simp [Ex.to], ?_⟩
      have hr := Tr.run_path _ _ _ (rnd_E n i dur b b q m l) (by rw [rnd_EC, decide_eq_false (by omega)])
      exact SemC.of_evM hC Try.func6 body6 lies6 hr)
end D
end Go.Proofs.Ytnjjkobijjdnbaa

/- Package disk: DiskReadsBack. -/
set_option linter.unusedVariables false
set_option linter.unusedSimpArgs false
set_option maxRecDepth 100000
set_option maxHeartbeats 4000000
namespace Go.Proofs.Ytnjjkobijjdnbaa
open Go
/-- An object's cells said in other words. -/
theorem WRel.reOb {Γ : Nat → Option V} {G : Gh} {ob : Ob} {nm : Nm} {w : World} (h : WRel Γ G ob nm w) {o : Nat} {cs cs' : List V} (ho : ob[o]? = some (some cs)) (hl : cs'.length = cs.length) (hr : ∀ cvs, Rels G cs cvs → Rels G cs' cvs) : WRel Γ G (ob.set o (some cs')) nm w := by
  have hlt : o < ob.length := by
    rcases Nat.lt_or_ge o ob.length with h' | h'
    · exact h'
    · rw [List.getElem?_eq_none h'] at ho; cases ho
  exact { h with
    hob := fun o' c b h1 h2 => by
      by_cases e : o' = o
      · subst e
        rw [List.getElem?_set_self hlt] at h1
        cases h1
        obtain ⟨q1, ⟨cvs, E, fr, q3, q4, q5, q6⟩, q7⟩ := h.hob o' cs b ho h2
        exact ⟨q1, ⟨cvs, E, fr, q3, q4, by omega, by rw [hl]; exact hr _ q6⟩, q7⟩
      · rw [List.getElem?_set_ne (Ne.symm e)] at h1
        exact h.hob o' c b h1 h2
    hlt := fun o' b h1 => by simpa using h.hlt o' b h1
    habs := fun o' h1 => by
      by_cases e : o' = o
      · subst e; rw [List.getElem?_set_self hlt] at h1; cases h1
      · rw [List.getElem?_set_ne (Ne.symm e)] at h1; exact h.habs o' h1 }
theorem nil_bs {G : Gh} {k : Nat} {cv : Value} (h : VRel G (.lst .full []) cv) : VRel G (.bs true k 0 0) cv := by
  cases h with
  | lst0 => exact .bs0 _ _ _
  | @lst _ _ b off cap sz cvs h1 h2 h3 h4 h5 h6 =>
    have h6 : cap = 0 := h6
    subst h6
    exact .bs1 _ _ _ _ _
/-- A nil slice that an object holds, as an empty buffer. -/
theorem St.birthO {Γ : Nat → Option V} {kh kt n : Nat} {lv : List Nat} {vs : List V} {ob : Ob} {nm : Nm} (o k : Nat) {cs : List V} (ho : ob[o]? = some (some cs)) (hk : cs[k]? = some (.lst .full [])) {c : BC} (hc : c.len = 0) :
    St.imp Γ (St.of n lv vs ob nm kh kt) (St.of n lv vs (ob.set o (some (cs.set k (.bs true nm.length 0 0)))) (nm ++ [some (.live c)]) kh kt) := by
  intro G a w hr
  refine ⟨hr.tm, ?_, hr.df, hr.kh, hr.kt⟩
  have h1 := hr.wr.padded 0 1
  simp only [List.replicate_zero, List.append_nil] at h1
  have h2 := h1.unborn (s := nm.length) (by simp [St.of]) hc
  have e : (nm ++ List.replicate 1 none).set nm.length (some (Bf.live c)) = nm ++ [some (.live c)] := by simp
  have h3 : WRel Γ G ob (nm ++ [some (.live c)]) w := by rw [← e]; exact h2
  exact h3.reOb ho (by simp) fun cvs hq => ⟨by simpa using hq.1, fun j v cv hv hcv => by
    rw [List.getElem?_set] at hv
    split at hv
    · rename_i hj
      subst hj
      split at hv
      · cases hv; exact nil_bs (hq.2 k _ cv hk hcv)
      · cases hv
    · exact hq.2 j v cv hv hcv⟩
namespace D
def eqL (x y : List Int) : Bool := decide (x = y)
theorem eqL_eq {x y : List Int} (h : eqL x y = true) : x = y := of_decide_eq_true h
/-- The entry of the law's loop. -/
def rbE : LEnt := ⟨79, [0, 1, 5, 6, 8, 9], fun kh kt vs ob nm =>
  match vs, ob, nm with
  | [.si .i64 n, .slst .ro (.agg [.int .i64, .str, .bool]) l, .b true, .ptr 0 0, .bs true 0 0 n0, .i .i64 z], [some [.b false, .i .i64 y, .bs true 1 0 n1, .bs true 2 0 n2, .lst .full []]], [some (.live (.arr (.int .u8) b)), some (.live (.arr (.int .u8) dur)), some (.live (.arr (.int .u8) vis))] =>
    match Nat.beq kh 0, Nat.beq kt 0, decide (z = 0), decide (y = 0) with
    | true, true, true, true => some (.br (decide (n0 = n.toNat ∧ n1 = n.toNat ∧ n2 = n.toNat ∧ 1 ≤ n ∧ n ≤ 300 ∧ b.length = n.toNat ∧ dur.length = n.toNat) && eqL vis b && (show List (Ty.den wt) from l).all fun w => inr (wO w)) (.leaf (some (.exit 0, St.of 79 [5] [.b true] [] []))) (.leaf none))
    | _, _, _, _ => none
  | _, _, _ => none⟩
theorem rbE_ok {kh kt : Nat} {vs : List V} {ob : Ob} {nm : Nm} {t : Tr (Ex × St)} {ex : Ex} {x : St} (h : rbE.go kh kt vs ob nm = some t) (ht : t.run = some (ex, x)) : SemL Try.prog G0 (lp 6 0) (St.of rbE.n rbE.lv vs ob nm kh kt) ex.to x := by
  simp only [rbE] at h
  split at h
  · rename_i n l n0 z y n1 n2 b dur vis
    split at h
    · rename_i e1 e2 e3 e4
      obtain rfl := Nat.eq_of_beq_eq_true e1
      obtain rfl := Nat.eq_of_beq_eq_true e2
      obtain rfl := of_decide_eq_true e3
      obtain rfl := of_decide_eq_true e4
      cases h
      simp only [Tr.run] at ht
      split at ht
      · rename_i hc
        rw [Bool.and_eq_true, Bool.and_eq_true, decide_eq_true_eq] at hc
        obtain ⟨⟨⟨rfl, rfl, rfl, h1, h2, h3, h4⟩, h5⟩, h6⟩ := hc
        have h5 : vis = b := eqL_eq h5
        subst h5
        cases ht
        have hl : ∀ w ∈ (show List (Ty.den wt) from l), inr (wO w) = true := fun w hw => List.all_eq_true.1 h6 w hw
        have key := rb_loop n h1 h2 l hl ⟨0, dur, vis, [], 0⟩ ⟨Nat.zero_le _, Nat.zero_le _, h4, h3, Nat.le_refl _⟩
        have key2 : SemL Try.prog G0 (lp 6 0) (St.of 79 [0, 1, 5, 6, 8, 9] [.si .i64 n, .slst .ro wt l, .b true, .ptr 0 0, .bs true 0 0 n.toNat, .i .i64 0] [some [.b false, .i .i64 0, .bs true 1 0 n.toNat, .bs true 2 0 n.toNat, .bs true 3 0 0]] [some (.live (.arr (.int .u8) vis)), some (.live (.arr (.int .u8) dur)), some (.live (.arr (.int .u8) vis)), some (.live (.arr wp []))] 0 0) (Ex.exit 0).to (St.of 79 [5] [.b true] [] []) := by
          refine key.pre (St.of_imp rfl ?_)
          intro G j v v' a b cv hv
          match j, a, b with
          | 0, a, b => simp at a b; subst a; subst b; exact hv
          | 1, a, b => simp at a b; subst a; subst b; exact hv
          | 2, a, b => simp at a b; subst a; subst b; exact hv
          | 3, a, b => simp at a b; subst a; subst b; exact hv
          | 4, a, b => simp at a b; subst a; subst b; exact hv
          | 5, a, b => simp at a b; subst a; subst b; cases hv; exact .si _ _
          | n + 6, a, b => simp at a
        exact key2.pre (St.birthO (Γ := G0) (kh := 0) (kt := 0) (n := 79) (lv := [0, 1, 5, 6, 8, 9]) (vs := [.si .i64 n, .slst .ro wt l, .b true, .ptr 0 0, .bs true 0 0 n.toNat, .i .i64 0]) (ob := [some [.b false, .i .i64 0, .bs true 1 0 n.toNat, .bs true 2 0 n.toNat, .lst .full []]])
          (nm := [some (.live (.arr (.int .u8) vis)), some (.live (.arr (.int .u8) dur)), some (.live (.arr (.int .u8) vis))]) (c := .arr wp []) 0 4 rfl rfl rfl)
      · cases ht
    · cases h
  · cases h
theorem lp6' : (loops (root 6))[0]? = some (lp 6 0) := lp6
def lo2 : LOrc := fun f i => match Nat.beq f 6, i with | true, 0 => some rbE | _, _ => lo1 f i
theorem lo2_ok : LOrcOk Try.prog G0 lo2 := fun f i e h => by
  simp only [lo2] at h
  split at h
  · rename_i hf
    obtain rfl := Nat.eq_of_beq_eq_true hf
    cases h
    exact ⟨Try.f6, root 6, lp 6 0, Try.func6, body6, lp6, fun kh kt vs ob nm t ex s h1 h2 => rbE_ok h1 h2⟩
  · exact lo1_ok _ _ _ h
def wy7 : FuncId → List V → Option (List Bool) := fun f _ => match Nat.beq f 21, Nat.beq f 13 with | true, _ => some [false, true, true] | _, true => some [false, false, true, true] | _, _ => none
noncomputable def cfgS : Cfg := { cfgR wy7 with lo := lo2 }
theorem cfgS_ok : CfgOk Try.prog G0 cfgS := { cfgR_ok wy7 with lo := lo2_ok }
end D
end Go.Proofs.Ytnjjkobijjdnbaa

/- Package disk: the loop of the library's iterator over a slice, and its entry. -/
set_option linter.unusedVariables false
set_option linter.unusedSimpArgs false
set_option maxRecDepth 100000
set_option maxHeartbeats 4000000
namespace Go.Proofs.Ytnjjkobijjdnbaa
open Go
namespace D
theorem body47 : Try.f47.body = some (root 47) := by kernel_rfl
theorem lp47 : (loops (root 47))[0]? = some (lp 47 0) := by kernel_rfl
theorem lies47 : Lies (root 47) 1 (lp 47 0) := Lies.of_take (n := 0) (by kernel_rfl)
def Sv.c : Sv → List Int
  | .bs j l => l.take j
  | .sl l => l
def Sv.n : Sv → Nat
  | .bs j _ => j
  | .sl l => l.length
def Sv.ok : Sv → Prop
  | .bs j l => j ≤ l.length ∧ j ≤ 1000000
  | .sl l => l.length ≤ 1000000
theorem Sv.c_len {s : Sv} (h : s.ok) : s.c.length = s.n := by
  cases s with
  | bs j l => have h : j ≤ l.length ∧ j ≤ 1000000 := h; show (l.take j).length = j; rw [List.length_take]; omega
  | sl l => rfl
theorem Sv.n_le {s : Sv} (h : s.ok) : s.n ≤ 1000000 := by
  cases s with
  | bs j l => exact (show j ≤ l.length ∧ j ≤ 1000000 from h).2
  | sl l => exact h
theorem take_snoc {l : List Int} {i : Nat} {x : Int} (h : l[i]? = some x) : l.take i ++ [x] = l.take (i + 1) := by
  rw [List.take_add_one, h]; rfl
theorem v_loop (s : Sv) (hs : s.ok) : SemL Try.prog G0 (lp 47 0) (hdV s (.si .i64 s.n) (.si .i64 (0 : Nat)) (.bs true 2 0 0) [il []]) (.exit 0) (St.of 16 [] [] [some [s.v], some [.bs true 2 0 s.n]] [s.b, none, il s.c] 2 2) := by
  have hC := cfgV_ok
  have hl := Sv.c_len hs
  have hn := Sv.n_le hs
  have key := SemL.ind (P := Try.prog) (Γ := G0) (b := lp 47 0) (fun i : Nat => hdV s (.si .i64 s.n) (.si .i64 i) (.bs true 2 0 i) [il (s.c.take i)]) (fun i => s.n - i) (fun _ => (.exit 0, St.of 16 [] [] [some [s.v], some [.bs true 2 0 s.n]] [s.b, none, il s.c] 2 2)) (fun i => i ≤ s.n) (fun i hi => by
    by_cases hlt : i < s.n
    · refine .inl ⟨i + 1, ?_, hlt, by omega, rfl⟩
      have hw2 : IntKind.i64.wrap ((i : Int) + 1) = ((i + 1 : Nat) : Int) := by rw [wrap_in (by omega) (by omega)]; rfl
      have tk : ∀ x, s.c[i]? = some x → List.take i (List.drop 0 (s.c.take i)) ++ [x] = s.c.take (i + 1) := fun x hx => by
        rw [List.drop_zero, List.take_take, Nat.min_self, take_snoc hx]
      cases s with
      | bs j l =>
        have h1 : j ≤ l.length ∧ j ≤ 1000000 := hs
        have hlt : i < j := hlt
        have hx : (Sv.bs j l).c[i]? = some (l.getD i 0) := by
          show (l.take j)[i]? = _
          rw [List.getElem?_take_of_lt hlt]
          simp [List.getD, show i < l.length by omega]
        have e := rndV_a j i i j l ((Sv.bs j l).c.take i)
        rw [hw2, Int.toNat_natCast, Nat.zero_add, tk _ hx] at e
        have hr := Tr.run_path _ _ _ e (by
          rw [rndV_aC]
          simp only [List.cons.injEq, and_true, Bool.and_true, decide_eq_true_eq, Int.toNat_natCast]
          exact ⟨by omega, ⟨by omega, by omega⟩, by omega, by omega⟩)
        exact SemC.of_evM hC Try.func47 body47 lies47 hr
      | sl l =>
        have h1 : l.length ≤ 1000000 := hs
        have hlt : i < l.length := hlt
        have hx : (Sv.sl l).c[i]? = some (l.getD i 0) := by
          show l[i]? = _
          simp [List.getD, hlt]
        have e := rndV_b l.length i i l ((Sv.sl l).c.take i)
        rw [hw2, Int.toNat_natCast, tk _ hx] at e
        have hr := Tr.run_path _ _ _ e (by
          rw [rndV_bC]
          simp only [List.cons.injEq, and_true, Bool.and_true, decide_eq_true_eq, Int.toNat_natCast]
          exact ⟨by omega, ⟨by omega, by omega⟩, by omega⟩)
        exact SemC.of_evM hC Try.func47 body47 lies47 hr
    · have e : i = s.n := by omega
      subst e
      refine .inr ⟨by simp [Ex.to], ?_⟩
      have ht : s.c.take s.n = s.c := by rw [← hl, List.take_length]
      rw [ht]
      cases s with
      | bs j l =>
        have hr := Tr.run_path _ _ _ (rndV_ae j j j j l (Sv.bs j l).c) (by rw [rndV_aeC]; simp)
        exact SemC.of_evM hC Try.func47 body47 lies47 hr
      | sl l =>
        have hr := Tr.run_path _ _ _ (rndV_be l.length l.length l.length l (Sv.sl l).c) (by rw [rndV_beC]; simp)
        exact SemC.of_evM hC Try.func47 body47 lies47 hr) 0 (Nat.zero_le _)
  exact key
/-- The head's state with its list born. -/
theorem v_head {s : Sv} {e : Exit} {y : St} (h : SemL Try.prog G0 (lp 47 0) (hdV s (.si .i64 s.n) (.si .i64 (0 : Nat)) (.bs true 2 0 0) [il []]) e y) : SemL Try.prog G0 (lp 47 0) (hdV s (.si .i64 s.n) (.i .i64 0) (.lst .full []) []) e y := by
  have e2 : SemL Try.prog G0 (lp 47 0) (hdV s (.si .i64 s.n) (.i .i64 0) (.bs true 2 0 0) [il []]) e y := by
    refine h.pre (St.of_imp rfl ?_)
    intro G j v v' a b cv hv
    match j, a, b with
    | 0, a, b => simp at a b; subst a; subst b; exact hv
    | 1, a, b => simp at a b; subst a; subst b; exact hv
    | 2, a, b => simp at a b; subst a; subst b; exact hv
    | 3, a, b => simp at a b; subst a; subst b; cases hv; exact .si _ _
    | n + 4, a, b => simp at a
  exact e2.pre (St.birthO (Γ := G0) (kh := 2) (kt := 2) (n := 16) (lv := [0, 5, 6, 7]) (vs := [.yl tm49 ps49 as49 bd49, s.v, .si .i64 s.n, .i .i64 0]) (ob := [some [s.v], some [.lst .full []]]) (nm := [s.b, none]) (c := .arr (.int .i64) []) 1 0 rfl rfl rfl)
theorem v_nil : SemL Try.prog G0 (lp 47 0) (St.of 16 [0, 5, 6, 7] [.yl tm49 ps49 as49 bd49, .lst .full [], .i .i64 0, .i .i64 0] [some [.lst .full []], some [.lst .full []]] [none, none] 2 2) (.exit 0) (St.of 16 [] [] [some [.lst .full []], some [.lst .full []]] [none, none] 2 2) :=
  SemL.out (by simp) (SemC.of_evM cfgV_ok (lv := []) (lv' := lveV) (n := 60) (d := 30) (e := .exit 0) Try.func47 body47 lies47 (by kernel_rfl))
/-- The body is the one that collects. -/
noncomputable def eqY (tm : List V) (ps : Array Tmp) (a bd : Code) : Bool := @decide (tm = tm49 ∧ ps = ps49 ∧ a = as49 ∧ bd = bd49) (Classical.propDecidable _)
theorem eqY_eq {tm : List V} {ps : Array Tmp} {a bd : Code} (h : eqY tm ps a bd = true) : tm = tm49 ∧ ps = ps49 ∧ a = as49 ∧ bd = bd49 := @of_decide_eq_true _ (Classical.propDecidable _) h
theorem eqY_true : eqY tm49 ps49 as49 bd49 = true := @decide_eq_true _ (Classical.propDecidable _) ⟨rfl, rfl, rfl, rfl⟩
/-- The entry of the iterator's loop. -/
noncomputable def vE : LEnt := ⟨16, [0, 5, 6, 7], fun kh kt vs ob nm =>
  match vs, ob, nm with
  | [.yl tm ps a bd, .bs true 0 0 j, .si .i64 n, .i .i64 z], [some [.bs true 0 0 j2], some [.lst .full []]], [some (.live (.arr (.int .i64) l)), none] =>
    match Nat.beq kh 2, Nat.beq kt 2, decide (z = 0) with
    | true, true, true => some (.br (eqY tm ps a bd && decide (n = (j : Int) ∧ j2 = j ∧ j ≤ l.length ∧ j ≤ 1000000)) (.leaf (some (.exit 0, St.of 16 [] [] [some [.bs true 0 0 j], some [.bs true 2 0 j]] [il l, none, il (l.take j)] 2 2))) (.leaf none))
    | _, _, _ => none
  | [.yl tm ps a bd, .slst .ro (.int .i64) l, .si .i64 n, .i .i64 z], [some [.slst .ro (.int .i64) l2], some [.lst .full []]], [none, none] =>
    match Nat.beq kh 2, Nat.beq kt 2, decide (z = 0) with
    | true, true, true => some (.br (eqY tm ps a bd && (eqL l2 l && decide (n = (l.length : Int) ∧ l.length ≤ 1000000))) (.leaf (some (.exit 0, St.of 16 [] [] [some [.slst .ro (.int .i64) l], some [.bs true 2 0 l.length]] [none, none, il l] 2 2))) (.leaf none))
    | _, _, _ => none
  | [.yl tm ps a bd, .lst .full [], .i .i64 n, .i .i64 z], [some [.lst .full []], some [.lst .full []]], [none, none] =>
    match Nat.beq kh 2, Nat.beq kt 2, decide (z = 0 ∧ n = 0) with
    | true, true, true => some (.br (eqY tm ps a bd) (.leaf (some (.exit 0, St.of 16 [] [] [some [.lst .full []], some [.lst .full []]] [none, none] 2 2))) (.leaf none))
    | _, _, _ => none
  | _, _, _ => none⟩
theorem vE_ok {kh kt : Nat} {vs : List V} {ob : Ob} {nm : Nm} {t : Tr (Ex × St)} {ex : Ex} {x : St} (h : vE.go kh kt vs ob nm = some t) (ht : t.run = some (ex, x)) : SemL Try.prog G0 (lp 47 0) (St.of vE.n vE.lv vs ob nm kh kt) ex.to x := by
  simp only [vE] at h
  split at h
  · rename_i tm ps a bd j n z j2 l
    split at h
    · rename_i e1 e2 e3
      obtain rfl := Nat.eq_of_beq_eq_true e1
      obtain rfl := Nat.eq_of_beq_eq_true e2
      obtain rfl := of_decide_eq_true e3
      cases h
      simp only [Tr.run] at ht
      split at ht
      · rename_i hc
        rw [Bool.and_eq_true, decide_eq_true_eq] at hc
        obtain ⟨hy, rfl, rfl, h1, h2⟩ := hc
        obtain ⟨rfl, rfl, rfl, rfl⟩ := eqY_eq hy
        cases ht
        exact v_head (s := .bs j2 l) (v_loop (.bs j2 l) ⟨h1, h2⟩)
      · cases ht
    · cases h
  · rename_i tm ps a bd l n z l2
    split at h
    · rename_i e1 e2 e3
      obtain rfl := Nat.eq_of_beq_eq_true e1
      obtain rfl := Nat.eq_of_beq_eq_true e2
      obtain rfl := of_decide_eq_true e3
      cases h
      simp only [Tr.run] at ht
      split at ht
      · rename_i hc
        rw [Bool.and_eq_true, Bool.and_eq_true, decide_eq_true_eq] at hc
        obtain ⟨hy, hl, rfl, h1⟩ := hc
        obtain ⟨rfl, rfl, rfl, rfl⟩ := eqY_eq hy
        have hl : l2 = l := eqL_eq hl
        subst hl
        cases ht
        exact v_head (s := .sl l2) (v_loop (.sl l2) h1)
      · cases ht
    · cases h
  · rename_i tm ps a bd n z
    split at h
    · rename_i e1 e2 e3
      obtain rfl := Nat.eq_of_beq_eq_true e1
      obtain rfl := Nat.eq_of_beq_eq_true e2
      obtain ⟨rfl, rfl⟩ := of_decide_eq_true e3
      cases h
      simp only [Tr.run] at ht
      split at ht
      · rename_i hc
        obtain ⟨rfl, rfl, rfl, rfl⟩ := eqY_eq hc
        cases ht
        exact v_nil
      · cases ht
    · cases h
  · cases h
noncomputable def loV : LOrc := fun f i => match Nat.beq f 47, i with | true, 0 => some vE | _, _ => none
theorem loV_ok : LOrcOk Try.prog G0 loV := fun f i e h => by
  simp only [loV] at h
  split at h
  · rename_i hf
    obtain rfl := Nat.eq_of_beq_eq_true hf
    cases h
    exact ⟨Try.f47, root 47, lp 47 0, Try.func47, body47, lp47, fun kh kt vs ob nm t ex s h1 h2 => vE_ok h1 h2⟩
  · cases h
noncomputable def cfgS39 : Cfg := { cfgV with lo := loV }
theorem cfgS39_ok : CfgOk Try.prog G0 cfgS39 := { cfgV_ok with lo := loV_ok }
end D
end Go.Proofs.Ytnjjkobijjdnbaa

/- Package disk: what is collected and sorted, as a contract. -/
set_option linter.unusedVariables false
set_option linter.unusedSimpArgs false
set_option maxRecDepth 100000
set_option maxHeartbeats 4000000
namespace Go.Proofs.Ytnjjkobijjdnbaa
open Go
namespace D
noncomputable def t39 (ob : Ob) (nm : Nm) : MR := mergeM ob.length nm.length (evFK Try.prog G0 (cfM Try.prog G0 cfgS39 30) cfgS39.lo [] 60 39 [.fn (.func 47) [] [.ptr 0 0]] ob nm)
theorem t39_a (j : Nat) (l : List Int) : t39 [some [.bs true 0 0 j]] [il l] = .ok (some (eqY tm49 ps49 as49 bd49 && decide ((j : Int) = j ∧ j = j ∧ j ≤ l.length ∧ j ≤ 1000000) && true && true && true && (some (decide ((List.take j l).length < 4611686018427387904) && true)).getD true)) (.bs true 1 0 j) [some [.bs true 0 0 j]] [il l, il (srt j (List.take j l))] := by kernel_rfl
theorem t39_b (l : List Int) : t39 [some [.slst .ro (.int .i64) l]] [] = .ok (some (eqY tm49 ps49 as49 bd49 && (eqL l l && decide ((l.length : Int) = l.length ∧ l.length ≤ 1000000)) && true && true && true && (some (decide (l.length < 4611686018427387904) && true)).getD true)) (.bs true 0 0 l.length) [some [.slst .ro (.int .i64) l]] [il (srt l.length l)] := by kernel_rfl
theorem t39_n : t39 [some [.lst .full []]] [] = .ok (some (eqY tm49 ps49 as49 bd49 && true && true && true && true)) (.lst .full []) [some [.lst .full []]] [] := by kernel_rfl
theorem t39_ok {ob : Ob} {nm : Nm} {c : Option Bool} {v : V} {ob1 : Ob} {nm1 : Nm} (h : t39 ob nm = .ok c v ob1 nm1) (hc : c.getD true = true) : SemF Try.prog G0 39 [.fn (.func 47) [] [.ptr 0 0]] ob nm v ob1 nm1 :=
  mergeM_ok _ (fun v s hr => evFK_sound (cfM_fit cfgS39_ok 30).1 (cfM_fit cfgS39_ok 30).2 cfgS39_ok.mixed cfgS39_ok.lo hr) _ _ _ _ h hc
/-- Sorted(Values(s)). -/
def g39 : List V → Ob → Nm → Option (Option Bool × V × Ob × Nm) := fun args ob nm =>
  match args, ob, nm with
  | [.fn (.func f) [] [.ptr 0 0]], [some [.bs true 0 0 j]], [some (.live (.arr (.int .i64) l))] =>
    match Nat.beq f 47 with | true => some (some (decide (j ≤ l.length ∧ j ≤ 1000000)), .bs true 1 0 j, [some [.bs true 0 0 j]], [il l, il (sortI (l.take j))]) | false => none
  | [.fn (.func f) [] [.ptr 0 0]], [some [.slst .ro (.int .i64) l]], [] =>
    match Nat.beq f 47 with | true => some (some (decide (l.length ≤ 1000000)), .bs true 0 0 l.length, [some [.slst .ro (.int .i64) l]], [il (sortI l)]) | false => none
  | [.fn (.func f) [] [.ptr 0 0]], [some [.lst .full []]], [] =>
    match Nat.beq f 47 with | true => some (none, .lst .full [], [some [.lst .full []]], []) | false => none
  | _, _, _ => none
theorem srt_all {j : Nat} {l : List Int} (h : l.length = j) : srt j l = sortI l := by
  unfold srt
  rw [← h, List.take_length, List.drop_length, List.append_nil]
theorem g39_a (j : Nat) (l : List Int) (h1 : j ≤ l.length) (h2 : j ≤ 1000000) : SemF Try.prog G0 39 [.fn (.func 47) [] [.ptr 0 0]] [some [.bs true 0 0 j]] [il l] (.bs true 1 0 j) [some [.bs true 0 0 j]] [il l, il (sortI (l.take j))] := by
  have e := t39_a j l
  rw [srt_all (by rw [List.length_take]; omega)] at e
  refine t39_ok e ?_
  rw [Option.getD_some, eqY_true, decide_eq_true ⟨rfl, rfl, h1, h2⟩, decide_eq_true (by rw [List.length_take]; omega)]
  rfl
theorem g39_b (l : List Int) (h2 : l.length ≤ 1000000) : SemF Try.prog G0 39 [.fn (.func 47) [] [.ptr 0 0]] [some [.slst .ro (.int .i64) l]] [] (.bs true 0 0 l.length) [some [.slst .ro (.int .i64) l]] [il (sortI l)] := by
  have e := t39_b l
  rw [srt_all rfl] at e
  refine t39_ok e ?_
  rw [Option.getD_some, eqY_true, show eqL l l = true from decide_eq_true rfl, decide_eq_true ⟨rfl, h2⟩, decide_eq_true (by omega)]
  rfl
theorem g39_ok : ∀ args ob nm c v ob1 nm1, g39 args ob nm = some (c, v, ob1, nm1) → c.getD true = true → SemF Try.prog G0 39 args ob nm v ob1 nm1 := fun args ob nm c v ob1 nm1 h hc => by
  unfold g39 at h
  split at h
  · rename_i f j l
    split at h
    · rename_i hf
      obtain rfl := Nat.eq_of_beq_eq_true hf
      cases h
      obtain ⟨h1, h2⟩ := of_decide_eq_true hc
      exact g39_a j l h1 h2
    · cases h
  · rename_i f l
    split at h
    · rename_i hf
      obtain rfl := Nat.eq_of_beq_eq_true hf
      cases h
      exact g39_b l (of_decide_eq_true hc)
    · cases h
  · rename_i f
    split at h
    · rename_i hf
      obtain rfl := Nat.eq_of_beq_eq_true hf
      cases h
      exact t39_ok t39_n (by rw [Option.getD_some, eqY_true]; rfl)
    · cases h
  · cases h
end D
end Go.Proofs.Ytnjjkobijjdnbaa

/- Package disk: the library's Compact: its inner loop. -/
set_option linter.unusedVariables false
set_option linter.unusedSimpArgs false
set_option maxRecDepth 100000
set_option maxHeartbeats 4000000
namespace Go.Proofs.Ytnjjkobijjdnbaa
open Go
/-- A contract by one way, with the memory that it leaves. -/
theorem SemF.of_way {P : Program} {Γ : Nat → Option V} {C : Cfg} (hC : CfgOk P Γ C) {lv : List Nat} {n d : Nat} {f : FuncId} {args : List V} {ob ob1 : Ob} {nm nm1 : Nm} {v : V} (ds : List Bool) {cs : List Bool}
    (h : ((evFK P Γ (cfM P Γ C d) C.lo lv n f args ob nm).path ds).map (fun p => (p.1, p.2.ob, p.2.nm)) = some (v, ob1, nm1)) (h2 : (evFK P Γ (cfM P Γ C d) C.lo lv n f args ob nm).conds ds = cs) (hc : cs = ds) : SemF P Γ f args ob nm v ob1 nm1 := by
  cases hp : (evFK P Γ (cfM P Γ C d) C.lo lv n f args ob nm).path ds with
  | none => rw [hp] at h; cases h
  | some p =>
    rw [hp] at h
    cases h
    have hr := Tr.run_path _ ds p hp (h2.trans hc)
    exact evFK_sound (cfM_fit hC d).1 (cfM_fit hC d).2 hC.mixed hC.lo (v := p.1) (x := p.2) hr
namespace D
/-- A list's first p elements without those that equal the one before. -/
def dd (c : List Int) : Nat → List Int
  | 0 => []
  | p + 1 => if p = 0 ∨ c.getD p 0 ≠ c.getD (p - 1) 0 then dd c p ++ [c.getD p 0] else dd c p
theorem dd_le (c : List Int) : ∀ p, (dd c p).length ≤ p
  | 0 => Nat.le_refl _
  | p + 1 => by
    simp only [dd]
    have := dd_le c p
    split <;> simp <;> omega
theorem dd_full {c : List Int} : ∀ {p : Nat}, (dd c p).length = p → p ≤ c.length → dd c p = c.take p
  | 0, _, _ => by simp [dd]
  | p + 1, h, hc => by
    simp only [dd] at h ⊢
    have hle := dd_le c p
    split at h
    · rename_i hp
      rw [if_pos hp, dd_full (by simpa using h) (by omega), List.take_add_one, List.getD, List.getElem?_eq_getElem (by omega)]
      rfl
    · omega
theorem dd_lt_mono {c : List Int} {p : Nat} (h : (dd c p).length < p) : ∀ r, (dd c (p + r)).length < p + r
  | 0 => h
  | r + 1 => by
    have := dd_lt_mono h r
    show (dd c (p + r + 1)).length < p + (r + 1)
    simp only [dd]
    split
    · rw [List.length_append, List.length_singleton]; omega
    · omega
theorem set_app {D c : List Int} {x : Int} (h : D.length < c.length) : (D ++ c.drop D.length).set D.length x = (D ++ [x]) ++ c.drop (D.length + 1) := by
  rw [List.set_append_right _ _ (Nat.le_refl _), Nat.sub_self, List.drop_eq_getElem_cons h, List.set_cons_zero, List.append_assoc]
  rfl
theorem app_get {D c : List Int} {p : Nat} (h : D.length ≤ p) : (D ++ c.drop D.length).getD p 0 = c.getD p 0 := by
  simp only [List.getD]
  rw [List.getElem?_append_right h, List.getElem?_drop, Nat.add_sub_cancel' h]
theorem body38 : Try.f38.body = some (root 38) := by kernel_rfl
theorem lp38 : (loops (root 38))[0]? = some (lp 38 0) := by kernel_rfl
theorem lp38' : (loops (root 38))[1]? = some (lp 38 1) := by kernel_rfl
theorem lies38 : Lies (root 38) 1 (lp 38 0) := Lies.of_take (n := 1) (by kernel_rfl)
theorem lies38' : Lies (root 38) 2 (lp 38 1) := Lies.of_take (n := 0) (by kernel_rfl)
noncomputable def hdI (k k2 : V) (j k0 r : Nat) (l : List Int) : St := St.of 61 [0, 3, 4, 5] [.bs true 0 0 j, k, .bs true 0 k0 r, k2] [] [il l] 0 1
def lveI : Ex → List Nat | .normal => [0, 3, 4, 5] | _ => [0, 3]
noncomputable def cfgI : Cfg := cfg orc2 (fun _ _ => none)
theorem cfgI_ok : CfgOk Try.prog G0 cfgI := cfg_ok orc2_ok
noncomputable def rndI (k k2 : Int) (j k0 r : Nat) (l : List Int) := outa lveI (evCK Try.prog G0 (cfM Try.prog G0 cfgI 30) (cfgI.lo 38) [] 60 2 (lp 38 1) (hdI (.si .i64 k) (.si .i64 k2) j k0 r l))
section
variable (k k2 : Int) (j k0 r : Nat) (l : List Int)
def wI (k2 : Int) (k0 : Nat) (l : List Int) : Bool := l.getD (k0 + k2.toNat) 0 != l.getD (k0 + (IntKind.i64.wrap (k2 - 1)).toNat) 0
theorem rndI_a : (rndI k k2 j k0 r l).path [true, true, true, true, true, true, true, true, true, true] = some (.normal, [.bs true 0 0 j, .si .i64 (IntKind.i64.wrap (k + 1)), .bs true 0 k0 r, .si .i64 (IntKind.i64.wrap (k2 + 1))], [], [il (l.set (0 + k.toNat) (l.getD (k0 + k2.toNat) 0))], 61, 0, 1) := by kernel_rfl
theorem rndI_aC : (rndI k k2 j k0 r l).conds [true, true, true, true, true, true, true, true, true, true] = [decide (k2 < (r : Int)), decide (0 ≤ k2 ∧ k2 < (r : Int)), decide (k0 + k2.toNat < l.length), decide (0 ≤ IntKind.i64.wrap (k2 - 1) ∧ IntKind.i64.wrap (k2 - 1) < (r : Int)), decide (k0 + (IntKind.i64.wrap (k2 - 1)).toNat < l.length), wI k2 k0 l, decide (0 ≤ k2 ∧ k2 < (r : Int)), decide (k0 + k2.toNat < l.length), decide (0 ≤ k ∧ k < (j : Int)), decide (0 + k.toNat < l.length)] := by kernel_rfl
theorem rndI_b : (rndI k k2 j k0 r l).path [true, true, true, true, true, false] = some (.normal, [.bs true 0 0 j, .si .i64 k, .bs true 0 k0 r, .si .i64 (IntKind.i64.wrap (k2 + 1))], [], [il l], 61, 0, 1) := by kernel_rfl
theorem rndI_bC : (rndI k k2 j k0 r l).conds [true, true, true, true, true, false] = [decide (k2 < (r : Int)), decide (0 ≤ k2 ∧ k2 < (r : Int)), decide (k0 + k2.toNat < l.length), decide (0 ≤ IntKind.i64.wrap (k2 - 1) ∧ IntKind.i64.wrap (k2 - 1) < (r : Int)), decide (k0 + (IntKind.i64.wrap (k2 - 1)).toNat < l.length), wI k2 k0 l] := by kernel_rfl
theorem rndI_e : (rndI k k2 j k0 r l).path [false] = some (.exit 2, [.bs true 0 0 j, .si .i64 k], [], [il l], 61, 0, 1) := by kernel_rfl
theorem rndI_eC : (rndI k k2 j k0 r l).conds [false] = [decide (k2 < (r : Int))] := by kernel_rfl
end
/-- What the inner loop leaves. -/
def ddL (c : List Int) (p : Nat) : List Int := dd c p ++ c.drop (dd c p).length
theorem ddL_len {c : List Int} {p : Nat} (h : p ≤ c.length) : (ddL c p).length = c.length := by
  have := dd_le c p
  unfold ddL
  rw [List.length_append, List.length_drop]; omega
theorem i_loop (c : List Int) (j k0 : Nat) (h1 : 1 ≤ k0) (h2 : k0 < j) (h3 : j ≤ c.length) (h4 : j ≤ 1000000) (h5 : (dd c (k0 + 1)).length = k0) :
    SemL Try.prog G0 (lp 38 1) (hdI (.si .i64 (k0 : Nat)) (.si .i64 (1 : Nat)) j k0 (j - k0) (ddL c (k0 + 1))) (.exit 2) (St.of 61 [0, 3] [.bs true 0 0 j, .si .i64 ((dd c j).length : Nat)] [] [il (ddL c j)] 0 1) := by
  have hC := cfgI_ok
  have key := SemL.ind (P := Try.prog) (Γ := G0) (b := lp 38 1) (fun i : Nat => hdI (.si .i64 ((dd c (k0 + i)).length : Nat)) (.si .i64 i) j k0 (j - k0) (ddL c (k0 + i))) (fun i => j - (k0 + i)) (fun _ => (.exit 2, St.of 61 [0, 3] [.bs true 0 0 j, .si .i64 ((dd c j).length : Nat)] [] [il (ddL c j)] 0 1)) (fun i => 1 ≤ i ∧ k0 + i ≤ j ∧ (dd c (k0 + i)).length < k0 + i) (fun i ⟨i1, i2, i3⟩ => by
    have hw0 : IntKind.i64.wrap ((i : Int) - 1) = ((i - 1 : Nat) : Int) := by rw [wrap_in (by omega) (by omega)]; omega
    have hw1 : IntKind.i64.wrap ((i : Int) + 1) = ((i + 1 : Nat) : Int) := by rw [wrap_in (by omega) (by omega)]; rfl
    have hw2 : IntKind.i64.wrap (((dd c (k0 + i)).length : Int) + 1) = (((dd c (k0 + i)).length + 1 : Nat) : Int) := by rw [wrap_in (by omega) (by omega)]; rfl
    have hL := ddL_len (c := c) (p := k0 + i) (by omega)
    by_cases hlt : k0 + i < j
    · refine .inl ⟨i + 1, ?_, ⟨by omega, by omega, dd_lt_mono i3 1⟩, by show j - (k0 + (i + 1)) < j - (k0 + i); omega, rfl⟩
      have g1 : (ddL c (k0 + i)).getD (k0 + i) 0 = c.getD (k0 + i) 0 := app_get (by omega)
      have g2 : (ddL c (k0 + i)).getD (k0 + (i - 1)) 0 = c.getD (k0 + i - 1) 0 := by
        rw [show k0 + (i - 1) = k0 + i - 1 by omega]; exact app_get (by omega)
      have hwI : wI (i : Int) k0 (ddL c (k0 + i)) = (c.getD (k0 + i) 0 != c.getD (k0 + i - 1) 0) := by
        unfold wI
        rw [hw0, Int.toNat_natCast, Int.toNat_natCast, g1, g2]
      by_cases hne : c.getD (k0 + i) 0 = c.getD (k0 + i - 1) 0
      · have hd : dd c (k0 + i + 1) = dd c (k0 + i) := by
          show (if _ then _ else _) = _
          rw [if_neg (by rintro (h | h); omega; exact h hne)]
        have e := rndI_b ((dd c (k0 + i)).length : Nat) i j k0 (j - k0) (ddL c (k0 + i))
        rw [hw1] at e
        have hr := Tr.run_path _ _ _ e (by
          rw [rndI_bC, hwI, hw0, Int.toNat_natCast, Int.toNat_natCast, hL, hne]
          simp only [List.cons.injEq, and_true, decide_eq_true_eq, bne_self_eq_false]
          exact ⟨by omega, ⟨by omega, by omega⟩, by omega, ⟨by omega, by omega⟩, by omega⟩)
        have := SemC.of_evM hC Try.func38 body38 lies38' hr
        show SemC _ _ _ _ _ (hdI (.si .i64 ((dd c (k0 + i + 1)).length : Nat)) _ _ _ _ (ddL c (k0 + i + 1)))
        have hdl : ddL c (k0 + i + 1) = ddL c (k0 + i) := by unfold ddL; rw [hd]
        rw [hd, hdl]
        exact this
      · have hd : dd c (k0 + i + 1) = dd c (k0 + i) ++ [c.getD (k0 + i) 0] := by
          show (if _ then _ else _) = _
          rw [if_pos (.inr hne)]
        have e := rndI_a ((dd c (k0 + i)).length : Nat) i j k0 (j - k0) (ddL c (k0 + i))
        rw [hw1, hw2, Int.toNat_natCast, Int.toNat_natCast, g1, Nat.zero_add] at e
        have hs : (ddL c (k0 + i)).set (dd c (k0 + i)).length (c.getD (k0 + i) 0) = ddL c (k0 + i + 1) := by
          unfold ddL
          rw [set_app (by omega), hd, List.length_append]
          rfl
        rw [hs] at e
        have hr := Tr.run_path _ _ _ e (by
          rw [rndI_aC, hwI, hw0, Int.toNat_natCast, Int.toNat_natCast, Int.toNat_natCast, hL]
          simp only [List.cons.injEq, and_true, decide_eq_true_eq, bne_iff_ne]
          exact ⟨by omega, ⟨by omega, by omega⟩, by omega, ⟨by omega, by omega⟩, by omega, hne, ⟨by omega, by omega⟩, by omega, ⟨by omega, by omega⟩, by omega⟩)
        have := SemC.of_evM hC Try.func38 body38 lies38' hr
        show SemC _ _ _ _ _ (hdI (.si .i64 ((dd c (k0 + i + 1)).length : Nat)) _ _ _ _ (ddL c (k0 + i + 1)))
        rw [show (dd c (k0 + i + 1)).length = (dd c (k0 + i)).length + 1 by rw [hd]; simp]
        exact this
    · have e : k0 + i = j := by omega
      refine .inr ⟨by simp [Ex.to], ?_⟩
      rw [e]
      have hr := Tr.run_path _ _ _ (rndI_e ((dd c j).length : Nat) i j k0 (j - k0) (ddL c j)) (by rw [rndI_eC, decide_eq_false (by omega)])
      exact SemC.of_evM hC Try.func38 body38 lies38' hr) 1 ⟨Nat.le_refl _, by omega, by rw [h5]; omega⟩
  rw [h5] at key
  exact key
end D
end Go.Proofs.Ytnjjkobijjdnbaa

/- Package disk: the library's Compact: its loops' entries, its contract. -/
set_option linter.unusedVariables false
set_option linter.unusedSimpArgs false
set_option maxRecDepth 100000
set_option maxHeartbeats 4000000
namespace Go.Proofs.Ytnjjkobijjdnbaa
open Go
namespace D
theorem dd_dup {c : List Int} {k : Nat} (h1 : (dd c k).length = k) (h2 : 1 ≤ k) (h3 : k ≤ c.length) (h4 : c.getD k 0 = c.getD (k - 1) 0) : dd c (k + 1) = dd c k ∧ ddL c (k + 1) = c := by
  have hd : dd c (k + 1) = dd c k := by
    show (if _ then _ else _) = _
    rw [if_neg (by rintro (h | h); omega; exact h h4)]
  refine ⟨hd, ?_⟩
  unfold ddL
  rw [hd, h1, dd_full h1 h3, List.take_append_drop]
def iE : LEnt := ⟨61, [0, 3, 4, 5], fun kh kt vs ob nm =>
  match vs, ob, nm with
  | [.bs true 0 0 j, .si .i64 k, .bs true 0 k0 r, .i .i64 z], [], [some (.live (.arr (.int .i64) c))] =>
    match Nat.beq kh 0, Nat.beq kt 1, decide (z = 1) with
    | true, true, true => some (.br (decide (k = (k0 : Int) ∧ r = j - k0 ∧ 1 ≤ k0 ∧ k0 < j ∧ j ≤ c.length ∧ j ≤ 1000000 ∧ (dd c k0).length = k0) && (show List Int from c).getD k0 0 == (show List Int from c).getD (k0 - 1) 0) (.leaf (some (.exit 2, St.of 61 [0, 3] [.bs true 0 0 j, .si .i64 ((dd c j).length : Nat)] [] [il (ddL c j)] 0 1))) (.leaf none))
    | _, _, _ => none
  | _, _, _ => none⟩
theorem iE_ok' (j k0 : Nat) (c : List Int) (h1 : 1 ≤ k0) (h2 : k0 < j) (h3 : j ≤ c.length) (h4 : j ≤ 1000000) (h5 : (dd c k0).length = k0) (h6 : c.getD k0 0 = c.getD (k0 - 1) 0) :
    SemL Try.prog G0 (lp 38 1) (hdI (.si .i64 (k0 : Nat)) (.i .i64 1) j k0 (j - k0) c) (.exit 2) (St.of 61 [0, 3] [.bs true 0 0 j, .si .i64 ((dd c j).length : Nat)] [] [il (ddL c j)] 0 1) := by
  obtain ⟨e1, e2⟩ := dd_dup h5 h1 (by omega) h6
  have key := i_loop c j k0 h1 h2 h3 h4 (by rw [e1]; exact h5)
  rw [e2] at key
  refine key.pre (St.of_imp rfl ?_)
  intro G j v v' a b cv hv
  match j, a, b with
  | 0, a, b => simp at a b; subst a; subst b; exact hv
  | 1, a, b => simp at a b; subst a; subst b; exact hv
  | 2, a, b => simp at a b; subst a; subst b; exact hv
  | 3, a, b => simp at a b; subst a; subst b; cases hv; exact .si _ _
  | n + 4, a, b => simp at a
theorem iE_ok {kh kt : Nat} {vs : List V} {ob : Ob} {nm : Nm} {t : Tr (Ex × St)} {ex : Ex} {x : St} (h : iE.go kh kt vs ob nm = some t) (ht : t.run = some (ex, x)) : SemL Try.prog G0 (lp 38 1) (St.of iE.n iE.lv vs ob nm kh kt) ex.to x := by
  simp only [iE] at h
  split at h
  · rename_i j k k0 r z c
    split at h
    · rename_i e1 e2 e3
      obtain rfl := Nat.eq_of_beq_eq_true e1
      obtain rfl := Nat.eq_of_beq_eq_true e2
      obtain rfl := of_decide_eq_true e3
      cases h
      simp only [Tr.run] at ht
      split at ht
      · rename_i hc
        rw [Bool.and_eq_true, decide_eq_true_eq] at hc
        obtain ⟨⟨rfl, rfl, h1, h2, h3, h4, h5⟩, h6⟩ := hc
        cases ht
        exact iE_ok' j k0 c h1 h2 h3 h4 h5 (by simpa using h6)
      · cases ht
    · cases h
  · cases h
def loI : LOrc := fun f i => match Nat.beq f 38, i with | true, 1 => some iE | _, _ => none
theorem loI_ok : LOrcOk Try.prog G0 loI := fun f i e h => by
  simp only [loI] at h
  split at h
  · rename_i hf
    obtain rfl := Nat.eq_of_beq_eq_true hf
    cases h
    exact ⟨Try.f38, root 38, lp 38 1, Try.func38, body38, lp38', fun kh kt vs ob nm t ex s h1 h2 => iE_ok h1 h2⟩
  · cases h
noncomputable def cfgO : Cfg := { cfgI with lo := loI }
theorem cfgO_ok : CfgOk Try.prog G0 cfgO := { cfgI_ok with lo := loI_ok }
noncomputable def hdO (k : V) (j : Nat) (c : List Int) : St := St.of 61 [0, 3] [.bs true 0 0 j, k] [] [il c] 0 1
def lveO : Ex → List Nat | .normal => [0, 3] | .ret => [2] | _ => [0]
noncomputable def rndO (k : Int) (j : Nat) (c : List Int) := outa lveO (evCK Try.prog G0 (cfM Try.prog G0 cfgO 30) (cfgO.lo 38) [] 60 1 (lp 38 0) (hdO (.si .i64 k) j c))
section
variable (k : Int) (j : Nat) (c : List Int)
def idxO (k : Int) (j : Nat) (c : List Int) : List Bool := [decide (k < (j : Int)), decide (0 ≤ k ∧ k < (j : Int)), decide (0 + k.toNat < c.length), decide (0 ≤ IntKind.i64.wrap (k - 1) ∧ IntKind.i64.wrap (k - 1) < (j : Int)), decide (0 + (IntKind.i64.wrap (k - 1)).toNat < c.length), c.getD (0 + k.toNat) 0 == c.getD (0 + (IntKind.i64.wrap (k - 1)).toNat) 0]
/-- What clear leaves. -/
def clr (l : List Int) (o m : Nat) : List Int := List.take o (List.drop 0 l) ++ List.take m (List.drop 0 (List.replicate m 0)) ++ List.take (l.length - (o + m)) (List.drop (o + m) l)
def preI (k : Int) (j : Nat) (c : List Int) : Bool := decide (k = ((0 + k.toNat : Nat) : Int) ∧ j - k.toNat = j - (0 + k.toNat) ∧ 1 ≤ 0 + k.toNat ∧ 0 + k.toNat < j ∧ j ≤ c.length ∧ j ≤ 1000000 ∧ (dd c (0 + k.toNat)).length = 0 + k.toNat) && c.getD (0 + k.toNat) 0 == c.getD (0 + k.toNat - 1) 0
theorem rndO_a : (rndO k j c).path [true, true, true, true, true, false] = some (.normal, [.bs true 0 0 j, .si .i64 (IntKind.i64.wrap (k + 1))], [], [il c], 61, 0, 1) := by kernel_rfl
theorem rndO_aC : (rndO k j c).conds [true, true, true, true, true, false] = idxO k j c := by kernel_rfl
theorem rndO_b : (rndO k j c).path [true, true, true, true, true, true, true, true, true, true] = some (.ret, [.bs true 0 0 ((dd c j).length - 0)], [], [il (clr (ddL c j) (0 + (dd c j).length) (j - (dd c j).length))], 61, 0, 1) := by kernel_rfl
theorem rndO_bC : (rndO k j c).conds [true, true, true, true, true, true, true, true, true, true] = idxO k j c ++ [decide (0 ≤ k ∧ k ≤ (j : Int) ∧ (j : Int) ≤ (j : Int)), preI k j c, decide (0 ≤ ((dd c j).length : Int) ∧ ((dd c j).length : Int) ≤ (j : Int) ∧ (j : Int) ≤ (j : Int)), decide ((0 : Int) ≤ 0 ∧ 0 ≤ ((dd c j).length : Int) ∧ ((dd c j).length : Int) ≤ (j : Int))] := by kernel_rfl
theorem rndO_e : (rndO k j c).path [false] = some (.exit 0, [.bs true 0 0 j], [], [il c], 61, 0, 1) := by kernel_rfl
theorem rndO_eC : (rndO k j c).conds [false] = [decide (k < (j : Int))] := by kernel_rfl
end
def cmpL (c : List Int) (j : Nat) : List Int := dd c j ++ List.replicate (j - (dd c j).length) 0 ++ c.drop j
theorem clr_cmp {c : List Int} {j : Nat} (h : j ≤ c.length) : clr (ddL c j) (0 + (dd c j).length) (j - (dd c j).length) = cmpL c j := by
  have hle := dd_le c j
  have hl := ddL_len (c := c) (p := j) h
  unfold clr cmpL
  rw [hl, Nat.zero_add, Nat.add_sub_cancel' hle, List.drop_zero, List.drop_zero, List.take_of_length_le (l := List.replicate _ _) (by simp)]
  unfold ddL
  rw [List.take_left', List.drop_append, List.drop_eq_nil_of_le hle, List.nil_append, List.drop_drop, Nat.add_sub_cancel' hle, List.take_of_length_le (by rw [List.length_drop]; exact Nat.le_refl _)]
  rfl
theorem cmp_full {c : List Int} {j : Nat} (h : (dd c j).length = j) (hj : j ≤ c.length) : cmpL c j = c := by
  unfold cmpL
  rw [h, Nat.sub_self, dd_full h hj]
  simp
noncomputable def outO (c : List Int) (j : Nat) : Ex × St := if (dd c j).length = j then (.exit 0, St.of 61 [0] [.bs true 0 0 j] [] [il c] 0 1) else (.ret, St.of 61 [2] [.bs true 0 0 (dd c j).length] [] [il (cmpL c j)] 0 1)
theorem o_loop (c : List Int) (j : Nat) (h1 : 1 ≤ j) (h3 : j ≤ c.length) (h4 : j ≤ 1000000) : SemL Try.prog G0 (lp 38 0) (hdO (.si .i64 (1 : Nat)) j c) (outO c j).1.to (outO c j).2 := by
  have hC := cfgO_ok
  exact SemL.ind (P := Try.prog) (Γ := G0) (b := lp 38 0) (fun i : Nat => hdO (.si .i64 i) j c) (fun i => j - i) (fun _ => outO c j) (fun i => 1 ≤ i ∧ i ≤ j ∧ (dd c i).length = i) (fun i ⟨i1, i2, i3⟩ => by
    have hw0 : IntKind.i64.wrap ((i : Int) - 1) = ((i - 1 : Nat) : Int) := by rw [wrap_in (by omega) (by omega)]; omega
    have hw1 : IntKind.i64.wrap ((i : Int) + 1) = ((i + 1 : Nat) : Int) := by rw [wrap_in (by omega) (by omega)]; rfl
    have hix : i < j → idxO (i : Int) j c = [true, true, true, true, true, c.getD i 0 == c.getD (i - 1) 0] := fun hlt => by
      unfold idxO
      rw [hw0, Int.toNat_natCast, Int.toNat_natCast, Nat.zero_add, Nat.zero_add]
      simp only [List.cons.injEq, and_true, decide_eq_true_eq]
      exact ⟨by omega, ⟨by omega, by omega⟩, by omega, ⟨by omega, by omega⟩, by omega⟩
    by_cases hlt : i < j
    · by_cases heq : c.getD i 0 = c.getD (i - 1) 0
      · obtain ⟨e1, e2⟩ := dd_dup i3 i1 (by omega) heq
        have hnf : (dd c j).length < j := by
          have := dd_lt_mono (c := c) (p := i + 1) (by rw [e1]; omega) (j - (i + 1))
          rwa [show i + 1 + (j - (i + 1)) = j by omega] at this
        have ho : outO c j = (.ret, St.of 61 [2] [.bs true 0 0 (dd c j).length] [] [il (cmpL c j)] 0 1) := if_neg (by omega)
        refine .inr ⟨by rw [ho]; simp [Ex.to], ?_⟩
        have e := rndO_b i j c
        rw [clr_cmp h3, Nat.sub_zero] at e
        have hp : preI (i : Int) j c = true := by
          unfold preI
          rw [Int.toNat_natCast, Nat.zero_add, heq, i3]
          simp only [Bool.and_eq_true, decide_eq_true_eq, beq_self_eq_true, and_true]
          exact ⟨trivial, trivial, i1, hlt, h3, h4⟩
        have hr := Tr.run_path _ _ _ e (by
          rw [rndO_bC, hix hlt, hp, heq]
          simp only [List.cons_append, List.nil_append, List.cons.injEq, and_true, decide_eq_true_eq, beq_self_eq_true, true_and]
          exact ⟨⟨by omega, by omega, by omega⟩, ⟨by omega, by omega, by omega⟩, ⟨by omega, by omega⟩⟩)
        have := SemC.of_evM hC Try.func38 body38 lies38 hr
        rw [ho]
        exact this
      · refine .inl ⟨i + 1, ?_, ⟨by omega, by omega, ?_⟩, by show j - (i + 1) < j - i; omega, rfl⟩
        · have e := rndO_a i j c
          rw [hw1] at e
          have hr := Tr.run_path _ _ _ e (by
            rw [rndO_aC, hix hlt, beq_eq_false_iff_ne.2 heq])
          exact SemC.of_evM hC Try.func38 body38 lies38 hr
        · show (dd c (i + 1)).length = i + 1
          rw [show dd c (i + 1) = dd c i ++ [c.getD i 0] from if_pos (.inr heq), List.length_append, i3]; rfl
    · have e : i = j := by omega
      subst e
      have ho : outO c i = (.exit 0, St.of 61 [0] [.bs true 0 0 i] [] [il c] 0 1) := if_pos i3
      refine .inr ⟨by rw [ho]; simp [Ex.to], ?_⟩
      have hr := Tr.run_path _ _ _ (rndO_e i i c) (by rw [rndO_eC]; simp)
      have := SemC.of_evM hC Try.func38 body38 lies38 hr
      rw [ho]
      exact this) 1 ⟨Nat.le_refl _, h1, by simp [dd]⟩
noncomputable def oE : LEnt := ⟨61, [0, 3], fun kh kt vs ob nm =>
  match vs, ob, nm with
  | [.bs true 0 0 j, .i .i64 z], [], [some (.live (.arr (.int .i64) c))] =>
    match Nat.beq kh 0, Nat.beq kt 1, decide (z = 1) with
    | true, true, true => some (.br (decide (1 ≤ j ∧ j ≤ c.length ∧ j ≤ 1000000)) (.br (decide ((dd c j).length = j)) (.leaf (some (.exit 0, St.of 61 [0] [.bs true 0 0 j] [] [il c] 0 1))) (.leaf (some (.ret, St.of 61 [2] [.bs true 0 0 (dd c j).length] [] [il (cmpL c j)] 0 1)))) (.leaf none))
    | _, _, _ => none
  | _, _, _ => none⟩
theorem oE_pre {j : Nat} {c : List Int} {e : Exit} {y : St} (h : SemL Try.prog G0 (lp 38 0) (hdO (.si .i64 (1 : Nat)) j c) e y) : SemL Try.prog G0 (lp 38 0) (hdO (.i .i64 1) j c) e y := by
  refine h.pre (St.of_imp rfl ?_)
  intro G j v v' a b cv hv
  match j, a, b with
  | 0, a, b => simp at a b; subst a; subst b; exact hv
  | 1, a, b => simp at a b; subst a; subst b; cases hv; exact .si _ _
  | n + 2, a, b => simp at a
theorem oE_ok {kh kt : Nat} {vs : List V} {ob : Ob} {nm : Nm} {t : Tr (Ex × St)} {ex : Ex} {x : St} (h : oE.go kh kt vs ob nm = some t) (ht : t.run = some (ex, x)) : SemL Try.prog G0 (lp 38 0) (St.of oE.n oE.lv vs ob nm kh kt) ex.to x := by
  simp only [oE] at h
  split at h
  · rename_i j z c
    split at h
    · rename_i e1 e2 e3
      obtain rfl := Nat.eq_of_beq_eq_true e1
      obtain rfl := Nat.eq_of_beq_eq_true e2
      obtain rfl := of_decide_eq_true e3
      cases h
      simp only [Tr.run] at ht
      split at ht
      · rename_i hc
        obtain ⟨h1, h2, h3⟩ := of_decide_eq_true hc
        have key := oE_pre (o_loop c j h1 h2 h3)
        split at ht
        · rename_i hf
          cases ht
          have ho : outO c j = (.exit 0, St.of 61 [0] [.bs true 0 0 j] [] [il c] 0 1) := if_pos (of_decide_eq_true hf)
          rw [ho] at key
          exact key
        · rename_i hf
          cases ht
          have ho : outO c j = (.ret, St.of 61 [2] [.bs true 0 0 (dd c j).length] [] [il (cmpL c j)] 0 1) := if_neg (of_decide_eq_false hf)
          rw [ho] at key
          exact key
      · cases ht
    · cases h
  · cases h
noncomputable def loO : LOrc := fun f i => match Nat.beq f 38, i with | true, 0 => some oE | _, _ => loI f i
theorem loO_ok : LOrcOk Try.prog G0 loO := fun f i e h => by
  simp only [loO] at h
  split at h
  · rename_i hf
    obtain rfl := Nat.eq_of_beq_eq_true hf
    cases h
    exact ⟨Try.f38, root 38, lp 38 0, Try.func38, body38, lp38, fun kh kt vs ob nm t ex s h1 h2 => oE_ok h1 h2⟩
  · exact loI_ok _ _ _ h
noncomputable def cfg38 : Cfg := { cfgI with lo := loO }
theorem cfg38_ok : CfgOk Try.prog G0 cfg38 := { cfgI_ok with lo := loO_ok }
noncomputable def t38 (j : Nat) (c : List Int) := evFK Try.prog G0 (cfM Try.prog G0 cfg38 30) cfg38.lo [] 60 38 [.bs true 0 0 j] [] [il c]
def prj (p : V × St) : V × Ob × Nm := (p.1, p.2.ob, p.2.nm)
section
variable (j : Nat) (c : List Int)
theorem t38_a : ((t38 j c).path [true]).map prj = some (.bs true 0 0 j, [], [il c]) := by kernel_rfl
theorem t38_aC : (t38 j c).conds [true] = [decide ((j : Int) < 2)] := by kernel_rfl
theorem t38_b : ((t38 j c).path [false, true, true]).map prj = some (.bs true 0 0 j, [], [il c]) := by kernel_rfl
theorem t38_bC : (t38 j c).conds [false, true, true] = [decide ((j : Int) < 2), decide (1 ≤ j ∧ j ≤ c.length ∧ j ≤ 1000000), decide ((dd c j).length = j)] := by kernel_rfl
theorem t38_c : ((t38 j c).path [false, true, false]).map prj = some (.bs true 0 0 (dd c j).length, [], [il (cmpL c j)]) := by kernel_rfl
theorem t38_cC : (t38 j c).conds [false, true, false] = [decide ((j : Int) < 2), decide (1 ≤ j ∧ j ≤ c.length ∧ j ≤ 1000000), decide ((dd c j).length = j)] := by kernel_rfl
end
theorem g38_a (j : Nat) (c : List Int) (h1 : j ≤ c.length) (h2 : j ≤ 1000000) : SemF Try.prog G0 38 [.bs true 0 0 j] [] [il c] (.bs true 0 0 (dd c j).length) [] [il (cmpL c j)] := by
  by_cases hj : j < 2
  · have hf : (dd c j).length = j := by
      match j, hj with
      | 0, _ => rfl
      | 1, _ => simp [dd]
    rw [cmp_full hf h1, hf]
    exact SemF.of_way cfg38_ok [true] (t38_a j c) (t38_aC j c) (by rw [decide_eq_true (by omega)])
  · by_cases hf : (dd c j).length = j
    · rw [cmp_full hf h1, hf]
      exact SemF.of_way cfg38_ok [false, true, true] (t38_b j c) (t38_bC j c) (by rw [decide_eq_false (by omega), decide_eq_true ⟨by omega, h1, h2⟩, decide_eq_true hf])
    · exact SemF.of_way cfg38_ok [false, true, false] (t38_c j c) (t38_cC j c) (by rw [decide_eq_false (by omega), decide_eq_true ⟨by omega, h1, h2⟩, decide_eq_false hf])
theorem g38_n : SemF Try.prog G0 38 [.lst .full []] [] [] (.lst .full []) [] [] :=
  SemF.of_way cfg38_ok (lv := []) (n := 60) (d := 30) [] (cs := []) (by kernel_rfl) (by kernel_rfl) rfl
/-- Compact. -/
def g38 : List V → Ob → Nm → Option (Option Bool × V × Ob × Nm) := fun args ob nm =>
  match args, ob, nm with
  | [.bs true 0 0 j], [], [some (.live (.arr (.int .i64) c))] => some (some (decide (j ≤ c.length ∧ j ≤ 1000000)), .bs true 0 0 (dd c j).length, [], [il (cmpL c j)])
  | [.lst .full []], [], [] => some (none, .lst .full [], [], [])
  | _, _, _ => none
theorem g38_ok : ∀ args ob nm c v ob1 nm1, g38 args ob nm = some (c, v, ob1, nm1) → c.getD true = true → SemF Try.prog G0 38 args ob nm v ob1 nm1 := fun args ob nm c v ob1 nm1 h hc => by
  unfold g38 at h
  split at h
  · cases h
    obtain ⟨h1, h2⟩ := of_decide_eq_true hc
    exact g38_a _ _ h1 h2
  · cases h
    exact g38_n
  · cases h
end D
end Go.Proofs.Ytnjjkobijjdnbaa

/- Loops by patterns: what is read off the state at a loop's head, and the loop's entry; loops that count. -/
set_option linter.unusedVariables false
set_option linter.unusedSimpArgs false
namespace Go.Proofs.Ytnjjkobijjdnbaa
open Go

/-- What is asked of a value: plain data; a slice of a buffer, from anywhere or from its start; a place of an object; a pointer to plain data; a pointer to cells; a function and what it has captured; nothing. -/
inductive SP where
  | ty (t : Ty) | bs (n : Nat) | bz (n : Nat) | ptr (o off : Nat) | pel (t : Ty) | pea (l : List SP) | nil | nl | cb (b : Bool) | ci (n : Int) | fn (f : FuncId) (cap : List SP) | any
mutual
def SP.den : SP → Type
  | .ty t => t.den
  | .bs _ => Nat × Nat
  | .bz _ => Nat
  | .ptr _ _ => Unit
  | .pel t => t.den
  | .pea l => SP.dens l
  | .nil => Unit
  | .nl => Unit
  | .cb _ => Unit
  | .ci _ => Unit
  | .fn _ cap => SP.dens cap
  | .any => Unit
def SP.dens : List SP → Type
  | [] => Unit
  | p :: ps => p.den × SP.dens ps
end
mutual
def SP.val : (p : SP) → p.den → V
  | .ty t, x => t.val x
  | .bs n, x => .bs true n (show Nat × Nat from x).1 (show Nat × Nat from x).2
  | .bz n, l => .bs true n 0 l
  | .ptr o off, _ => .ptr o off
  | .pel t, x => .pel [t.val x] 0 0
  | .pea l, x => .pel [.agg (SP.vals l x)] 0 0
  | .nil, _ => .nil
  | .nl, _ => .lst .full []
  | .cb b, _ => .b b
  | .ci n, _ => .i .i64 n
  | .fn f cap, x => .fn (.func f) [] (SP.vals cap x)
  | .any, _ => .any
def SP.vals : (ps : List SP) → SP.dens ps → List V
  | [], _ => []
  | p :: ps, x => p.val x.1 :: SP.vals ps x.2
end
mutual
def SP.rd : (p : SP) → V → Option p.den
  | .ty t, v => t.ofV v
  | .bs n, v => match v with | .bs _ m o l => (match Nat.beq m n with | true => some (show Nat × Nat from (o, l)) | false => none) | _ => none
  | .bz n, v => match v with | .bs _ m o l => (match Nat.beq m n && Nat.beq o 0 with | true => some (show Nat from l) | false => none) | _ => none
  | .ptr o off, v => match v with | .ptr o' off' => (match Nat.beq o' o && Nat.beq off' off with | true => some () | false => none) | _ => none
  | .pel t, v => match v with | .pel [u] 0 0 => (match t.ofV u with | some x => some (show t.den from x) | none => none) | _ => none
  | .pea l, v => match v with | .pel [.agg cs] 0 0 => (match SP.rds l cs with | some x => some (show SP.dens l from x) | none => none) | _ => none
  | .nil, v => match v with | .nil => some () | _ => none
  | .nl, v => match v with | .lst .full [] => some () | _ => none
  | .cb b, v => match v with | .b c => (match c == b with | true => some () | false => none) | _ => none
  | .ci n, v => match v with | .i .i64 k => (match decide (k = n) with | true => some () | false => none) | _ => none
  | .fn f cap, v => match v with | .fn (.func g) [] cs => (match Nat.beq g f with | true => (match SP.rds cap cs with | some x => some (show SP.dens cap from x) | none => none) | false => none) | _ => none
  | .any, _ => some ()
def SP.rds : (ps : List SP) → List V → Option (SP.dens ps)
  | [], vs => match vs with | [] => some () | _ => none
  | p :: ps, vs => match vs with | v :: vs => (match p.rd v with | some x => (match SP.rds ps vs with | some y => some (show p.den × SP.dens ps from (x, y)) | none => none) | none => none) | [] => none
end
theorem VRel.bs_sy {G : Gh} {sy sy' : Bool} {n off len : Nat} {cv : Value} (h : VRel G (.bs sy n off len) cv) : VRel G (.bs sy' n off len) cv := by
  cases h with
  | bs0 => exact .bs0 _ _ _
  | bs1 => exact .bs1 _ _ _ _ _
  | bs h hl => exact .bs h hl
theorem Ty.ofV_cells {t : Ty} {u : V} {y : t.den} (h : t.ofV u = some y) {G : Gh} : (t.val y).cells.length = u.cells.length ∧ ∀ cvs, Rels G u.cells cvs → Rels G (t.val y).cells cvs := by
  unfold Ty.ofV at h
  split at h
  · obtain ⟨h1, h2⟩ := whole_ok (Ty.ofC_ok t) h
    have e : (t.val y).cells = t.cells y := by cases t <;> rfl
    rw [e, Ty.cells_len, h1]
    exact ⟨rfl, h2 G⟩
  · cases h
/-- A pointer to one element, of which less is said. -/
theorem VRel.pel_imp {G : Gh} {u v : V} {cv : Value} (hs : v.cells.length = u.cells.length) (hf : ∀ cvs, Rels G u.cells cvs → Rels G v.cells cvs) (h : VRel G (.pel [u] 0 0) cv) : VRel G (.pel [v] 0 0) cv := by
  cases h with
  | @pel _ _ _ b o0 sz cvs h1 h2 h3 h4 =>
    have e1 : flat [u] = u.cells := by simp [flat]
    have e2 : flat [v] = v.cells := by simp [flat]
    rw [e1] at h2 h4
    have hr := hf cvs ⟨h2, h4⟩
    refine .pel (fun x hx => ?_) ?_ h3 ?_
    · simp at hx; subst hx; rw [hs]; exact h1 u (by simp)
    · rw [e2]; exact hr.1
    · rw [e2]; exact hr.2
mutual
theorem SP.rd_ok : ∀ {p : SP} {v : V} {x : p.den}, p.rd v = some x → ∀ {G : Gh} {cv : Value}, VRel G v cv → VRel G (p.val x) cv
  | .ty t, v, x, h, G, cv, hr => Ty.ofV_ok h hr
  | .bs n, v, x, h, G, cv, hr => by
    simp only [SP.rd] at h
    split at h
    · split at h
      · rename_i e
        obtain rfl := Nat.eq_of_beq_eq_true e
        cases h
        exact hr.bs_sy
      · cases h
    · cases h
  | .bz n, v, x, h, G, cv, hr => by
    simp only [SP.rd] at h
    split at h
    · split at h
      · rename_i e
        rw [Bool.and_eq_true] at e
        obtain rfl := Nat.eq_of_beq_eq_true e.1
        have e2 := Nat.eq_of_beq_eq_true e.2
        cases h
        rw [e2] at hr
        exact hr.bs_sy
      · cases h
    · cases h
  | .ptr o off, v, x, h, G, cv, hr => by
    simp only [SP.rd] at h
    split at h
    · split at h
      · rename_i e
        rw [Bool.and_eq_true] at e
        obtain rfl := Nat.eq_of_beq_eq_true e.1
        obtain rfl := Nat.eq_of_beq_eq_true e.2
        cases h
        exact hr
      · cases h
    · cases h
  | .pel t, v, x, h, G, cv, hr => by
    simp only [SP.rd] at h
    split at h
    · split at h
      · rename_i y hy
        have hc := fun G => Ty.ofV_cells hy (G := G)
        obtain rfl : y = x := Option.some.inj h
        exact hr.pel_imp (hc G).1 (hc G).2
      · cases h
    · cases h
  | .pea l, v, x, h, G, cv, hr => by
    simp only [SP.rd] at h
    split at h
    · rename_i cs
      split at h
      · rename_i y hy
        obtain rfl : y = x := Option.some.inj h
        have hk := SP.rds_ok hy
        refine hr.pel_imp (u := .agg cs) (v := .agg (SP.vals l y)) hk.1 (fun cvs hc => ⟨hc.1.trans hk.1.symm, fun j u cv hu hcv => ?_⟩)
        have hlt : j < cs.length := by
          have : j < cvs.length := by
            rcases Nat.lt_or_ge j cvs.length with h | h
            · exact h
            · rw [List.getElem?_eq_none h] at hcv; cases hcv
          rwa [show cvs.length = cs.length from hc.1] at this
        exact hk.2 G j _ u (List.getElem?_eq_getElem hlt) hu cv (hc.2 j _ cv (List.getElem?_eq_getElem hlt) hcv)
      · cases h
    · cases h
  | .nil, v, x, h, G, cv, hr => by
    simp only [SP.rd] at h
    split at h
    · exact hr
    · cases h
  | .cb b, v, x, h, G, cv, hr => by
    simp only [SP.rd] at h
    split at h
    · split at h
      · rename_i e
        obtain rfl := eq_of_beq e
        exact hr
      · cases h
    · cases h
  | .ci n, v, x, h, G, cv, hr => by
    simp only [SP.rd] at h
    split at h
    · split at h
      · rename_i e
        obtain rfl := of_decide_eq_true e
        exact hr
      · cases h
    · cases h
  | .nl, v, x, h, G, cv, hr => by
    simp only [SP.rd] at h
    split at h
    · exact hr
    · cases h
  | .fn f cap, v, x, h, G, cv, hr => by
    simp only [SP.rd] at h
    split at h
    · split at h
      · rename_i e
        obtain rfl := Nat.eq_of_beq_eq_true e
        split at h
        · rename_i y hy
          cases h
          cases hr with
          | @fn _ _ _ a c ha hc h1 h2 =>
            have hk := SP.rds_ok hy
            refine .fn ha (hc.trans hk.1.symm) h1 (fun j u cv hu hcv => ?_)
            have hlt : j < c.toList.length := by
              rcases Nat.lt_or_ge j c.size with h | h
              · simpa using h
              · rw [Array.getElem?_eq_none h] at hcv; cases hcv
            rw [Array.length_toList, hc] at hlt
            exact hk.2 G j _ u (List.getElem?_eq_getElem hlt) hu cv (h2 j _ cv (List.getElem?_eq_getElem hlt) hcv)
        · cases h
      · cases h
    · cases h
  | .any, v, x, h, G, cv, hr => .any _
theorem SP.rds_ok : ∀ {ps : List SP} {vs : List V} {x : SP.dens ps}, SP.rds ps vs = some x → (SP.vals ps x).length = vs.length ∧ ∀ (G : Gh) (j : Nat) (v v' : V), vs[j]? = some v → (SP.vals ps x)[j]? = some v' → ∀ cv, VRel G v cv → VRel G v' cv
  | [], vs, x, h => by
    simp only [SP.rds] at h
    split at h
    · exact ⟨rfl, fun G j v v' h => by simp at h⟩
    · cases h
  | p :: ps, vs, x, h => by
    simp only [SP.rds] at h
    split at h
    · split at h
      · rename_i v vs a ha
        split at h
        · rename_i b hb
          cases h
          obtain ⟨h1, h2⟩ := SP.rds_ok hb
          refine ⟨by simp [SP.vals, h1], fun G j u u' hu hu' cv hr => ?_⟩
          cases j with
          | zero =>
            simp [SP.vals] at hu hu'
            subst hu; subst hu'
            exact SP.rd_ok ha hr
          | succ j => exact h2 G j u u' (by simpa using hu) (by simpa [SP.vals] using hu') cv hr
        · cases h
      · cases h
    · cases h
end
/-- What is asked of an object: nothing (it is kept as it is); its cells; that its place is free. -/
inductive OP where
  | keep | cells (l : List SP) | fre
def OP.den : OP → Type
  | .keep => Option (List V)
  | .cells l => SP.dens l
  | .fre => Unit
def OP.val : (p : OP) → p.den → Option (List V)
  | .keep, x => x
  | .cells l, x => some (SP.vals l x)
  | .fre, _ => none
def OP.rd : (p : OP) → Option (List V) → Option p.den
  | .keep, x => some x
  | .cells l, x => match x with | some cs => SP.rds l cs | none => none
  | .fre, x => match x with | some _ => none | none => some ()
def OP.dens : List OP → Type
  | [] => Unit
  | p :: ps => p.den × OP.dens ps
def OP.vals : (ps : List OP) → OP.dens ps → Ob
  | [], _ => []
  | p :: ps, x => p.val x.1 :: OP.vals ps x.2
def OP.rds : (ps : List OP) → Ob → Option (OP.dens ps)
  | [], [] => some ()
  | p :: ps, v :: vs => match p.rd v with | some x => (match OP.rds ps vs with | some y => some (x, y) | none => none) | none => none
  | _, _ => none
theorem OP.rds_ok : ∀ {ps : List OP} {ob : Ob} {x : OP.dens ps}, OP.rds ps ob = some x → (OP.vals ps x).length = ob.length ∧
    (∀ (o : Nat) (cs' : List V), (OP.vals ps x)[o]? = some (some cs') → ∃ cs, ob[o]? = some (some cs) ∧ cs'.length = cs.length ∧ ∀ (j : Nat) (x' : V), cs'[j]? = some x' → ∃ x, cs[j]? = some x ∧ ∀ (G : Gh) (cv : Value), VRel G x cv → VRel G x' cv) ∧
    ∀ o : Nat, (OP.vals ps x)[o]? = some none → ob[o]? = some none
  | [], [], _, _ => ⟨rfl, fun o cs h => by simp [OP.vals] at h, fun o h => by simp [OP.vals] at h⟩
  | [], _ :: _, _, h => by cases h
  | _ :: _, [], _, h => by cases h
  | p :: ps, v :: vs, x, h => by
    simp only [OP.rds] at h
    split at h
    · rename_i a ha
      split at h
      · rename_i b hb
        cases h
        obtain ⟨h1, h2, h3⟩ := OP.rds_ok hb
        refine ⟨by simp [OP.vals, h1], fun o cs' ho => ?_, fun o ho => ?_⟩
        · cases o with
          | zero =>
            simp only [OP.vals, List.getElem?_cons_zero, Option.some.injEq] at ho
            cases p with
            | keep =>
              cases ha
              have ho : v = some cs' := ho
              subst ho
              exact ⟨cs', rfl, rfl, fun j x' hx => ⟨x', hx, fun _ _ h => h⟩⟩
            | cells l =>
              simp only [OP.rd] at ha
              split at ha
              · rename_i cs
                have ho : some (SP.vals l a) = some cs' := ho
                cases ho
                obtain ⟨k1, k2⟩ := SP.rds_ok ha
                refine ⟨cs, rfl, k1, fun j x' hx => ?_⟩
                have hlt : j < cs.length := by
                  rw [← k1]
                  rcases Nat.lt_or_ge j (SP.vals l a).length with h | h
                  · exact h
                  · rw [List.getElem?_eq_none h] at hx; cases hx
                exact ⟨cs[j], List.getElem?_eq_getElem hlt, fun G cv hr => k2 G j _ _ (List.getElem?_eq_getElem hlt) hx cv hr⟩
              · cases ha
            | fre => cases ho
          | succ o => exact h2 o cs' (by simpa [OP.vals] using ho)
        · cases o with
          | zero =>
            simp only [OP.vals, List.getElem?_cons_zero, Option.some.injEq] at ho
            cases p with
            | keep => cases ha; have ho : v = none := ho; subst ho; rfl
            | cells l => cases ho
            | fre =>
              simp only [OP.rd] at ha
              split at ha
              · cases ha
              · rfl
          | succ o => exact h3 o (by simpa [OP.vals] using ho)
      · cases h
    · cases h
/-- What is asked of a buffer: nothing; plain data; nothing, and it is not kept; that its name is not given. -/
inductive BP where
  | keep | arr (t : Ty) | dead | fre
def BP.den : BP → Type
  | .keep => Option Bf
  | .arr t => List t.den
  | .dead => Unit
  | .fre => Unit
def BP.val : (p : BP) → p.den → Option Bf
  | .keep, x => x
  | .arr t, l => some (.live (.arr t l))
  | .dead, _ => some .dead
  | .fre, _ => none
def BP.rd : (p : BP) → Option Bf → Option p.den
  | .keep, x => some x
  | .arr t, x => match x with | some (.live c) => c.as t | _ => none
  | .dead, x => match x with | some _ => some () | none => none
  | .fre, x => match x with | some _ => none | none => some ()
def BP.dens : List BP → Type
  | [] => Unit
  | p :: ps => p.den × BP.dens ps
def BP.vals : (ps : List BP) → BP.dens ps → Nm
  | [], _ => []
  | p :: ps, x => p.val x.1 :: BP.vals ps x.2
def BP.rds : (ps : List BP) → Nm → Option (BP.dens ps)
  | [], [] => some ()
  | p :: ps, v :: vs => match p.rd v with | some x => (match BP.rds ps vs with | some y => some (x, y) | none => none) | none => none
  | _, _ => none
theorem BP.rd_ok {p : BP} {v : Option Bf} {a : p.den} (h : p.rd v = some a) : (∀ c', p.val a = some (.live c') → ∃ c, v = some (.live c) ∧ BCw c c') ∧ (p.val a = none → v = none) := by
  cases p with
  | keep =>
    have h : v = a := Option.some.inj h
    subst h
    exact ⟨fun c' e => ⟨c', e, .refl _⟩, fun e => e⟩
  | arr t =>
    match v, h with
    | some (.live c), h =>
      have h : c.as t = some a := h
      exact ⟨fun c' e => ⟨c, rfl, by have e : Bf.live (.arr t a) = .live c' := Option.some.inj e; injection e with e; subst e; exact BC.as_w h⟩, fun e => nomatch (show some (Bf.live (.arr t a)) = none from e)⟩
  | dead => exact ⟨fun c' e => (nomatch (show some Bf.dead = some (.live c') from e)), fun e => nomatch (show some Bf.dead = none from e)⟩
  | fre =>
    refine ⟨fun c' e => (nomatch (show (none : Option Bf) = some (.live c') from e)), fun _ => ?_⟩
    match v, h with
    | none, _ => rfl
theorem BP.rds_ok : ∀ {ps : List BP} {nm : Nm} {x : BP.dens ps}, BP.rds ps nm = some x → (BP.vals ps x).length = nm.length ∧
    (∀ (n : Nat) (c' : BC), (BP.vals ps x)[n]? = some (some (.live c')) → ∃ c, nm[n]? = some (some (.live c)) ∧ BCw c c') ∧ ∀ n : Nat, (BP.vals ps x)[n]? = some none → nm[n]? = some none
  | [], [], _, _ => ⟨rfl, fun o cs h => by simp [BP.vals] at h, fun o h => by simp [BP.vals] at h⟩
  | [], _ :: _, _, h => by cases h
  | _ :: _, [], _, h => by cases h
  | p :: ps, v :: vs, (x, y), h => by
    simp only [BP.rds] at h
    split at h
    · rename_i a ha
      split at h
      · rename_i b hb
        have h := Option.some.inj h
        obtain rfl : a = x := congrArg Prod.fst h
        obtain rfl : b = y := congrArg Prod.snd h
        obtain ⟨h1, h2, h3⟩ := BP.rds_ok hb
        obtain ⟨k1, k2⟩ := BP.rd_ok ha
        refine ⟨congrArg (· + 1) h1, fun o cs' ho => ?_, fun o ho => ?_⟩
        · cases o with
          | zero =>
            obtain ⟨c, e, w⟩ := k1 cs' (Option.some.inj ho)
            exact ⟨c, congrArg some e, w⟩
          | succ o => exact h2 o cs' ho
        · cases o with
          | zero => exact congrArg some (k2 (Option.some.inj ho))
          | succ o => exact h3 o ho
      · cases h
    · cases h
/-- A loop's head: how many slots, which are kept, what is asked of them, of the objects, of the buffers; of slots and objects' cells that may be nil at first: what they are lists of; how many objects and names the function began with. -/
structure HP where
  n : Nat
  lv : List Nat
  sp : List SP
  op : List OP
  bp : List BP
  bv : List (Nat × Ty) := []
  bo : List (Nat × Nat × Ty) := []
  kh : Nat := 0
  kt : Nat := 0
structure HP.den (h : HP) where
  s : SP.dens h.sp
  o : OP.dens h.op
  b : BP.dens h.bp
def HP.st (h : HP) (x : h.den) : St := St.of h.n h.lv (SP.vals h.sp x.s) (OP.vals h.op x.o) (BP.vals h.bp x.b) h.kh h.kt
def birthsV : List (Nat × Ty) → List V → Nm → List V × Nm
  | [], vs, nm => (vs, nm)
  | (k, t) :: r, vs, nm => match vs[k]? with | some (.lst .full []) => birthsV r (vs.set k (.bs true nm.length 0 0)) (nm ++ [some (.live (.arr t []))]) | _ => birthsV r vs nm
def birthsO : List (Nat × Nat × Ty) → Ob → Nm → Ob × Nm
  | [], ob, nm => (ob, nm)
  | (o, k, t) :: r, ob, nm =>
    match ob[o]? with
    | some (some cs) => (match cs[k]? with | some (.lst .full []) => birthsO r (ob.set o (some (cs.set k (.bs true nm.length 0 0)))) (nm ++ [some (.live (.arr t []))]) | _ => birthsO r ob nm)
    | _ => birthsO r ob nm
def HP.rd1 (h : HP) (vs : List V) (ob : Ob) (nm : Nm) : Option h.den :=
  match SP.rds h.sp vs with
  | some s => (match OP.rds h.op ob with | some o => (match BP.rds h.bp nm with | some b => some ⟨s, o, b⟩ | none => none) | none => none)
  | none => none
def HP.rd2 (h : HP) (vs : List V) (ob : Ob) (nm : Nm) : Option h.den :=
  match (St.of h.n h.lv vs ob nm h.kh h.kt).ren ((St.of h.n h.lv vs ob nm h.kh h.kt).autoN h.lv).1 ((St.of h.n h.lv vs ob nm h.kh h.kt).autoN h.lv).2 h.lv with
  | some r => h.rd1 r.1 r.2.1 r.2.2
  | none => none
def HP.rd (h : HP) (kh kt : Nat) (vs : List V) (ob : Ob) (nm : Nm) : Option h.den :=
  match Nat.beq kh h.kh && Nat.beq kt h.kt && Nat.beq vs.length h.lv.length && nodupB h.lv with
  | false => none
  | true =>
    match h.bv.isEmpty && h.bo.isEmpty with
    | true => h.rd1 vs ob nm
    | false =>
      match birthsV h.bv vs nm with
      | (vs1, nm1) => match birthsO h.bo ob nm1 with | (ob1, nm2) => h.rd2 vs1 ob1 nm2
section
variable {P : Program} {Γ : Nat → Option V}
/-- Slots that say less. -/
theorem setVs_imp' {G : Gh} : ∀ (lv : List Nat) (vs vs' l l' : List V), vs.length = vs'.length → (∀ (j : Nat) v v', vs[j]? = some v → vs'[j]? = some v' → ∀ cv, VRel G v cv → VRel G v' cv) → l.length = l'.length → (∀ (j : Nat) v v', l[j]? = some v → l'[j]? = some v' → ∀ cv, VRel G v cv → VRel G v' cv) →
    (setVs lv vs l).length = (setVs lv vs' l').length ∧ ∀ (j : Nat) v v', (setVs lv vs l)[j]? = some v → (setVs lv vs' l')[j]? = some v' → ∀ cv, VRel G v cv → VRel G v' cv
  | [], vs, vs', l, l', _, _, h3, h4 => by simpa [setVs] using ⟨h3, h4⟩
  | d :: ds, [], vs', l, l', h1, _, h3, h4 => by
    have : vs' = [] := List.eq_nil_of_length_eq_zero (by simpa using h1.symm)
    subst this
    simpa [setVs] using ⟨h3, h4⟩
  | d :: ds, v :: vs, [], l, l', h1, _, h3, h4 => by simp at h1
  | d :: ds, v :: vs, v' :: vs', l, l', h1, h2, h3, h4 => by
    simp only [setVs]
    refine setVs_imp' ds vs vs' (l.set d v) (l'.set d v') (by simpa using h1) (fun j u u' a b => h2 (j + 1) u u' (by simpa using a) (by simpa using b)) (by simpa using h3) (fun j u u' a b => ?_)
    rw [List.getElem?_set] at a b
    split at a
    · rename_i hj
      rw [if_pos hj] at b
      split at a
      · split at b
        · cases a; cases b; exact h2 0 v v' rfl rfl
        · cases b
      · cases a
    · rename_i hj
      rw [if_neg hj] at b
      exact h4 j u u' a b
theorem St.of_imps {n : Nat} {lv : List Nat} {vs vs' : List V} {ob : Ob} {nm : Nm} {kh kt : Nat} (h1 : vs.length = vs'.length) (h2 : ∀ (G : Gh) (j : Nat) v v', vs[j]? = some v → vs'[j]? = some v' → ∀ cv, VRel G v cv → VRel G v' cv) :
    St.imp Γ (St.of n lv vs ob nm kh kt) (St.of n lv vs' ob nm kh kt) := fun G a w hr => by
  obtain ⟨e1, e2⟩ := setVs_imp' (G := G) lv vs vs' (List.replicate n .any) (List.replicate n .any) h1 (h2 G) rfl (fun j v v' a b cv h => by rw [a] at b; cases b; exact h)
  refine ⟨⟨?_, fun j v cv hv hc => ?_⟩, hr.wr, hr.df, hr.kh, hr.kt⟩
  · have := hr.tm.1
    show a.tmps.toList.length = (setVs lv vs' (List.replicate n .any)).length
    rw [← e1]; exact this
  · have hv : (setVs lv vs' (List.replicate n .any))[j]? = some v := hv
    have hlt : j < (setVs lv vs (List.replicate n .any)).length := by
      rw [e1]
      rcases Nat.lt_or_ge j (setVs lv vs' (List.replicate n .any)).length with h | h
      · exact h
      · rw [List.getElem?_eq_none h] at hv; cases hv
    exact e2 j _ v (List.getElem?_eq_getElem hlt) hv cv (hr.tm.2 j _ cv (List.getElem?_eq_getElem hlt) hc)
theorem HP.rd1_imp {h : HP} {vs : List V} {ob : Ob} {nm : Nm} {x : h.den} (hx : h.rd1 vs ob nm = some x) : St.imp Γ (St.of h.n h.lv vs ob nm h.kh h.kt) (h.st x) := by
  unfold HP.rd1 at hx
  split at hx
  · rename_i s hs
    split at hx
    · rename_i o ho
      split at hx
      · rename_i b hb
        cases hx
        obtain ⟨s1, s2⟩ := SP.rds_ok hs
        obtain ⟨o1, o2, o3⟩ := OP.rds_ok ho
        obtain ⟨b1, b2, b3⟩ := BP.rds_ok hb
        intro G a w hr
        have h1 := St.of_imps (Γ := Γ) (n := h.n) (lv := h.lv) (ob := ob) (nm := nm) (kh := h.kh) (kt := h.kt) s1.symm s2 G a w hr
        exact ⟨h1.tm, (h1.wr.weakOb o1 o2 o3).weakNm b1 b2 b3, h1.df, h1.kh, h1.kt⟩
      · cases hx
    · cases hx
  · cases hx
theorem nil_bs' {G : Gh} {n off : Nat} {sy : Bool} {cv : Value} (h : VRel G (.lst .full []) cv) : VRel G (.bs sy n off 0) cv := by
  cases h with
  | lst0 => exact .bs0 _ _ _
  | @lst _ _ b off cap sz cvs h1 h2 h3 h4 h5 h6 =>
    have h6 : cap = 0 := h6
    subst h6
    exact .bs1 _ _ _ _ _
/-- A nil slice in an object, as an empty buffer. -/
theorem St.birthOb {kh kt n : Nat} {lv : List Nat} {vs : List V} {ob : Ob} {nm : Nm} (o k : Nat) {cs : List V} (ho : ob[o]? = some (some cs)) (hk : cs[k]? = some (.lst .full [])) {c : BC} (hc : c.len = 0) :
    St.imp Γ (St.of n lv vs ob nm kh kt) (St.of n lv vs (ob.set o (some (cs.set k (.bs true nm.length 0 0)))) (nm ++ [some (.live c)]) kh kt) := by
  intro G a w hr
  refine ⟨hr.tm, ?_, hr.df, hr.kh, hr.kt⟩
  have h1 := hr.wr.padded 0 1
  simp only [List.replicate_zero, List.append_nil] at h1
  have h2 := h1.unborn (s := nm.length) (by simp [St.of]) hc
  have e : (nm ++ List.replicate 1 none).set nm.length (some (Bf.live c)) = nm ++ [some (.live c)] := by simp
  have h3 : WRel Γ G ob (nm ++ [some (.live c)]) w := by rw [← e]; exact h2
  have key : WRel Γ G (ob.set o (some (cs.set k (.bs true nm.length 0 0)))) (nm ++ [some (.live c)]) w := by
   refine h3.weakOb (by simp) (fun o' cs' h => ?_) (fun o' h => ?_)
   · rw [List.getElem?_set] at h
     split at h
     · rename_i e
       subst e
       split at h
       · cases h
         refine ⟨cs, ho, by simp, fun j x' hx => ?_⟩
         rw [List.getElem?_set] at hx
         split at hx
         · rename_i e
           subst e
           split at hx
           · cases hx
             exact ⟨_, hk, fun G cv h => nil_bs' h⟩
           · cases hx
         · exact ⟨x', hx, fun _ _ h => h⟩
       · cases h
     · exact ⟨cs', h, rfl, fun j x' hx => ⟨x', hx, fun _ _ h => h⟩⟩
   · rw [List.getElem?_set] at h
     split at h
     · split at h <;> cases h
     · exact h
  exact key
theorem imp_trans {x y z : St} (h : St.imp Γ x y) (k : St.imp Γ y z) : St.imp Γ x z := fun G a w hr => k G a w (h G a w hr)
theorem birthsV_imp {kh kt n : Nat} {lv : List Nat} {ob : Ob} (hlv : nodupB lv = true) : ∀ (l : List (Nat × Ty)) {vs : List V} {nm : Nm}, vs.length = lv.length →
    (birthsV l vs nm).1.length = lv.length ∧ St.imp Γ (St.of n lv vs ob nm kh kt) (St.of n lv (birthsV l vs nm).1 ob (birthsV l vs nm).2 kh kt)
  | [], vs, nm, hl => ⟨hl, fun _ _ _ h => h⟩
  | (k, t) :: r, vs, nm, hl => by
    simp only [birthsV]
    split
    · rename_i hk
      obtain ⟨h1, h2⟩ := birthsV_imp (ob := ob) hlv r (vs := vs.set k (.bs true nm.length 0 0)) (nm := nm ++ [some (.live (.arr t []))]) (by simpa using hl)
      exact ⟨h1, imp_trans (St.birth k rfl hk (c := .arr t []) rfl hlv hl) h2⟩
    · exact birthsV_imp hlv r hl
theorem birthsO_imp {kh kt n : Nat} {lv : List Nat} {vs : List V} : ∀ (l : List (Nat × Nat × Ty)) {ob : Ob} {nm : Nm},
    St.imp Γ (St.of n lv vs ob nm kh kt) (St.of n lv vs (birthsO l ob nm).1 (birthsO l ob nm).2 kh kt)
  | [], ob, nm => fun _ _ _ h => h
  | (o, k, t) :: r, ob, nm => by
    simp only [birthsO]
    split
    · rename_i cs ho
      split
      · rename_i hk
        exact imp_trans (St.birthOb o k ho hk (c := .arr t []) rfl) (birthsO_imp r)
      · exact birthsO_imp r
    · exact birthsO_imp r
theorem setVs_len : ∀ (lv : List Nat) (vs l : List V), (setVs lv vs l).length = l.length
  | [], _, _ => by simp [setVs]
  | d :: ds, [], l => by simp [setVs]
  | d :: ds, v :: vs, l => by simp only [setVs]; rw [setVs_len ds vs]; simp
theorem HP.rd_ok {h : HP} {b : Code} {kh kt : Nat} {vs : List V} {ob : Ob} {nm : Nm} {x : h.den} (hx : h.rd kh kt vs ob nm = some x) {e : Exit} {s : St} (k : SemL P Γ b (h.st x) e s) : SemL P Γ b (St.of h.n h.lv vs ob nm kh kt) e s := by
  unfold HP.rd at hx
  split at hx
  · cases hx
  · rename_i hc
    simp only [Bool.and_eq_true] at hc
    obtain ⟨⟨⟨c1, c2⟩, c3⟩, c4⟩ := hc
    obtain rfl := Nat.eq_of_beq_eq_true c1
    obtain rfl := Nat.eq_of_beq_eq_true c2
    have c3 := Nat.eq_of_beq_eq_true c3
    split at hx
    · exact k.pre (HP.rd1_imp hx)
    · obtain ⟨g1, g2⟩ := birthsV_imp (Γ := Γ) (kh := h.kh) (kt := h.kt) (n := h.n) (ob := ob) c4 h.bv (vs := vs) (nm := nm) c3
      have g3 := birthsO_imp (Γ := Γ) (kh := h.kh) (kt := h.kt) (n := h.n) (lv := h.lv) (vs := (birthsV h.bv vs nm).1) h.bo (ob := ob) (nm := (birthsV h.bv vs nm).2)
      refine SemL.pre ?_ (imp_trans g2 g3)
      have hx : h.rd2 (birthsV h.bv vs nm).1 (birthsO h.bo ob (birthsV h.bv vs nm).2).1 (birthsO h.bo ob (birthsV h.bv vs nm).2).2 = some x := hx
      unfold HP.rd2 at hx
      split at hx
      · rename_i r hr
        obtain ⟨v2, ob2, nm2⟩ := r
        exact SemL.preRen (n := h.n) (by simp [St.of, setVs_len]) hr (k.pre (HP.rd1_imp hx))
      · cases hx
/-- The entry of a loop, by a pattern. -/
def LEnt.by (h : HP) (res : h.den → Tr (Ex × St)) : LEnt := ⟨h.n, h.lv, fun kh kt vs ob nm => match h.rd kh kt vs ob nm with | some x => some (res x) | none => none⟩
def EntOk (P : Program) (Γ : Nat → Option V) (b : Code) (e : LEnt) : Prop := ∀ kh kt vs ob nm t ex s, e.go kh kt vs ob nm = some t → t.run = some (ex, s) → SemL P Γ b (St.of e.n e.lv vs ob nm kh kt) ex.to s
theorem LEnt.by_ok {h : HP} {res : h.den → Tr (Ex × St)} {b : Code} (H : ∀ x ex s, (res x).run = some (ex, s) → SemL P Γ b (h.st x) ex.to s) : EntOk P Γ b (LEnt.by h res) := fun kh kt vs ob nm t ex s hg ht => by
  simp only [LEnt.by] at hg
  split at hg
  · rename_i x hx
    cases hg
    exact HP.rd_ok hx (H x ex s ht)
  · cases hg
/-- Two patterns. -/
def LEnt.or (a c : LEnt) : LEnt := ⟨a.n, a.lv, fun kh kt vs ob nm => match a.go kh kt vs ob nm with | some t => some t | none => c.go kh kt vs ob nm⟩
theorem LEnt.or_ok {a c : LEnt} {b : Code} (ha : EntOk P Γ b a) (hc : EntOk P Γ b c) (h1 : a.n = c.n) (h2 : a.lv = c.lv) : EntOk P Γ b (a.or c) := fun kh kt vs ob nm t ex s hg ht => by
  simp only [LEnt.or] at hg ⊢
  split at hg
  · rename_i t' h
    cases hg
    exact ha _ _ _ _ _ _ _ _ h ht
  · rw [h1, h2]; exact hc _ _ _ _ _ _ _ _ hg ht
def LOrc.add (lo : LOrc) (f0 i0 : Nat) (e : LEnt) : LOrc := fun f i => match Nat.beq f f0 && Nat.beq i i0 with | true => some e | false => lo f i
theorem LOrcOk.add {lo : LOrc} (h : LOrcOk P Γ lo) (f0 i0 : Nat) {e : LEnt} {fn : Func} {root b : Code} (hf : P.funcs[f0]? = some fn) (hb : fn.body = some root) (hl : (loops root)[i0]? = some b) (he : EntOk P Γ b e) : LOrcOk P Γ (lo.add f0 i0 e) := fun f i e' h' => by
  simp only [LOrc.add] at h'
  split at h'
  · rename_i hc
    rw [Bool.and_eq_true] at hc
    obtain rfl := Nat.eq_of_beq_eq_true hc.1
    obtain rfl := Nat.eq_of_beq_eq_true hc.2
    cases h'
    exact ⟨fn, root, b, hf, hb, hl, he⟩
  · exact h _ _ _ h'
/-- A loop that counts from k on; it may leave before. -/
theorem SemL.scan {b : Code} (n k : Nat) (hk : k ≤ n) (emb : Nat → St) (p : Nat → Bool) (out : Ex × St)
    (hs : ∀ i, k ≤ i → i < n → (∀ j, k ≤ j → j < i → p j = true) → p i = true → SemC P Γ b (emb i) .normal (emb (i + 1)))
    (hb : ∀ i, k ≤ i → i < n → (∀ j, k ≤ j → j < i → p j = true) → p i = false → out.1.to ≠ .normal ∧ SemC P Γ b (emb i) out.1.to out.2)
    (he : (∀ j, k ≤ j → j < n → p j = true) → out.1.to ≠ .normal ∧ SemC P Γ b (emb n) out.1.to out.2) : SemL P Γ b (emb k) out.1.to out.2 :=
  SemL.ind (P := P) (Γ := Γ) (b := b) emb (fun i => n - i) (fun _ => out) (fun i => k ≤ i ∧ i ≤ n ∧ ∀ j, k ≤ j → j < i → p j = true) (fun i ⟨i1, i2, i3⟩ => by
    by_cases hlt : i < n
    · cases hp : p i with
      | true =>
        refine .inl ⟨i + 1, hs i i1 hlt i3 hp, ⟨by omega, hlt, fun j h1 h2 => ?_⟩, by show n - (i + 1) < n - i; omega, rfl⟩
        by_cases e : j = i
        · subst e; exact hp
        · exact i3 j h1 (by omega)
      | false => exact .inr (hb i i1 hlt i3 hp)
    · have e : i = n := by omega
      subst e
      exact .inr (he i3)) k ⟨Nat.le_refl _, hk, fun j h1 h2 => by omega⟩
/-- What a function comes to: the value and the memory that is still asked for. -/
def evV (P : Program) (Γ : Nat → Option V) (C : Cfg) (lv : List Nat) (f : FuncId) (args : List V) (ob : Ob) (nm : Nm) : Tr (V × Ob × Nm) :=
  (evFK P Γ (cfM P Γ C 30) C.lo lv 60 f args ob nm).bind fun p => match leafM ob.length nm.length p.1 p.2 with | .ok none v ob nm => .leaf (some (v, ob, nm)) | _ => .leaf none
theorem SemF.of_tree {C : Cfg} (hC : CfgOk P Γ C) {lv : List Nat} {f : FuncId} {args : List V} {ob ob1 : Ob} {nm nm1 : Nm} {v : V} (h : (evV P Γ C lv f args ob nm).run = some (v, ob1, nm1)) : SemF P Γ f args ob nm v ob1 nm1 := by
  unfold evV at h
  rw [Tr.run_bind] at h
  cases hr : (evFK P Γ (cfM P Γ C 30) C.lo lv 60 f args ob nm).run with
  | none => rw [hr] at h; cases h
  | some p =>
    rw [hr] at h
    simp only [Option.bind_some] at h
    split at h
    · rename_i v' ob' nm' hm
      have h := Option.some.inj h
      cases h
      refine mergeM_ok (.leaf (some p)) (fun v s hs => ?_) none _ _ _ hm rfl
      have hs : p = (v, s) := Option.some.inj hs
      subst hs
      exact evFK_sound (cfM_fit hC 30).1 (cfM_fit hC 30).2 hC.mixed hC.lo hr
    · cases h
theorem Tr.run_ite {α : Type} {C : Prop} [Decidable C] {x y : Tr α} {a b : α} (hx : x.run = some a) (hy : y.run = some b) : (Tr.br (decide C) x y).run = some (if C then a else b) := by
  by_cases h : C
  · rw [if_pos h, decide_eq_true h]; exact hx
  · rw [if_neg h, decide_eq_false h]; exact hy
theorem Tr.run_no {α : Type} {C : Prop} [Decidable C] {x : Tr α} (h : ¬ C) : (Tr.br (decide C) x (.leaf none)).run = none := by
  rw [decide_eq_false h]; rfl
/-- Where the first element with a property is. -/
theorem findIdx_at {α : Type} {l : List α} {p : α → Bool} (d : α) {i : Nat} (hi : i < l.length) (h : ∀ j, j < i → p (l.getD j d) = false) (hp : p (l.getD i d) = true) : l.findIdx p = i := by
  have e : ∀ j (hj : j < l.length), l.getD j d = l[j] := fun j hj => by simp [List.getD, hj]
  rw [List.findIdx_eq hi]
  exact ⟨by rw [← e i hi]; exact hp, fun j hj => by rw [← e j (by omega)]; exact h j hj⟩
theorem findIdx_no {α : Type} {l : List α} {p : α → Bool} (d : α) (h : ∀ j, j < l.length → p (l.getD j d) = false) : l.findIdx p = l.length := by
  rw [List.findIdx_eq_length]
  intro x hx
  obtain ⟨i, hi, rfl⟩ := List.getElem_of_mem hx
  have := h i hi
  simpa [List.getD, hi] using this
theorem findIdx_before {α : Type} {l : List α} {p : α → Bool} (d : α) {j : Nat} (h : j < l.findIdx p) : p (l.getD j d) = false := by
  have hl : j < l.length := Nat.lt_of_lt_of_le h List.findIdx_le_length
  have := List.not_of_lt_findIdx h
  simpa [List.getD, hl] using this
theorem findIdx_here {α : Type} {l : List α} {p : α → Bool} (d : α) (h : l.findIdx p < l.length) : p (l.getD (l.findIdx p) d) = true := by
  have := List.findIdx_getElem (w := h)
  simpa [List.getD, h] using this
/-- What a contract asks of the arguments, the objects and the buffers. -/
structure FP where
  sp : List SP
  op : List OP
  bp : List BP
structure FP.den (h : FP) where
  s : SP.dens h.sp
  o : OP.dens h.op
  b : BP.dens h.bp
def FP.rd (h : FP) (vs : List V) (ob : Ob) (nm : Nm) : Option h.den :=
  match SP.rds h.sp vs with
  | some s => (match OP.rds h.op ob with | some o => (match BP.rds h.bp nm with | some b => some ⟨s, o, b⟩ | none => none) | none => none)
  | none => none
theorem SemF.by_pat {f : FuncId} {h : FP} {args : List V} {ob ob1 : Ob} {nm nm1 : Nm} {v : V} {x : h.den} (hx : h.rd args ob nm = some x) (k : SemF P Γ f (SP.vals h.sp x.s) (OP.vals h.op x.o) (BP.vals h.bp x.b) v ob1 nm1) : SemF P Γ f args ob nm v ob1 nm1 := by
  unfold FP.rd at hx
  split at hx
  · rename_i s hs
    split at hx
    · rename_i o ho
      split at hx
      · rename_i b hb
        cases hx
        obtain ⟨s1, s2⟩ := SP.rds_ok hs
        obtain ⟨o1, o2, o3⟩ := OP.rds_ok ho
        obtain ⟨b1, b2, b3⟩ := BP.rds_ok hb
        intro G w cargs hw hr
        refine k G w cargs ((hw.weakOb o1 o2 o3).weakNm b1 b2 b3) ⟨hr.1.trans s1.symm, fun j u cv hu hc => ?_⟩
        have hlt : j < args.length := by
          have : j < cargs.length := by
            rcases Nat.lt_or_ge j cargs.length with h | h
            · exact h
            · rw [List.getElem?_eq_none h] at hc; cases hc
          rwa [hr.1] at this
        exact s2 G j _ u (List.getElem?_eq_getElem hlt) hu cv (hr.2 j _ cv (List.getElem?_eq_getElem hlt) hc)
      · cases hx
    · cases hx
  · cases hx
def Ct.by (h : FP) (res : h.den → Option Bool × V × Ob × Nm) : List V → Ob → Nm → Option (Option Bool × V × Ob × Nm) := fun args ob nm => match h.rd args ob nm with | some x => some (res x) | none => none
theorem Ct.by_ok {f : FuncId} {h : FP} {res : h.den → Option Bool × V × Ob × Nm} (H : ∀ x, (res x).1.getD true = true → SemF P Γ f (SP.vals h.sp x.s) (OP.vals h.op x.o) (BP.vals h.bp x.b) (res x).2.1 (res x).2.2.1 (res x).2.2.2) :
    ∀ args ob nm c v ob1 nm1, Ct.by h res args ob nm = some (c, v, ob1, nm1) → c.getD true = true → SemF P Γ f args ob nm v ob1 nm1 := fun args ob nm c v ob1 nm1 hc ht => by
  unfold Ct.by at hc
  split at hc
  · rename_i x hx
    have hc := Option.some.inj hc
    have k := H x
    rw [hc] at k
    exact SemF.by_pat hx (k ht)
  · cases hc
/-- Two patterns of one function. -/
def Ct.or (a b : List V → Ob → Nm → Option (Option Bool × V × Ob × Nm)) : List V → Ob → Nm → Option (Option Bool × V × Ob × Nm) := fun args ob nm => match a args ob nm with | some x => some x | none => b args ob nm
theorem Ct.or_ok {f : FuncId} {a b : List V → Ob → Nm → Option (Option Bool × V × Ob × Nm)} (ha : ∀ args ob nm c v ob1 nm1, a args ob nm = some (c, v, ob1, nm1) → c.getD true = true → SemF P Γ f args ob nm v ob1 nm1)
    (hb : ∀ args ob nm c v ob1 nm1, b args ob nm = some (c, v, ob1, nm1) → c.getD true = true → SemF P Γ f args ob nm v ob1 nm1) : ∀ args ob nm c v ob1 nm1, Ct.or a b args ob nm = some (c, v, ob1, nm1) → c.getD true = true → SemF P Γ f args ob nm v ob1 nm1 := fun args ob nm c v ob1 nm1 h ht => by
  unfold Ct.or at h
  split at h
  · rename_i x hx
    cases h
    exact ha _ _ _ _ _ _ _ hx ht
  · exact hb _ _ _ _ _ _ _ h ht
/-- A nil slice in an object that a call leaves, as an empty part of any buffer. -/
theorem SemF.nilBs {f : FuncId} {args : List V} {ob ob1 : Ob} {nm nm1 : Nm} {v : V} (h : SemF P Γ f args ob nm v ob1 nm1) (o k n : Nat) {cs : List V} (ho : ob1[o]? = some (some cs)) (hk : cs[k]? = some (.lst .full [])) :
    SemF P Γ f args ob nm v (ob1.set o (some (cs.set k (.bs true n 0 0)))) nm1 := by
  intro G w cargs hw hr
  refine (h G w cargs hw hr).mono ?_
  rintro e w' ⟨cv, G1, rfl, hle, hv, hw1⟩
  refine ⟨cv, G1, rfl, hle, hv, ?_⟩
  refine hw1.weakOb (by simp) (fun o' cs' h => ?_) (fun o' h => ?_)
  · rw [List.getElem?_set] at h
    split at h
    · rename_i e
      subst e
      split at h
      · cases h
        refine ⟨cs, ho, by simp, fun j x' hx => ?_⟩
        rw [List.getElem?_set] at hx
        split at hx
        · rename_i e
          subst e
          split at hx
          · cases hx
            exact ⟨_, hk, fun G cv h => nil_bs' h⟩
          · cases hx
        · exact ⟨x', hx, fun _ _ h => h⟩
      · cases h
    · exact ⟨cs', h, rfl, fun j x' hx => ⟨x', hx, fun _ _ h => h⟩⟩
  · rw [List.getElem?_set] at h
    split at h
    · split at h <;> cases h
    · exact h
/-- A memory behind, of which less is said. -/
theorem SemF.post_pat {f : FuncId} {args : List V} {ob ob1 : Ob} {nm nm1 : Nm} {v : V} (h : SemF P Γ f args ob nm v ob1 nm1) {op : List OP} {bp : List BP} {x : OP.dens op} {y : BP.dens bp} (ho : OP.rds op ob1 = some x) (hb : BP.rds bp nm1 = some y) :
    SemF P Γ f args ob nm v (OP.vals op x) (BP.vals bp y) := by
  intro G w cargs hw hr
  refine (h G w cargs hw hr).mono ?_
  rintro e w' ⟨cv, G1, rfl, hle, hv, hw1⟩
  obtain ⟨o1, o2, o3⟩ := OP.rds_ok ho
  obtain ⟨b1, b2, b3⟩ := BP.rds_ok hb
  exact ⟨cv, G1, rfl, hle, hv, (hw1.weakOb o1 o2 o3).weakNm b1 b2 b3⟩
end
end Go.Proofs.Ytnjjkobijjdnbaa

/- Package disk: the library's IndexFunc and DeleteFunc with the closure of Crash. -/
set_option linter.unusedVariables false
set_option linter.unusedSimpArgs false
set_option maxRecDepth 100000
set_option maxHeartbeats 4000000
namespace Go.Proofs.Ytnjjkobijjdnbaa
open Go
namespace D
abbrev Γ : Nat → Option V := G0
abbrev ity : Ty := .int .i64
abbrev bty : Ty := .int .u8
/-- Numbers that are none of the first m. -/
def out (m : Nat) (x : Int) : Bool := bif decide (x < 0) then true else decide (x ≥ (m : Int))
def hp_ix : HP := { n := 19, lv := [0, 1, 7, 8], sp := [.ty (.slice ity), .fn 42 [.pea [.pea [.ty .bool, .ty ity, .ty (.slice bty), .ty (.slice bty), .ty (.slice wp)]]], .ty ity, .ty ity], op := [], bp := [] }
def lve_ix : Ex → List Nat
  | .normal => [0, 1, 7, 8]
  | .ret => [4]
  | .exit 0 => []
  | _ => []
theorem bd_ix : Try.f48.body = some (root 48) := by kernel_rfl
theorem le_ix : (loops (root 48))[0]? = some (lp 48 0) := by kernel_rfl
theorem li_ix : Lies (root 48) 1 (lp 48 0) := Lies.of_take (n := 0) (by kernel_rfl)
def st_ix (c : List Int) (o : Bool) (lf : Int) (d v : List Int) (q : List (Ty.den wp)) (n i : Int) : St := hp_ix.st ⟨(c, (((o, lf, d, v, q, ()), ()), ()), n, i, ()), (), ()⟩
noncomputable def rn_ix (c : List Int) (o : Bool) (lf : Int) (d v : List Int) (q : List (Ty.den wp)) (n i : Int) := outa lve_ix (evCK Try.prog Γ (cfM Try.prog Γ cfgI 30) (cfgI.lo 48) [] 60 1 (lp 48 0) (st_ix c o lf d v q n i))
theorem rn_ix_eq (c : List Int) (o : Bool) (lf : Int) (d v : List Int) (q : List (Ty.den wp)) (n i : Int) : (rn_ix c o lf d v q n i).run = (bif decide (i < n) then (bif decide ((0 : Int) ≤ i ∧ i < (Nat.cast (c.length) : Int)) then (bif bif decide (c.getD i.toNat (0 : Int) < (0 : Int)) then true else decide (c.getD i.toNat (0 : Int) ≥ (Nat.cast (q.length) : Int)) then (some (Ex.ret, [V.si IntKind.i64 i], [], [], (19 : Nat), (0 : Nat), (0 : Nat))) else (some (Ex.normal, [V.slst Tag.ro ity c, V.fn (Fn.func (42 : FuncId)) [] [V.pel [V.agg [V.pel [V.agg [V.sb o, V.si IntKind.i64 lf, V.slst Tag.ro bty d, V.slst Tag.ro bty v, V.slst Tag.ro wp q]] (0 : Nat) (0 : Nat)]] (0 : Nat) (0 : Nat)], V.si IntKind.i64 n, V.si IntKind.i64 (IntKind.i64.wrap (i + (1 : Int)))], [], [], (19 : Nat), (0 : Nat), (0 : Nat)))) else none) else (some (Ex.exit (0 : Nat), [], [], [], (19 : Nat), (0 : Nat), (0 : Nat)))) := by kernel_rfl
theorem rn_ix_c (c : List Int) (o : Bool) (lf : Int) (d v : List Int) (q : List (Ty.den wp)) (n i : Int) {e : Ex} {vs : List V} {ob : Ob} {nm : Nm} {n' kh kt : Nat} (h : (rn_ix c o lf d v q n i).run = some (e, vs, ob, nm, n', kh, kt)) : SemC Try.prog Γ (lp 48 0) (st_ix c o lf d v q n i) e.to (St.of n' (lve_ix e) vs ob nm kh kt) := SemC.of_evM cfgI_ok Try.func48 bd_ix li_ix h
abbrev pre_ix (c : List Int) (o : Bool) (lf : Int) (d v : List Int) (q : List (Ty.den wp)) (n i : Int) : Prop := n = (c.length : Int) ∧ i = 0 ∧ c.length ≤ 1000000
def rs_ix (c : List Int) (o : Bool) (lf : Int) (d v : List Int) (q : List (Ty.den wp)) (n i : Int) : Ex × St := if c.findIdx (out q.length) < c.length then (.ret, St.of 19 (lve_ix (.ret)) [.si .i64 (c.findIdx (out q.length) : Nat)] [] [] hp_ix.kh hp_ix.kt) else (.exit 0, St.of 19 (lve_ix (.exit 0)) [] [] [] hp_ix.kh hp_ix.kt)
def res_ix (c : List Int) (o : Bool) (lf : Int) (d v : List Int) (q : List (Ty.den wp)) (n i : Int) : Tr (Ex × St) := .br (decide (pre_ix c o lf d v q n i)) (.br (decide (c.findIdx (out q.length) < c.length)) (.leaf (some (.ret, St.of 19 (lve_ix (.ret)) [.si .i64 (c.findIdx (out q.length) : Nat)] [] [] hp_ix.kh hp_ix.kt))) (.leaf (some (.exit 0, St.of 19 (lve_ix (.exit 0)) [] [] [] hp_ix.kh hp_ix.kt)))) (.leaf none)
theorem res_ix_run (c : List Int) (o : Bool) (lf : Int) (d v : List Int) (q : List (Ty.den wp)) (n i : Int) (h : pre_ix c o lf d v q n i) : (res_ix c o lf d v q n i).run = some (rs_ix c o lf d v q n i) := by
  unfold res_ix rs_ix
  rw [decide_eq_true h]
  exact (Tr.run_ite rfl rfl)
theorem res_ix_no (c : List Int) (o : Bool) (lf : Int) (d v : List Int) (q : List (Ty.den wp)) (n i : Int) (h : ¬ pre_ix c o lf d v q n i) : (res_ix c o lf d v q n i).run = none := Tr.run_no h
def ent_ix : LEnt := LEnt.by hp_ix fun ⟨(c, (((o, lf, d, v, q, _), _), _), n, i, _), _, _⟩ => res_ix c o lf d v q n i
theorem ent_ix_ok (hgo : ∀ (c : List Int) (o : Bool) (lf : Int) (d v : List Int) (q : List (Ty.den wp)) (n i : Int), pre_ix c o lf d v q n i → SemL Try.prog Γ (lp 48 0) (st_ix c o lf d v q n i) (rs_ix c o lf d v q n i).1.to (rs_ix c o lf d v q n i).2) : EntOk Try.prog Γ (lp 48 0) ent_ix := LEnt.by_ok fun ⟨(c, (((o, lf, d, v, q, _), _), _), n, i, _), _, _⟩ ex_ s_ h_ => by
  have h_ : (res_ix c o lf d v q n i).run = some (ex_, s_) := h_
  by_cases hp_ : pre_ix c o lf d v q n i
  · rw [res_ix_run c o lf d v q n i hp_] at h_
    obtain ⟨rfl, rfl⟩ := Prod.mk.inj (Option.some.inj h_)
    exact hgo c o lf d v q n i hp_
  · rw [res_ix_no c o lf d v q n i hp_] at h_
    cases h_
theorem ix_go (c : List Int) (o : Bool) (lf : Int) (d v : List Int) (q : List (Ty.den wp)) (n i : Int) (h : n = (c.length : Int) ∧ i = 0 ∧ c.length ≤ 1000000) : SemL Try.prog Γ (lp 48 0) (st_ix c o lf d v q n i) (rs_ix c o lf d v q n i).1.to (rs_ix c o lf d v q n i).2 := by
  obtain ⟨rfl, rfl, hc⟩ := h
  refine SemL.scan c.length 0 (Nat.zero_le _) (fun i => st_ix c o lf d v q c.length (i : Nat)) (fun i => !out q.length (c.getD i 0)) _ ?_ ?_ ?_
  · intro i _ hi hb hp
    refine rn_ix_c c o lf d v q c.length i (e := .normal) ?_
    have hw : IntKind.i64.wrap ((i : Int) + 1) = ((i + 1 : Nat) : Int) := by rw [wrap_in (by omega) (by omega)]; rfl
    rw [rn_ix_eq, hw, decide_eq_true (by omega : (i : Int) < c.length), decide_eq_true (by omega), Int.toNat_natCast]
    have hp' : out q.length (c.getD i 0) = false := by simpa using hp
    unfold out at hp'
    rw [hp']
    rfl
  · intro i _ hi hb hp
    have hp' : out q.length (c.getD i 0) = true := by simpa using hp
    have e : c.findIdx (out q.length) = i := findIdx_at 0 hi (fun j hj => by simpa using hb j (Nat.zero_le _) hj) hp'
    unfold rs_ix
    rw [if_pos (by omega), e]
    refine ⟨by simp [Ex.to], rn_ix_c c o lf d v q c.length i (e := .ret) ?_⟩
    rw [rn_ix_eq, decide_eq_true (by omega : (i : Int) < c.length), decide_eq_true (by omega), Int.toNat_natCast]
    unfold out at hp'
    rw [hp']
    rfl
  · intro hb
    have e : c.findIdx (out q.length) = c.length := findIdx_no 0 (fun j hj => by simpa using hb j (Nat.zero_le _) hj)
    unfold rs_ix
    rw [if_neg (by omega)]
    refine ⟨by simp [Ex.to], rn_ix_c c o lf d v q c.length c.length (e := .exit 0) ?_⟩
    rw [rn_ix_eq, decide_eq_false (by omega)]
    rfl
/-! DeleteFunc -/
def hp_del : HP := { n := 42, lv := [0, 1, 5, 6], sp := [.bz 0, .fn 42 [.ptr 0 0], .ty ity, .ty ity], op := [.cells [.ptr 1 0], .cells [.ty .bool, .ty ity, .bz 1, .bz 2, .bz 3]], bp := [.arr ity, .arr bty, .arr bty, .arr wp], kh := 2, kt := 4 }
def lve_del : Ex → List Nat
  | .normal => [0, 1, 5, 6]
  | .exit 0 => [0, 5]
  | _ => []
theorem bd_del : Try.f41.body = some (root 41) := by kernel_rfl
theorem le_del : (loops (root 41))[0]? = some (lp 41 0) := by kernel_rfl
theorem li_del : Lies (root 41) 1 (lp 41 0) := Lies.of_take (n := 0) (by kernel_rfl)
def st_del (j : Nat) (k i : Int) (o : Bool) (lf : Int) (n1 n2 m : Nat) (c d v : List Int) (q : List (Ty.den wp)) : St := hp_del.st ⟨(j, ((), ()), k, i, ()), (((), ()), (o, lf, n1, n2, m, ()), ()), (c, d, v, q, ())⟩
noncomputable def rn_del (j : Nat) (k i : Int) (o : Bool) (lf : Int) (n1 n2 m : Nat) (c d v : List Int) (q : List (Ty.den wp)) := outa lve_del (evCK Try.prog Γ (cfM Try.prog Γ cfgI 30) (cfgI.lo 41) [] 60 1 (lp 41 0) (st_del j k i o lf n1 n2 m c d v q))
theorem rn_del_eq (j : Nat) (k i : Int) (o : Bool) (lf : Int) (n1 n2 m : Nat) (c d v : List Int) (q : List (Ty.den wp)) : (rn_del j k i o lf n1 n2 m c d v q).run = (bif decide (i < (Nat.cast (j) : Int)) then (bif decide ((0 : Int) ≤ i ∧ i < (Nat.cast (j) : Int)) then (bif decide (0 + i.toNat < c.length) then (bif !bif decide (c.getD (0 + i.toNat) (0 : Int) < (0 : Int)) then true else decide (c.getD (0 + i.toNat) (0 : Int) ≥ (Nat.cast ((List.take m (List.drop (0) q)).length) : Int)) then (bif decide ((0 : Int) ≤ k ∧ k < (Nat.cast (j) : Int)) then (bif decide (0 + k.toNat < c.length) then (some (Ex.normal, [V.bs true (0 : Nat) (0 : Nat) j, V.fn (Fn.func (42 : FuncId)) [] [V.ptr (0 : Nat) (0 : Nat)], V.si IntKind.i64 (IntKind.i64.wrap (k + (1 : Int))), V.si IntKind.i64 (IntKind.i64.wrap (i + (1 : Int)))], [some [V.ptr (1 : Nat) (0 : Nat)], some [V.sb o, V.si IntKind.i64 lf, V.bs true (1 : Nat) (0 : Nat) n1, V.bs true (2 : Nat) (0 : Nat) n2, V.bs true (3 : Nat) (0 : Nat) m]], [some (Bf.live (BC.arr ity (c.set (0 + k.toNat) (c.getD (0 + i.toNat) (0 : Int))))), some (Bf.live (BC.arr bty d)), some (Bf.live (BC.arr bty v)), some (Bf.live (BC.arr wp q))], (42 : Nat), (2 : Nat), (4 : Nat))) else none) else none) else (some (Ex.normal, [V.bs true (0 : Nat) (0 : Nat) j, V.fn (Fn.func (42 : FuncId)) [] [V.ptr (0 : Nat) (0 : Nat)], V.si IntKind.i64 k, V.si IntKind.i64 (IntKind.i64.wrap (i + (1 : Int)))], [some [V.ptr (1 : Nat) (0 : Nat)], some [V.sb o, V.si IntKind.i64 lf, V.bs true (1 : Nat) (0 : Nat) n1, V.bs true (2 : Nat) (0 : Nat) n2, V.bs true (3 : Nat) (0 : Nat) m]], [some (Bf.live (BC.arr ity c)), some (Bf.live (BC.arr bty d)), some (Bf.live (BC.arr bty v)), some (Bf.live (BC.arr wp q))], (42 : Nat), (2 : Nat), (4 : Nat)))) else none) else none) else (some (Ex.exit (0 : Nat), [V.bs true (0 : Nat) (0 : Nat) j, V.si IntKind.i64 k], [some [V.ptr (1 : Nat) (0 : Nat)], some [V.sb o, V.si IntKind.i64 lf, V.bs true (1 : Nat) (0 : Nat) n1, V.bs true (2 : Nat) (0 : Nat) n2, V.bs true (3 : Nat) (0 : Nat) m]], [some (Bf.live (BC.arr ity c)), some (Bf.live (BC.arr bty d)), some (Bf.live (BC.arr bty v)), some (Bf.live (BC.arr wp q))], (42 : Nat), (2 : Nat), (4 : Nat)))) := by kernel_rfl
theorem rn_del_c (j : Nat) (k i : Int) (o : Bool) (lf : Int) (n1 n2 m : Nat) (c d v : List Int) (q : List (Ty.den wp)) {e : Ex} {vs : List V} {ob : Ob} {nm : Nm} {n' kh kt : Nat} (h : (rn_del j k i o lf n1 n2 m c d v q).run = some (e, vs, ob, nm, n', kh, kt)) : SemC Try.prog Γ (lp 41 0) (st_del j k i o lf n1 n2 m c d v q) e.to (St.of n' (lve_del e) vs ob nm kh kt) := SemC.of_evM cfgI_ok Try.func41 bd_del li_del h
/-- What is kept of the first i numbers; the list with these in front. -/
def kp (m : Nat) (c : List Int) (i : Nat) : List Int := (c.take i).filter fun x => !out m x
def kpL (m : Nat) (c : List Int) (i : Nat) : List Int := kp m c i ++ c.drop (kp m c i).length
theorem kp_le (m : Nat) (c : List Int) (i : Nat) : (kp m c i).length ≤ i := Nat.le_trans (List.length_filter_le _ _) (by rw [List.length_take]; omega)
theorem kp_succ {m : Nat} {c : List Int} {i : Nat} (h : i < c.length) : kp m c (i + 1) = kp m c i ++ (bif out m (c.getD i 0) then [] else [c.getD i 0]) := by
  unfold kp
  rw [List.take_add_one, List.getElem?_eq_getElem h, List.filter_append]
  have : c.getD i 0 = c[i] := by simp [List.getD, h]
  rw [this]
  cases ho : out m c[i] <;> simp [ho]
theorem kpL_len {m : Nat} {c : List Int} {i : Nat} (h : i ≤ c.length) : (kpL m c i).length = c.length := by
  have := kp_le m c i
  unfold kpL
  rw [List.length_append, List.length_drop]; omega
theorem kpL_get {m : Nat} {c : List Int} {i p : Nat} (h : i ≤ p) : (kpL m c i).getD p 0 = c.getD p 0 := app_get (Nat.le_trans (kp_le m c i) h)
theorem kp_at {m : Nat} {c : List Int} (h : c.findIdx (out m) < c.length) : kp m c (c.findIdx (out m) + 1) = c.take (c.findIdx (out m)) := by
  have h1 : kp m c (c.findIdx (out m)) = c.take (c.findIdx (out m)) := by
    unfold kp
    rw [List.filter_eq_self]
    intro x hx
    obtain ⟨i, hi, rfl⟩ := List.getElem_of_mem hx
    rw [List.length_take] at hi
    have := findIdx_before (l := c) (p := out m) 0 (j := i) (by omega)
    simp only [List.getD, List.getElem?_eq_getElem (show i < c.length by omega), Option.getD_some] at this
    simp [this]
  rw [kp_succ h, h1, findIdx_here 0 h]
  simp
abbrev pre_del (j : Nat) (k i : Int) (o : Bool) (lf : Int) (n1 n2 m : Nat) (c d v : List Int) (q : List (Ty.den wp)) : Prop := n1 = n1 ∧ m ≤ q.length ∧ j ≤ c.length ∧ j ≤ 1000000 ∧ 0 ≤ k ∧ k < (j : Int) ∧ i = k + 1 ∧ (c.findIdx (out m) : Int) = k
def rs_del (j : Nat) (k i : Int) (o : Bool) (lf : Int) (n1 n2 m : Nat) (c d v : List Int) (q : List (Ty.den wp)) : Ex × St := (.exit 0, St.of 42 (lve_del (.exit 0)) [.bs true 0 0 j, .si .i64 ((kp m c j).length : Nat)] [some [.ptr 1 0], some [.sb o, .si .i64 lf, .bs true 1 0 n1, .bs true 2 0 n2, .bs true 3 0 m]] [il (kpL m c j), some (.live (.arr bty d)), some (.live (.arr bty v)), some (.live (.arr wp q))] hp_del.kh hp_del.kt)
def res_del (j : Nat) (k i : Int) (o : Bool) (lf : Int) (n1 n2 m : Nat) (c d v : List Int) (q : List (Ty.den wp)) : Tr (Ex × St) := .br (decide (pre_del j k i o lf n1 n2 m c d v q)) (.leaf (some (.exit 0, St.of 42 (lve_del (.exit 0)) [.bs true 0 0 j, .si .i64 ((kp m c j).length : Nat)] [some [.ptr 1 0], some [.sb o, .si .i64 lf, .bs true 1 0 n1, .bs true 2 0 n2, .bs true 3 0 m]] [il (kpL m c j), some (.live (.arr bty d)), some (.live (.arr bty v)), some (.live (.arr wp q))] hp_del.kh hp_del.kt))) (.leaf none)
theorem res_del_run (j : Nat) (k i : Int) (o : Bool) (lf : Int) (n1 n2 m : Nat) (c d v : List Int) (q : List (Ty.den wp)) (h : pre_del j k i o lf n1 n2 m c d v q) : (res_del j k i o lf n1 n2 m c d v q).run = some (rs_del j k i o lf n1 n2 m c d v q) := by
  unfold res_del rs_del
  rw [decide_eq_true h]
  exact rfl
theorem res_del_no (j : Nat) (k i : Int) (o : Bool) (lf : Int) (n1 n2 m : Nat) (c d v : List Int) (q : List (Ty.den wp)) (h : ¬ pre_del j k i o lf n1 n2 m c d v q) : (res_del j k i o lf n1 n2 m c d v q).run = none := Tr.run_no h
def ent_del : LEnt := LEnt.by hp_del fun ⟨(j, (_, _), k, i, _), ((_, _), (o, lf, n1, n2, m, _), _), (c, d, v, q, _)⟩ => res_del j k i o lf n1 n2 m c d v q
theorem ent_del_ok (hgo : ∀ (j : Nat) (k i : Int) (o : Bool) (lf : Int) (n1 n2 m : Nat) (c d v : List Int) (q : List (Ty.den wp)), pre_del j k i o lf n1 n2 m c d v q → SemL Try.prog Γ (lp 41 0) (st_del j k i o lf n1 n2 m c d v q) (rs_del j k i o lf n1 n2 m c d v q).1.to (rs_del j k i o lf n1 n2 m c d v q).2) : EntOk Try.prog Γ (lp 41 0) ent_del := LEnt.by_ok fun ⟨(j, (_, _), k, i, _), ((_, _), (o, lf, n1, n2, m, _), _), (c, d, v, q, _)⟩ ex_ s_ h_ => by
  have h_ : (res_del j k i o lf n1 n2 m c d v q).run = some (ex_, s_) := h_
  by_cases hp_ : pre_del j k i o lf n1 n2 m c d v q
  · rw [res_del_run j k i o lf n1 n2 m c d v q hp_] at h_
    obtain ⟨rfl, rfl⟩ := Prod.mk.inj (Option.some.inj h_)
    exact hgo j k i o lf n1 n2 m c d v q hp_
  · rw [res_del_no j k i o lf n1 n2 m c d v q hp_] at h_
    cases h_
theorem del_go (j : Nat) (k i : Int) (o : Bool) (lf : Int) (n1 n2 m : Nat) (c d v : List Int) (q : List (Ty.den wp)) (h : n1 = n1 ∧ m ≤ q.length ∧ j ≤ c.length ∧ j ≤ 1000000 ∧ 0 ≤ k ∧ k < (j : Int) ∧ i = k + 1 ∧ (c.findIdx (out m) : Int) = k) :
    SemL Try.prog Γ (lp 41 0) (st_del j k i o lf n1 n2 m c d v q) (rs_del j k i o lf n1 n2 m c d v q).1.to (rs_del j k i o lf n1 n2 m c d v q).2 := by
  obtain ⟨_, hm, hj, hj2, h0, hk, rfl, hk2⟩ := h
  obtain ⟨k0, rfl⟩ := Int.eq_ofNat_of_zero_le h0
  have hk : k0 < j := by omega
  have hk2 : c.findIdx (out m) = k0 := by omega
  have hq : (List.take m (List.drop 0 q)).length = m := by rw [List.drop_zero, List.length_take]; omega
  have e0 : kp m c (k0 + 1) = c.take k0 := by rw [← hk2]; exact kp_at (by omega)
  have e1 : (kp m c (k0 + 1)).length = k0 := by rw [e0, List.length_take]; omega
  have e2 : kpL m c (k0 + 1) = c := by unfold kpL; rw [e1, e0, List.take_append_drop]
  have key := SemL.scan (P := Try.prog) (Γ := Γ) (b := lp 41 0) j (k0 + 1) (by omega) (fun i => st_del j ((kp m c i).length : Nat) (i : Nat) o lf n1 n2 m (kpL m c i) d v q) (fun _ => true) (.exit 0, (St.of 42 [0, 5] [.bs true 0 0 j, .si .i64 ((kp m c j).length : Nat)] [some [.ptr 1 0], some [.sb o, .si .i64 lf, .bs true 1 0 n1, .bs true 2 0 n2, .bs true 3 0 m]] [il (kpL m c j), some (.live (.arr bty d)), some (.live (.arr bty v)), some (.live (.arr wp q))] 2 4)) ?_ ?_ ?_
  · simp only [e1, e2] at key
    exact key
  · intro i h1 h2 _ _
    have hw : IntKind.i64.wrap ((i : Int) + 1) = ((i + 1 : Nat) : Int) := by rw [wrap_in (by omega) (by omega)]; rfl
    have hle := kp_le m c i
    have hw2 : IntKind.i64.wrap (((kp m c i).length : Int) + 1) = (((kp m c i).length + 1 : Nat) : Int) := by rw [wrap_in (by omega) (by omega)]; rfl
    have hL := kpL_len (m := m) (c := c) (i := i) (by omega)
    have hs := kp_succ (m := m) (c := c) (i := i) (by omega)
    have eq := rn_del_eq j (kp m c i).length i o lf n1 n2 m (kpL m c i) d v q
    rw [hq, hw, hw2, hL, Int.toNat_natCast, Int.toNat_natCast, Nat.zero_add, Nat.zero_add, kpL_get (Nat.le_refl _), decide_eq_true (by omega : (i : Int) < j), decide_eq_true (by omega : (0 : Int) ≤ i ∧ (i : Int) < j), decide_eq_true (by omega : i < c.length)] at eq
    have ho : (bif decide (c.getD i 0 < 0) then true else decide (c.getD i 0 ≥ (Nat.cast m : Int))) = out m (c.getD i 0) := rfl
    rw [ho] at eq
    cases hb : out m (c.getD i 0) with
    | true =>
      rw [hb] at eq hs
      simp only [cond_true, List.append_nil] at hs
      have := SemC.of_evM cfgI_ok Try.func41 bd_del li_del (eq.trans rfl)
      have hkl : kpL m c (i + 1) = kpL m c i := by unfold kpL; rw [hs]
      rw [hs, hkl]
      exact this
    | false =>
      rw [hb] at eq hs
      simp only [cond_false] at hs
      rw [decide_eq_true (by omega : (0 : Int) ≤ ((kp m c i).length : Nat) ∧ (((kp m c i).length : Nat) : Int) < j), decide_eq_true (by omega : (kp m c i).length < c.length)] at eq
      have hkl : (kpL m c i).set (kp m c i).length (c.getD i 0) = kpL m c (i + 1) := by
        unfold kpL
        rw [set_app (by omega), hs, List.length_append]
        rfl
      rw [hkl] at eq
      have := SemC.of_evM cfgI_ok Try.func41 bd_del li_del (eq.trans rfl)
      rw [show (kp m c (i + 1)).length = (kp m c i).length + 1 by rw [hs]; simp]
      exact this
  · intro i _ _ _ h; cases h
  · intro _
    refine ⟨by simp [Ex.to], ?_⟩
    have eq := rn_del_eq j (kp m c j).length j o lf n1 n2 m (kpL m c j) d v q
    rw [decide_eq_false (by omega : ¬ (j : Int) < j)] at eq
    exact SemC.of_evM cfgI_ok Try.func41 bd_del li_del (eq.trans rfl)
def loX : LOrc := (LOrc.add (LOrc.add (fun _ _ => none) 48 0 ent_ix) 41 0 ent_del)
theorem loX_ok : LOrcOk Try.prog Γ loX := (LOrcOk.add (LOrcOk.add LOrcOk.none 48 0 Try.func48 bd_ix le_ix (ent_ix_ok ix_go)) 41 0 Try.func41 bd_del le_del (ent_del_ok del_go))
noncomputable def cfgX : Cfg := { cfgI with lo := loX }
theorem cfgX_ok : CfgOk Try.prog Γ cfgX := { cfgI_ok with lo := loX_ok }
def delL (m : Nat) (c : List Int) (j : Nat) : List Int := kp m c j ++ List.replicate (j - (kp m c j).length) 0 ++ c.drop j
def fp_g41 : FP := ⟨[.bz 0, .fn 42 [.ptr 0 0]], [.cells [.ptr 1 0], .cells [.ty .bool, .ty ity, .bz 1, .bz 2, .bz 3]], [.arr ity, .arr bty, .arr bty, .arr wp]⟩
abbrev cn_g41 (j : Nat) (o : Bool) (lf : Int) (n1 n2 m : Nat) (c d v : List Int) (q : List (Ty.den wp)) : Prop := m ≤ q.length ∧ j ≤ c.length ∧ j ≤ 1000000
noncomputable def cr_g41 (j : Nat) (o : Bool) (lf : Int) (n1 n2 m : Nat) (c d v : List Int) (q : List (Ty.den wp)) : Option Bool × V × Ob × Nm := (some (decide (cn_g41 j o lf n1 n2 m c d v q)), .bs true 0 0 (kp m c j).length, [some [.ptr 1 0], some [.sb o, .si .i64 lf, .bs true 1 0 n1, .bs true 2 0 n2, .bs true 3 0 m]], [il (delL m c j), some (.live (.arr bty d)), some (.live (.arr bty v)), some (.live (.arr wp q))])
noncomputable def ct_g41 := Ct.by fp_g41 fun ⟨(j, (_, _), _), ((_, _), (o, lf, n1, n2, m, _), _), (c, d, v, q, _)⟩ => cr_g41 j o lf n1 n2 m c d v q
abbrev sf_g41 (j : Nat) (o : Bool) (lf : Int) (n1 n2 m : Nat) (c d v : List Int) (q : List (Ty.den wp)) : Prop := SemF Try.prog Γ 41 (SP.vals fp_g41.sp (j, ((), ()), ())) (OP.vals fp_g41.op (((), ()), (o, lf, n1, n2, m, ()), ())) (BP.vals fp_g41.bp (c, d, v, q, ())) (.bs true 0 0 (kp m c j).length) ([some [.ptr 1 0], some [.sb o, .si .i64 lf, .bs true 1 0 n1, .bs true 2 0 n2, .bs true 3 0 m]]) ([il (delL m c j), some (.live (.arr bty d)), some (.live (.arr bty v)), some (.live (.arr wp q))])
noncomputable def ev_g41 (C : Cfg) (lv : List Nat) (j : Nat) (o : Bool) (lf : Int) (n1 n2 m : Nat) (c d v : List Int) (q : List (Ty.den wp)) := evV Try.prog Γ C lv 41 (SP.vals fp_g41.sp (j, ((), ()), ())) (OP.vals fp_g41.op (((), ()), (o, lf, n1, n2, m, ()), ())) (BP.vals fp_g41.bp (c, d, v, q, ()))
theorem cr_g41_ok (j : Nat) (o : Bool) (lf : Int) (n1 n2 m : Nat) (c d v : List Int) (q : List (Ty.den wp)) (h : (cr_g41 j o lf n1 n2 m c d v q).1.getD true = true) : cn_g41 j o lf n1 n2 m c d v q := of_decide_eq_true h
theorem ct_g41_ok (H : ∀ (j : Nat) (o : Bool) (lf : Int) (n1 n2 m : Nat) (c d v : List Int) (q : List (Ty.den wp)), cn_g41 j o lf n1 n2 m c d v q → sf_g41 j o lf n1 n2 m c d v q) : ∀ args ob nm c v ob1 nm1, ct_g41 args ob nm = some (c, v, ob1, nm1) → c.getD true = true → SemF Try.prog Γ 41 args ob nm v ob1 nm1 := Ct.by_ok fun ⟨(j, (_, _), _), ((_, _), (o, lf, n1, n2, m, _), _), (c, d, v, q, _)⟩ h => H j o lf n1 n2 m c d v q (cr_g41_ok j o lf n1 n2 m c d v q h)
theorem t41_eq (j : Nat) (o : Bool) (lf : Int) (n1 n2 m : Nat) (c d v : List Int) (q : List (Ty.den wp)) : (ev_g41 cfgX [] j o lf n1 n2 m c d v q).run = (bif decide (pre_ix (List.take j (List.drop (0) c)) o lf (List.take n1 (List.drop (0) d)) (List.take n2 (List.drop (0) v)) (List.take m (List.drop (0) q)) (Nat.cast ((List.take j (List.drop (0) c)).length) : Int) (0 : Int)) then (bif (bif decide (List.findIdx (out (List.take m (List.drop (0) q)).length) (List.take j (List.drop (0) c)) < (List.take j (List.drop (0) c)).length) then (Nat.cast ((List.findIdx (out (List.take m (List.drop (0) q)).length) (List.take j (List.drop (0) c)))) : Int) else (-1 : Int)) == (-1 : Int) then (some (V.bs true (0 : Nat) (0 : Nat) j, [some [V.ptr (1 : Nat) (0 : Nat)], some [V.sb o, V.si IntKind.i64 lf, V.bs true (1 : Nat) (0 : Nat) n1, V.bs true (2 : Nat) (0 : Nat) n2, V.bs true (3 : Nat) (0 : Nat) m]], [some (Bf.live (BC.arr ity c)), some (Bf.live (BC.arr bty d)), some (Bf.live (BC.arr bty v)), some (Bf.live (BC.arr wp q))])) else (bif decide (pre_del j (bif decide (List.findIdx (out (List.take m (List.drop (0) q)).length) (List.take j (List.drop (0) c)) < (List.take j (List.drop (0) c)).length) then (Nat.cast ((List.findIdx (out (List.take m (List.drop (0) q)).length) (List.take j (List.drop (0) c)))) : Int) else (-1 : Int)) (IntKind.i64.wrap ((bif decide (List.findIdx (out (List.take m (List.drop (0) q)).length) (List.take j (List.drop (0) c)) < (List.take j (List.drop (0) c)).length) then (Nat.cast ((List.findIdx (out (List.take m (List.drop (0) q)).length) (List.take j (List.drop (0) c)))) : Int) else (-1 : Int)) + (1 : Int))) o lf n1 n2 m (c, d, v, q, ()).fst (d, v, q, ()).fst (v, q, ()).fst (q, ()).fst) then (bif decide ((0 : Int) ≤ (Nat.cast ((kp m (c, d, v, q, ()).fst j).length) : Int) ∧ (Nat.cast ((kp m (c, d, v, q, ()).fst j).length) : Int) ≤ (Nat.cast (j) : Int) ∧ (Nat.cast (j) : Int) ≤ (Nat.cast (j) : Int)) then (bif decide ((0 : Int) ≤ (0 : Int) ∧ (0 : Int) ≤ (Nat.cast ((kp m (c, d, v, q, ()).fst j).length) : Int) ∧ (Nat.cast ((kp m (c, d, v, q, ()).fst j).length) : Int) ≤ (Nat.cast (j) : Int)) then (some (V.bs true (0 : Nat) (0 : Nat) (((Nat.cast ((kp m (c, d, v, q, ()).fst j).length) : Int)).toNat - (0 : Nat)), [some [V.ptr (1 : Nat) (0 : Nat)], some [V.sb o, V.si IntKind.i64 lf, V.bs true (1 : Nat) (0 : Nat) n1, V.bs true (2 : Nat) (0 : Nat) n2, V.bs true (3 : Nat) (0 : Nat) m]], [some (Bf.live (BC.arr (Ty.int IntKind.i64) (List.take (0 + ((Nat.cast ((kp m (c, d, v, q, ()).fst j).length) : Int)).toNat) (List.drop (0) (kpL m (c, d, v, q, ()).fst j)) ++ List.take (((Nat.cast (j) : Int)).toNat - ((Nat.cast ((kp m (c, d, v, q, ()).fst j).length) : Int)).toNat) (List.drop (0) (List.replicate (((Nat.cast (j) : Int)).toNat - ((Nat.cast ((kp m (c, d, v, q, ()).fst j).length) : Int)).toNat) (0 : Int))) ++ List.take ((kpL m (c, d, v, q, ()).fst j).length - (0 + ((Nat.cast ((kp m (c, d, v, q, ()).fst j).length) : Int)).toNat + (((Nat.cast (j) : Int)).toNat - ((Nat.cast ((kp m (c, d, v, q, ()).fst j).length) : Int)).toNat))) (List.drop (0 + ((Nat.cast ((kp m (c, d, v, q, ()).fst j).length) : Int)).toNat + (((Nat.cast (j) : Int)).toNat - ((Nat.cast ((kp m (c, d, v, q, ()).fst j).length) : Int)).toNat)) (kpL m (c, d, v, q, ()).fst j))))), some (Bf.live (BC.arr bty (d, v, q, ()).fst)), some (Bf.live (BC.arr bty (v, q, ()).fst)), some (Bf.live (BC.arr wp (q, ()).fst))])) else none) else none) else none)) else none) := by kernel_rfl
theorem g41_go (j : Nat) (o : Bool) (lf : Int) (n1 n2 m : Nat) (c d v : List Int) (q : List (Ty.den wp)) (h : cn_g41 j o lf n1 n2 m c d v q) : sf_g41 j o lf n1 n2 m c d v q := by
  obtain ⟨hm, hj, hj2⟩ := h
  refine SemF.of_tree cfgX_ok (lv := []) (Eq.trans (t41_eq j o lf n1 n2 m c d v q) ?_)
  have hq : (List.take m q).length = m := by rw [List.length_take]; omega
  have ht : (List.take j c).length = j := by rw [List.length_take]; omega
  simp only [List.drop_zero, hq, ht]
  have p1 : pre_ix (List.take j c) o lf (List.take n1 d) (List.take n2 v) (List.take m q) (j : Int) 0 := ⟨by rw [ht], rfl, by rw [ht]; exact hj2⟩
  rw [decide_eq_true p1]
  have hf : (List.take j c).findIdx (out m) = min j (c.findIdx (out m)) := by rw [List.findIdx_take]
  have hle := kp_le m c j
  by_cases hlt : (List.take j c).findIdx (out m) < j
  · have hck : c.findIdx (out m) = (List.take j c).findIdx (out m) := by omega
    have hw : IntKind.i64.wrap ((((List.take j c).findIdx (out m) : Nat) : Int) + 1) = (((List.take j c).findIdx (out m) : Nat) : Int) + 1 := wrap_in (by omega) (by omega)
    have p2 : pre_del j (((List.take j c).findIdx (out m) : Nat) : Int) ((((List.take j c).findIdx (out m) : Nat) : Int) + 1) o lf n1 n2 m c d v q := ⟨rfl, hm, hj, hj2, by omega, by omega, rfl, by rw [hck]⟩
    have hne : ((((List.take j c).findIdx (out m) : Nat) : Int) == (-1 : Int)) = false := by rw [beq_eq_false_iff_ne]; omega
    rw [decide_eq_true hlt]
    simp only [cond_true, hw, hne, cond_false, Int.toNat_natCast, Nat.zero_add, Nat.sub_zero]
    rw [decide_eq_true p2, decide_eq_true (by omega), decide_eq_true (by omega)]
    simp only [cond_true]
    have hL := kpL_len (m := m) (c := c) (i := j) hj
    have hd : List.take (kp m c j).length (kpL m c j) = kp m c j := by unfold kpL; rw [List.take_left']; rfl
    have hd2 : List.drop ((kp m c j).length + (j - (kp m c j).length)) (kpL m c j) = c.drop j := by
      unfold kpL
      rw [Nat.add_sub_cancel' hle, List.drop_append, List.drop_eq_nil_of_le hle, List.nil_append, List.drop_drop, Nat.add_sub_cancel' hle]
    rw [hd, hd2, List.take_of_length_le (l := List.replicate _ _) (by simp), List.take_of_length_le (l := c.drop j) (by rw [List.length_drop, hL]; omega)]
    rfl
  · rw [decide_eq_false hlt]
    simp only [cond_true, cond_false]
    have hkp : kp m c j = c.take j := by
      unfold kp
      rw [List.filter_eq_self]
      intro x hx
      obtain ⟨i, hi, rfl⟩ := List.getElem_of_mem hx
      have := findIdx_before (l := List.take j c) (p := out m) 0 (j := i) (by omega)
      simp only [List.getD, List.getElem?_eq_getElem hi, Option.getD_some] at this
      show (!out m (List.take j c)[i]) = true
      rw [this]; rfl
    have hdl : delL m c j = c := by unfold delL; rw [hkp, ht]; simp
    rw [hdl, hkp, ht]
    rfl
def T2 : CallT := fun f args ob nm => match Nat.beq f 38 with | true => g38 args ob nm | false => (fun f args ob nm => match Nat.beq f 39 with | true => g39 args ob nm | false => T0 f args ob nm) f args ob nm
theorem T2_ok : CtOk Try.prog G0 T2 := CtOk.cons (CtOk.cons T0_ok 39 g39 (by decide) Try.f39 Try.func39 (by kernel_rfl) (by kernel_rfl) g39_ok) 38 g38 (by decide) Try.f38 Try.func38 (by kernel_rfl) (by kernel_rfl) g38_ok
def fp_g41n : FP := ⟨[.nl, .fn 42 [.ptr 0 0]], [.cells [.ptr 1 0], .cells [.ty .bool, .ty ity, .bz 0, .bz 1, .bz 2]], [.arr bty, .arr bty, .arr wp]⟩
abbrev cn_g41n (o : Bool) (lf : Int) (n1 n2 m : Nat) (d v : List Int) (q : List (Ty.den wp)) : Prop := True
noncomputable def cr_g41n (o : Bool) (lf : Int) (n1 n2 m : Nat) (d v : List Int) (q : List (Ty.den wp)) : Option Bool × V × Ob × Nm := (some (decide (cn_g41n o lf n1 n2 m d v q)), .lst .full [], [some [.ptr 1 0], some [.sb o, .si .i64 lf, .bs true 0 0 n1, .bs true 1 0 n2, .bs true 2 0 m]], [some (.live (.arr bty d)), some (.live (.arr bty v)), some (.live (.arr wp q))])
noncomputable def ct_g41n := Ct.by fp_g41n fun ⟨(_, (_, _), _), ((_, _), (o, lf, n1, n2, m, _), _), (d, v, q, _)⟩ => cr_g41n o lf n1 n2 m d v q
abbrev sf_g41n (o : Bool) (lf : Int) (n1 n2 m : Nat) (d v : List Int) (q : List (Ty.den wp)) : Prop := SemF Try.prog Γ 41 (SP.vals fp_g41n.sp ((), ((), ()), ())) (OP.vals fp_g41n.op (((), ()), (o, lf, n1, n2, m, ()), ())) (BP.vals fp_g41n.bp (d, v, q, ())) (.lst .full []) ([some [.ptr 1 0], some [.sb o, .si .i64 lf, .bs true 0 0 n1, .bs true 1 0 n2, .bs true 2 0 m]]) ([some (.live (.arr bty d)), some (.live (.arr bty v)), some (.live (.arr wp q))])
noncomputable def ev_g41n (C : Cfg) (lv : List Nat) (o : Bool) (lf : Int) (n1 n2 m : Nat) (d v : List Int) (q : List (Ty.den wp)) := evV Try.prog Γ C lv 41 (SP.vals fp_g41n.sp ((), ((), ()), ())) (OP.vals fp_g41n.op (((), ()), (o, lf, n1, n2, m, ()), ())) (BP.vals fp_g41n.bp (d, v, q, ()))
theorem cr_g41n_ok (o : Bool) (lf : Int) (n1 n2 m : Nat) (d v : List Int) (q : List (Ty.den wp)) (h : (cr_g41n o lf n1 n2 m d v q).1.getD true = true) : cn_g41n o lf n1 n2 m d v q := of_decide_eq_true h
theorem ct_g41n_ok (H : ∀ (o : Bool) (lf : Int) (n1 n2 m : Nat) (d v : List Int) (q : List (Ty.den wp)), cn_g41n o lf n1 n2 m d v q → sf_g41n o lf n1 n2 m d v q) : ∀ args ob nm c v ob1 nm1, ct_g41n args ob nm = some (c, v, ob1, nm1) → c.getD true = true → SemF Try.prog Γ 41 args ob nm v ob1 nm1 := Ct.by_ok fun ⟨(_, (_, _), _), ((_, _), (o, lf, n1, n2, m, _), _), (d, v, q, _)⟩ h => H o lf n1 n2 m d v q (cr_g41n_ok o lf n1 n2 m d v q h)
theorem t41n_eq (o : Bool) (lf : Int) (n1 n2 m : Nat) (d v : List Int) (q : List (Ty.den wp)) : (ev_g41n cfgX [] o lf n1 n2 m d v q).run = (bif decide (pre_ix [] o lf (List.take n1 (List.drop (0) d)) (List.take n2 (List.drop (0) v)) (List.take m (List.drop (0) q)) (0 : Int) (0 : Int)) then (some (V.lst Tag.full [], [some [V.ptr (1 : Nat) (0 : Nat)], some [V.sb o, V.si IntKind.i64 lf, V.bs true (0 : Nat) (0 : Nat) n1, V.bs true (1 : Nat) (0 : Nat) n2, V.bs true (2 : Nat) (0 : Nat) m]], [some (Bf.live (BC.arr bty d)), some (Bf.live (BC.arr bty v)), some (Bf.live (BC.arr wp q))])) else none) := by kernel_rfl
theorem g41n_go (o : Bool) (lf : Int) (n1 n2 m : Nat) (d v : List Int) (q : List (Ty.den wp)) (h : cn_g41n o lf n1 n2 m d v q) : sf_g41n o lf n1 n2 m d v q :=
  SemF.of_tree cfgX_ok (lv := []) (Eq.trans (t41n_eq o lf n1 n2 m d v q) (by
    have hp : pre_ix [] o lf (List.take n1 (List.drop 0 d)) (List.take n2 (List.drop 0 v)) (List.take m (List.drop 0 q)) 0 0 := ⟨rfl, rfl, Nat.zero_le _⟩
    rw [decide_eq_true hp]
    rfl))
noncomputable def T3 : CallT := fun f args ob nm => match Nat.beq f 41 with | true => (Ct.or ct_g41 ct_g41n) args ob nm | false => T2 f args ob nm
theorem T3_ok : CtOk Try.prog Γ T3 := CtOk.cons T2_ok 41 (Ct.or ct_g41 ct_g41n) (by decide) Try.f41 Try.func41 (by kernel_rfl) (by kernel_rfl) (Ct.or_ok (ct_g41_ok g41_go) (ct_g41n_ok g41n_go))
end D
end Go.Proofs.Ytnjjkobijjdnbaa

/- Package disk: Crash's loop. -/
set_option linter.unusedVariables false
set_option linter.unusedSimpArgs false
set_option maxRecDepth 100000
set_option maxHeartbeats 4000000
namespace Go.Proofs.Ytnjjkobijjdnbaa
open Go
namespace D
noncomputable def cfgC : Cfg := { cfg orc2 (fun _ _ => none) with om := callC T3, omd := fun f => [46, 39, 38, 41].any (Nat.beq f) }
theorem cfgC_ok : CfgOk Try.prog Γ cfgC := { cfg_ok (wy := fun _ _ => none) orc2_ok with om := callC_calls T3_ok, fit := callC_fit T3_ok }
/-- A pending write that a crash keeps: where, and what. -/
def peO (q : List (Ty.den wp)) (c : List Int) (i : Int) : Int := (show Int × ByteArray × Unit from q.getD (0 + Int.toNat (c.getD (0 + i.toNat) 0)) wp.dflt).1
def peS (q : List (Ty.den wp)) (c : List Int) (i : Int) : ByteArray := (show Int × ByteArray × Unit from q.getD (0 + Int.toNat (c.getD (0 + i.toNat) 0)) wp.dflt).2.1
def tmin (torn : Int) (s : ByteArray) : Int := if (s.size : Int) < torn then s.size else torn
-- 
-- 
-- 
-- 
-- 
-- 
-- 
-- 
-- 
-- 
-- 
def peT (torn : Int) (q : List (Ty.den wp)) (c : List Int) (i : Int) : ByteArray := (peS q c i).extract 0 (tmin torn (peS q c i)).toNat
def peI (q : List (Ty.den wp)) (c : List Int) (i : Int) (n1 : Nat) : Bool := decide ((0 : Int) ≤ (peO q c i) ∧ (peO q c i) ≤ (Nat.cast (n1) : Int) ∧ (Nat.cast (n1) : Int) ≤ (Nat.cast (n1) : Int)) && true
def peJ (torn : Int) (q : List (Ty.den wp)) (c : List Int) (i : Int) : Bool := decide ((0 : Int) ≤ (0 : Int) ∧ ((0 : Int) ≤ tmin torn (peS q c i)) ∧ (tmin torn (peS q c i)) ≤ (Nat.cast ((ByteArray.size (peS q c i))) : Int))
/-- What a crash makes of the durable content, write by write. -/
def crs (torn : Int) (q : List (Ty.den wp)) (c : List Int) (n1 j : Nat) : Nat → List Int → List Int
  | 0, d => d
  | i + 1, d => cpy (crs torn q c n1 j i d) (peO q c i).toNat n1 (bytesOf (if i + 1 = j ∧ torn ≥ 0 then peT torn q c i else peS q c i))
def offs (w : Ty.den wp) : Int := (show Int × ByteArray × Unit from w).1
abbrev preC (torn n i lf : Int) (o : Bool) (j j2 n1 n2 m : Nat) (d v : List Int) (q : List (Ty.den wp)) (c : List Int) : Prop :=
  i = 0 ∧ n = (j : Int) ∧ j = j2 ∧ j ≤ c.length ∧ j ≤ 1000000 ∧ m ≤ q.length ∧ (∀ x ∈ c.take j, 0 ≤ x ∧ x < (m : Int)) ∧ ∀ w ∈ q, 0 ≤ offs w ∧ offs w ≤ (n1 : Int)
theorem getD_of_take {c : List Int} {j i m : Nat} (hj : j ≤ c.length) (hi : i < j) (hc : ∀ x ∈ c.take j, 0 ≤ x ∧ x < (m : Int)) : 0 ≤ c.getD i 0 ∧ c.getD i 0 < (m : Int) := by
  have hl : i < c.length := by omega
  have e : c.getD i 0 = (c.take j)[i]'(by rw [List.length_take]; omega) := by simp [List.getD, hl]
  rw [e]
  exact hc _ (List.getElem_mem _)
theorem peI_true {q : List (Ty.den wp)} {c : List Int} {i m n1 : Nat} (hm : m ≤ q.length) (hci : 0 ≤ c.getD i 0 ∧ c.getD i 0 < (m : Int)) (hq : ∀ w ∈ q, 0 ≤ offs w ∧ offs w ≤ (n1 : Int)) : peI q c i n1 = true := by
  have hlt : 0 + Int.toNat (c.getD (0 + (i : Int).toNat) 0) < q.length := by simp only [Int.toNat_natCast, Nat.zero_add]; omega
  have e : q.getD (0 + Int.toNat (c.getD (0 + (i : Int).toNat) 0)) wp.dflt = q[0 + Int.toNat (c.getD (0 + (i : Int).toNat) 0)] := by rw [List.getD_eq_getElem?_getD, List.getElem?_eq_getElem hlt, Option.getD_some]
  obtain ⟨h1, h2⟩ := hq _ (List.getElem_mem hlt)
  unfold peI peO
  rw [e]
  unfold offs at h1 h2
  rw [Bool.and_true, decide_eq_true_eq]
  exact ⟨h1, h2, Int.le_refl _⟩
theorem peJ_eq {α : Type} {X Y Z : α} (torn : Int) (q : List (Ty.den wp)) (c : List Int) (i : Int) : (bif decide (torn ≥ 0) then (bif peJ torn q c i then X else Y) else Z) = (bif decide (torn ≥ 0) then X else Z) := by
  by_cases h : torn ≥ 0
  · have : peJ torn q c i = true := by
      unfold peJ tmin
      rw [decide_eq_true_eq]
      split <;> omega
    rw [this, decide_eq_true h]; rfl
  · rw [decide_eq_false h]; rfl
def hp_ca : HP := { n := 73, lv := [2, 3, 7, 20, 21, 22], sp := [.ty ity, .ptr 1 0, .bz 4, .bz 4, .ty ity, .ty ity], op := [.cells [.ty .bool, .ty ity, .bz 1, .bz 2, .bz 3], .cells [.ptr 0 0]], bp := [.arr ity, .arr bty, .arr bty, .arr wp, .arr ity], kh := 1, kt := 4 }
def lve_ca : Ex → List Nat
  | .normal => [2, 3, 7, 20, 21, 22]
  | .exit 0 => [3]
  | _ => []
theorem bd_ca : Try.f25.body = some (root 25) := by kernel_rfl
theorem le_ca : (loops (root 25))[0]? = some (lp 25 0) := by kernel_rfl
theorem li_ca : Lies (root 25) 1 (lp 25 0) := Lies.of_take (n := 0) (by kernel_rfl)
def st_ca (torn n i lf : Int) (o : Bool) (j j2 n1 n2 m : Nat) (k d v : List Int) (q : List (Ty.den wp)) (c : List Int) : St := hp_ca.st ⟨(torn, (), j, j2, n, i, ()), ((o, lf, n1, n2, m, ()), ((), ()), ()), (k, d, v, q, c, ())⟩
noncomputable def rn_ca (torn n i lf : Int) (o : Bool) (j j2 n1 n2 m : Nat) (k d v : List Int) (q : List (Ty.den wp)) (c : List Int) := outa lve_ca (evCK Try.prog Γ (cfM Try.prog Γ cfgC 30) (cfgC.lo 25) [] 60 1 (lp 25 0) (st_ca torn n i lf o j j2 n1 n2 m k d v q c))
theorem rn_ca_eq (torn n i lf : Int) (o : Bool) (j j2 n1 n2 m : Nat) (k d v : List Int) (q : List (Ty.den wp)) (c : List Int) : (rn_ca torn n i lf o j j2 n1 n2 m k d v q c).run = (bif decide (i < n) then (bif decide ((0 : Int) ≤ i ∧ i < (Nat.cast (j2) : Int)) then (bif decide (0 + i.toNat < c.length) then (bif decide ((0 : Int) ≤ c.getD (0 + i.toNat) (0 : Int) ∧ c.getD (0 + i.toNat) (0 : Int) < (Nat.cast (m) : Int)) then (bif decide (0 + Int.toNat (c.getD (0 + i.toNat) (0 : Int)) < q.length) then (bif i == IntKind.i64.wrap ((Nat.cast (j) : Int) - (1 : Int)) then (bif decide (torn ≥ (0 : Int)) then (bif peJ torn q c i then (bif peI q c i n1 then (some (Ex.normal, [V.si IntKind.i64 torn, V.ptr (1 : Nat) (0 : Nat), V.bs true (4 : Nat) (0 : Nat) j, V.bs true (4 : Nat) (0 : Nat) j2, V.si IntKind.i64 n, V.si IntKind.i64 (IntKind.i64.wrap (i + (1 : Int)))], [some [V.sb o, V.si IntKind.i64 lf, V.bs true (1 : Nat) (0 : Nat) n1, V.bs true (2 : Nat) (0 : Nat) n2, V.bs true (3 : Nat) (0 : Nat) m], some [V.ptr (0 : Nat) (0 : Nat)]], [some (Bf.live (BC.arr ity k)), some (Bf.live (BC.arr bty (cpy d (peO q c i).toNat n1 (bytesOf (peT torn q c i))))), some (Bf.live (BC.arr bty v)), some (Bf.live (BC.arr wp q)), some (Bf.live (BC.arr ity c))], (73 : Nat), (1 : Nat), (4 : Nat))) else none) else none) else (bif peI q c i n1 then (some (Ex.normal, [V.si IntKind.i64 torn, V.ptr (1 : Nat) (0 : Nat), V.bs true (4 : Nat) (0 : Nat) j, V.bs true (4 : Nat) (0 : Nat) j2, V.si IntKind.i64 n, V.si IntKind.i64 (IntKind.i64.wrap (i + (1 : Int)))], [some [V.sb o, V.si IntKind.i64 lf, V.bs true (1 : Nat) (0 : Nat) n1, V.bs true (2 : Nat) (0 : Nat) n2, V.bs true (3 : Nat) (0 : Nat) m], some [V.ptr (0 : Nat) (0 : Nat)]], [some (Bf.live (BC.arr ity k)), some (Bf.live (BC.arr bty (cpy d (peO q c i).toNat n1 (bytesOf (peS q c i))))), some (Bf.live (BC.arr bty v)), some (Bf.live (BC.arr wp q)), some (Bf.live (BC.arr ity c))], (73 : Nat), (1 : Nat), (4 : Nat))) else none)) else (bif peI q c i n1 then (some (Ex.normal, [V.si IntKind.i64 torn, V.ptr (1 : Nat) (0 : Nat), V.bs true (4 : Nat) (0 : Nat) j, V.bs true (4 : Nat) (0 : Nat) j2, V.si IntKind.i64 n, V.si IntKind.i64 (IntKind.i64.wrap (i + (1 : Int)))], [some [V.sb o, V.si IntKind.i64 lf, V.bs true (1 : Nat) (0 : Nat) n1, V.bs true (2 : Nat) (0 : Nat) n2, V.bs true (3 : Nat) (0 : Nat) m], some [V.ptr (0 : Nat) (0 : Nat)]], [some (Bf.live (BC.arr ity k)), some (Bf.live (BC.arr bty (cpy d (peO q c i).toNat n1 (bytesOf (peS q c i))))), some (Bf.live (BC.arr bty v)), some (Bf.live (BC.arr wp q)), some (Bf.live (BC.arr ity c))], (73 : Nat), (1 : Nat), (4 : Nat))) else none)) else none) else none) else none) else none) else (some (Ex.exit (0 : Nat), [V.ptr (1 : Nat) (0 : Nat)], [some [V.sb o, V.si IntKind.i64 lf, V.bs true (1 : Nat) (0 : Nat) n1, V.bs true (2 : Nat) (0 : Nat) n2, V.bs true (3 : Nat) (0 : Nat) m], some [V.ptr (0 : Nat) (0 : Nat)]], [some (Bf.live (BC.arr ity k)), some (Bf.live (BC.arr bty d)), some (Bf.live (BC.arr bty v)), some (Bf.live (BC.arr wp q))], (73 : Nat), (1 : Nat), (4 : Nat)))) := by kernel_rfl
theorem rn_ca_c (torn n i lf : Int) (o : Bool) (j j2 n1 n2 m : Nat) (k d v : List Int) (q : List (Ty.den wp)) (c : List Int) {e : Ex} {vs : List V} {ob : Ob} {nm : Nm} {n' kh kt : Nat} (h : (rn_ca torn n i lf o j j2 n1 n2 m k d v q c).run = some (e, vs, ob, nm, n', kh, kt)) : SemC Try.prog Γ (lp 25 0) (st_ca torn n i lf o j j2 n1 n2 m k d v q c) e.to (St.of n' (lve_ca e) vs ob nm kh kt) := SemC.of_evM cfgC_ok Try.func25 bd_ca li_ca h
abbrev pre_ca (torn n i lf : Int) (o : Bool) (j j2 n1 n2 m : Nat) (k d v : List Int) (q : List (Ty.den wp)) (c : List Int) : Prop := preC torn n i lf o j j2 n1 n2 m d v q c
def rs_ca (torn n i lf : Int) (o : Bool) (j j2 n1 n2 m : Nat) (k d v : List Int) (q : List (Ty.den wp)) (c : List Int) : Ex × St := (.exit 0, St.of 73 (lve_ca (.exit 0)) [.ptr 1 0] [some [.sb o, .si .i64 lf, .bs true 1 0 n1, .bs true 2 0 n2, .bs true 3 0 m], some [.ptr 0 0]] [some (.live (.arr ity k)), some (.live (.arr bty (crs torn q c n1 j j d))), some (.live (.arr bty v)), some (.live (.arr wp q))] hp_ca.kh hp_ca.kt)
def res_ca (torn n i lf : Int) (o : Bool) (j j2 n1 n2 m : Nat) (k d v : List Int) (q : List (Ty.den wp)) (c : List Int) : Tr (Ex × St) := .br (decide (pre_ca torn n i lf o j j2 n1 n2 m k d v q c)) (.leaf (some (.exit 0, St.of 73 (lve_ca (.exit 0)) [.ptr 1 0] [some [.sb o, .si .i64 lf, .bs true 1 0 n1, .bs true 2 0 n2, .bs true 3 0 m], some [.ptr 0 0]] [some (.live (.arr ity k)), some (.live (.arr bty (crs torn q c n1 j j d))), some (.live (.arr bty v)), some (.live (.arr wp q))] hp_ca.kh hp_ca.kt))) (.leaf none)
theorem res_ca_run (torn n i lf : Int) (o : Bool) (j j2 n1 n2 m : Nat) (k d v : List Int) (q : List (Ty.den wp)) (c : List Int) (h : pre_ca torn n i lf o j j2 n1 n2 m k d v q c) : (res_ca torn n i lf o j j2 n1 n2 m k d v q c).run = some (rs_ca torn n i lf o j j2 n1 n2 m k d v q c) := by
  unfold res_ca rs_ca
  rw [decide_eq_true h]
  exact rfl
theorem res_ca_no (torn n i lf : Int) (o : Bool) (j j2 n1 n2 m : Nat) (k d v : List Int) (q : List (Ty.den wp)) (c : List Int) (h : ¬ pre_ca torn n i lf o j j2 n1 n2 m k d v q c) : (res_ca torn n i lf o j j2 n1 n2 m k d v q c).run = none := Tr.run_no h
def ent_ca : LEnt := LEnt.by hp_ca fun ⟨(torn, _, j, j2, n, i, _), ((o, lf, n1, n2, m, _), (_, _), _), (k, d, v, q, c, _)⟩ => res_ca torn n i lf o j j2 n1 n2 m k d v q c
theorem ent_ca_ok (hgo : ∀ (torn n i lf : Int) (o : Bool) (j j2 n1 n2 m : Nat) (k d v : List Int) (q : List (Ty.den wp)) (c : List Int), pre_ca torn n i lf o j j2 n1 n2 m k d v q c → SemL Try.prog Γ (lp 25 0) (st_ca torn n i lf o j j2 n1 n2 m k d v q c) (rs_ca torn n i lf o j j2 n1 n2 m k d v q c).1.to (rs_ca torn n i lf o j j2 n1 n2 m k d v q c).2) : EntOk Try.prog Γ (lp 25 0) ent_ca := LEnt.by_ok fun ⟨(torn, _, j, j2, n, i, _), ((o, lf, n1, n2, m, _), (_, _), _), (k, d, v, q, c, _)⟩ ex_ s_ h_ => by
  have h_ : (res_ca torn n i lf o j j2 n1 n2 m k d v q c).run = some (ex_, s_) := h_
  by_cases hp_ : pre_ca torn n i lf o j j2 n1 n2 m k d v q c
  · rw [res_ca_run torn n i lf o j j2 n1 n2 m k d v q c hp_] at h_
    obtain ⟨rfl, rfl⟩ := Prod.mk.inj (Option.some.inj h_)
    exact hgo torn n i lf o j j2 n1 n2 m k d v q c hp_
  · rw [res_ca_no torn n i lf o j j2 n1 n2 m k d v q c hp_] at h_
    cases h_
theorem ca_go (torn n i lf : Int) (o : Bool) (j j2 n1 n2 m : Nat) (k d v : List Int) (q : List (Ty.den wp)) (c : List Int) (h : pre_ca torn n i lf o j j2 n1 n2 m k d v q c) :
    SemL Try.prog Γ (lp 25 0) (st_ca torn n i lf o j j2 n1 n2 m k d v q c) (rs_ca torn n i lf o j j2 n1 n2 m k d v q c).1.to (rs_ca torn n i lf o j j2 n1 n2 m k d v q c).2 := by
  obtain ⟨rfl, rfl, rfl, hj, hj2, hm, hc, hq⟩ := h
  refine SemL.scan j 0 (Nat.zero_le _) (fun i => st_ca torn j (i : Nat) lf o j j n1 n2 m k (crs torn q c n1 j i d) v q c) (fun _ => true) _ ?_ ?_ ?_
  · intro i _ hi _ _
    refine rn_ca_c torn j i lf o j j n1 n2 m k (crs torn q c n1 j i d) v q c (e := .normal) ?_
    have hw : IntKind.i64.wrap ((i : Int) + 1) = ((i + 1 : Nat) : Int) := by rw [wrap_in (by omega) (by omega)]; rfl
    have hw2 : IntKind.i64.wrap ((j : Int) - 1) = (j : Int) - 1 := wrap_in (by omega) (by omega)
    have hci := getD_of_take hj hi hc
    have hI := peI_true (n1 := n1) (i := i) hm hci hq
    rw [rn_ca_eq, hw, hw2, Int.toNat_natCast, decide_eq_true (by omega : (i : Int) < j), decide_eq_true (by omega : (0 : Int) ≤ i ∧ (i : Int) < j), decide_eq_true (by omega : 0 + i < c.length), Nat.zero_add, decide_eq_true hci, decide_eq_true (by omega), hI, peJ_eq]
    by_cases h1 : i + 1 = j
    · have e1 : ((i : Int) == (j : Int) - 1) = true := by rw [beq_iff_eq]; omega
      rw [e1]
      by_cases h2 : torn ≥ 0
      · rw [decide_eq_true h2]
        rw [show crs torn q c n1 j (i + 1) d = cpy (crs torn q c n1 j i d) (peO q c i).toNat n1 (bytesOf (peT torn q c i)) by simp only [crs]; rw [if_pos ⟨h1, h2⟩]]
        rfl
      · rw [decide_eq_false h2]
        rw [show crs torn q c n1 j (i + 1) d = cpy (crs torn q c n1 j i d) (peO q c i).toNat n1 (bytesOf (peS q c i)) by simp only [crs]; rw [if_neg (fun h => h2 h.2)]]
        rfl
    · have e1 : ((i : Int) == (j : Int) - 1) = false := by rw [beq_eq_false_iff_ne]; omega
      rw [e1]
      rw [show crs torn q c n1 j (i + 1) d = cpy (crs torn q c n1 j i d) (peO q c i).toNat n1 (bytesOf (peS q c i)) by simp only [crs]; rw [if_neg (fun h => h1 h.1)]]
      rfl
  · intro i _ _ _ h; cases h
  · intro _
    refine ⟨by simp [rs_ca, Ex.to], rn_ca_c torn j j lf o j j n1 n2 m k (crs torn q c n1 j j d) v q c (e := .exit 0) ?_⟩
    rw [rn_ca_eq, decide_eq_false (by omega)]
    rfl
def hp_cb : HP := { n := 73, lv := [2, 3, 7, 20, 21, 22], sp := [.ty ity, .ptr 1 0, .bz 3, .bz 3, .ty ity, .ty ity], op := [.cells [.ty .bool, .ty ity, .bz 0, .bz 1, .bz 2], .cells [.ptr 0 0]], bp := [.arr bty, .arr bty, .arr wp, .arr ity], kh := 1, kt := 3 }
def lve_cb : Ex → List Nat
  | .normal => [2, 3, 7, 20, 21, 22]
  | .exit 0 => [3]
  | _ => []
theorem bd_cb : Try.f25.body = some (root 25) := by kernel_rfl
theorem le_cb : (loops (root 25))[0]? = some (lp 25 0) := by kernel_rfl
theorem li_cb : Lies (root 25) 1 (lp 25 0) := Lies.of_take (n := 0) (by kernel_rfl)
def st_cb (torn n i lf : Int) (o : Bool) (j j2 n1 n2 m : Nat) (d v : List Int) (q : List (Ty.den wp)) (c : List Int) : St := hp_cb.st ⟨(torn, (), j, j2, n, i, ()), ((o, lf, n1, n2, m, ()), ((), ()), ()), (d, v, q, c, ())⟩
noncomputable def rn_cb (torn n i lf : Int) (o : Bool) (j j2 n1 n2 m : Nat) (d v : List Int) (q : List (Ty.den wp)) (c : List Int) := outa lve_cb (evCK Try.prog Γ (cfM Try.prog Γ cfgC 30) (cfgC.lo 25) [] 60 1 (lp 25 0) (st_cb torn n i lf o j j2 n1 n2 m d v q c))
theorem rn_cb_eq (torn n i lf : Int) (o : Bool) (j j2 n1 n2 m : Nat) (d v : List Int) (q : List (Ty.den wp)) (c : List Int) : (rn_cb torn n i lf o j j2 n1 n2 m d v q c).run = (bif decide (i < n) then (bif decide ((0 : Int) ≤ i ∧ i < (Nat.cast (j2) : Int)) then (bif decide (0 + i.toNat < c.length) then (bif decide ((0 : Int) ≤ c.getD (0 + i.toNat) (0 : Int) ∧ c.getD (0 + i.toNat) (0 : Int) < (Nat.cast (m) : Int)) then (bif decide (0 + Int.toNat (c.getD (0 + i.toNat) (0 : Int)) < q.length) then (bif i == IntKind.i64.wrap ((Nat.cast (j) : Int) - (1 : Int)) then (bif decide (torn ≥ (0 : Int)) then (bif peJ torn q c i then (bif peI q c i n1 then (some (Ex.normal, [V.si IntKind.i64 torn, V.ptr (1 : Nat) (0 : Nat), V.bs true (3 : Nat) (0 : Nat) j, V.bs true (3 : Nat) (0 : Nat) j2, V.si IntKind.i64 n, V.si IntKind.i64 (IntKind.i64.wrap (i + (1 : Int)))], [some [V.sb o, V.si IntKind.i64 lf, V.bs true (0 : Nat) (0 : Nat) n1, V.bs true (1 : Nat) (0 : Nat) n2, V.bs true (2 : Nat) (0 : Nat) m], some [V.ptr (0 : Nat) (0 : Nat)]], [some (Bf.live (BC.arr bty (cpy d (peO q c i).toNat n1 (bytesOf (peT torn q c i))))), some (Bf.live (BC.arr bty v)), some (Bf.live (BC.arr wp q)), some (Bf.live (BC.arr ity c))], (73 : Nat), (1 : Nat), (3 : Nat))) else none) else none) else (bif peI q c i n1 then (some (Ex.normal, [V.si IntKind.i64 torn, V.ptr (1 : Nat) (0 : Nat), V.bs true (3 : Nat) (0 : Nat) j, V.bs true (3 : Nat) (0 : Nat) j2, V.si IntKind.i64 n, V.si IntKind.i64 (IntKind.i64.wrap (i + (1 : Int)))], [some [V.sb o, V.si IntKind.i64 lf, V.bs true (0 : Nat) (0 : Nat) n1, V.bs true (1 : Nat) (0 : Nat) n2, V.bs true (2 : Nat) (0 : Nat) m], some [V.ptr (0 : Nat) (0 : Nat)]], [some (Bf.live (BC.arr bty (cpy d (peO q c i).toNat n1 (bytesOf (peS q c i))))), some (Bf.live (BC.arr bty v)), some (Bf.live (BC.arr wp q)), some (Bf.live (BC.arr ity c))], (73 : Nat), (1 : Nat), (3 : Nat))) else none)) else (bif peI q c i n1 then (some (Ex.normal, [V.si IntKind.i64 torn, V.ptr (1 : Nat) (0 : Nat), V.bs true (3 : Nat) (0 : Nat) j, V.bs true (3 : Nat) (0 : Nat) j2, V.si IntKind.i64 n, V.si IntKind.i64 (IntKind.i64.wrap (i + (1 : Int)))], [some [V.sb o, V.si IntKind.i64 lf, V.bs true (0 : Nat) (0 : Nat) n1, V.bs true (1 : Nat) (0 : Nat) n2, V.bs true (2 : Nat) (0 : Nat) m], some [V.ptr (0 : Nat) (0 : Nat)]], [some (Bf.live (BC.arr bty (cpy d (peO q c i).toNat n1 (bytesOf (peS q c i))))), some (Bf.live (BC.arr bty v)), some (Bf.live (BC.arr wp q)), some (Bf.live (BC.arr ity c))], (73 : Nat), (1 : Nat), (3 : Nat))) else none)) else none) else none) else none) else none) else (some (Ex.exit (0 : Nat), [V.ptr (1 : Nat) (0 : Nat)], [some [V.sb o, V.si IntKind.i64 lf, V.bs true (0 : Nat) (0 : Nat) n1, V.bs true (1 : Nat) (0 : Nat) n2, V.bs true (2 : Nat) (0 : Nat) m], some [V.ptr (0 : Nat) (0 : Nat)]], [some (Bf.live (BC.arr bty d)), some (Bf.live (BC.arr bty v)), some (Bf.live (BC.arr wp q))], (73 : Nat), (1 : Nat), (3 : Nat)))) := by kernel_rfl
theorem rn_cb_c (torn n i lf : Int) (o : Bool) (j j2 n1 n2 m : Nat) (d v : List Int) (q : List (Ty.den wp)) (c : List Int) {e : Ex} {vs : List V} {ob : Ob} {nm : Nm} {n' kh kt : Nat} (h : (rn_cb torn n i lf o j j2 n1 n2 m d v q c).run = some (e, vs, ob, nm, n', kh, kt)) : SemC Try.prog Γ (lp 25 0) (st_cb torn n i lf o j j2 n1 n2 m d v q c) e.to (St.of n' (lve_cb e) vs ob nm kh kt) := SemC.of_evM cfgC_ok Try.func25 bd_cb li_cb h
abbrev pre_cb (torn n i lf : Int) (o : Bool) (j j2 n1 n2 m : Nat) (d v : List Int) (q : List (Ty.den wp)) (c : List Int) : Prop := preC torn n i lf o j j2 n1 n2 m d v q c
def rs_cb (torn n i lf : Int) (o : Bool) (j j2 n1 n2 m : Nat) (d v : List Int) (q : List (Ty.den wp)) (c : List Int) : Ex × St := (.exit 0, St.of 73 (lve_cb (.exit 0)) [.ptr 1 0] [some [.sb o, .si .i64 lf, .bs true 0 0 n1, .bs true 1 0 n2, .bs true 2 0 m], some [.ptr 0 0]] [some (.live (.arr bty (crs torn q c n1 j j d))), some (.live (.arr bty v)), some (.live (.arr wp q))] hp_cb.kh hp_cb.kt)
def res_cb (torn n i lf : Int) (o : Bool) (j j2 n1 n2 m : Nat) (d v : List Int) (q : List (Ty.den wp)) (c : List Int) : Tr (Ex × St) := .br (decide (pre_cb torn n i lf o j j2 n1 n2 m d v q c)) (.leaf (some (.exit 0, St.of 73 (lve_cb (.exit 0)) [.ptr 1 0] [some [.sb o, .si .i64 lf, .bs true 0 0 n1, .bs true 1 0 n2, .bs true 2 0 m], some [.ptr 0 0]] [some (.live (.arr bty (crs torn q c n1 j j d))), some (.live (.arr bty v)), some (.live (.arr wp q))] hp_cb.kh hp_cb.kt))) (.leaf none)
theorem res_cb_run (torn n i lf : Int) (o : Bool) (j j2 n1 n2 m : Nat) (d v : List Int) (q : List (Ty.den wp)) (c : List Int) (h : pre_cb torn n i lf o j j2 n1 n2 m d v q c) : (res_cb torn n i lf o j j2 n1 n2 m d v q c).run = some (rs_cb torn n i lf o j j2 n1 n2 m d v q c) := by
  unfold res_cb rs_cb
  rw [decide_eq_true h]
  exact rfl
theorem res_cb_no (torn n i lf : Int) (o : Bool) (j j2 n1 n2 m : Nat) (d v : List Int) (q : List (Ty.den wp)) (c : List Int) (h : ¬ pre_cb torn n i lf o j j2 n1 n2 m d v q c) : (res_cb torn n i lf o j j2 n1 n2 m d v q c).run = none := Tr.run_no h
def ent_cb : LEnt := LEnt.by hp_cb fun ⟨(torn, _, j, j2, n, i, _), ((o, lf, n1, n2, m, _), (_, _), _), (d, v, q, c, _)⟩ => res_cb torn n i lf o j j2 n1 n2 m d v q c
theorem ent_cb_ok (hgo : ∀ (torn n i lf : Int) (o : Bool) (j j2 n1 n2 m : Nat) (d v : List Int) (q : List (Ty.den wp)) (c : List Int), pre_cb torn n i lf o j j2 n1 n2 m d v q c → SemL Try.prog Γ (lp 25 0) (st_cb torn n i lf o j j2 n1 n2 m d v q c) (rs_cb torn n i lf o j j2 n1 n2 m d v q c).1.to (rs_cb torn n i lf o j j2 n1 n2 m d v q c).2) : EntOk Try.prog Γ (lp 25 0) ent_cb := LEnt.by_ok fun ⟨(torn, _, j, j2, n, i, _), ((o, lf, n1, n2, m, _), (_, _), _), (d, v, q, c, _)⟩ ex_ s_ h_ => by
  have h_ : (res_cb torn n i lf o j j2 n1 n2 m d v q c).run = some (ex_, s_) := h_
  by_cases hp_ : pre_cb torn n i lf o j j2 n1 n2 m d v q c
  · rw [res_cb_run torn n i lf o j j2 n1 n2 m d v q c hp_] at h_
    obtain ⟨rfl, rfl⟩ := Prod.mk.inj (Option.some.inj h_)
    exact hgo torn n i lf o j j2 n1 n2 m d v q c hp_
  · rw [res_cb_no torn n i lf o j j2 n1 n2 m d v q c hp_] at h_
    cases h_
theorem cb_go (torn n i lf : Int) (o : Bool) (j j2 n1 n2 m : Nat) (d v : List Int) (q : List (Ty.den wp)) (c : List Int) (h : pre_cb torn n i lf o j j2 n1 n2 m d v q c) :
    SemL Try.prog Γ (lp 25 0) (st_cb torn n i lf o j j2 n1 n2 m d v q c) (rs_cb torn n i lf o j j2 n1 n2 m d v q c).1.to (rs_cb torn n i lf o j j2 n1 n2 m d v q c).2 := by
  obtain ⟨rfl, rfl, rfl, hj, hj2, hm, hc, hq⟩ := h
  refine SemL.scan j 0 (Nat.zero_le _) (fun i => st_cb torn j (i : Nat) lf o j j n1 n2 m (crs torn q c n1 j i d) v q c) (fun _ => true) _ ?_ ?_ ?_
  · intro i _ hi _ _
    refine rn_cb_c torn j i lf o j j n1 n2 m (crs torn q c n1 j i d) v q c (e := .normal) ?_
    have hw : IntKind.i64.wrap ((i : Int) + 1) = ((i + 1 : Nat) : Int) := by rw [wrap_in (by omega) (by omega)]; rfl
    have hw2 : IntKind.i64.wrap ((j : Int) - 1) = (j : Int) - 1 := wrap_in (by omega) (by omega)
    have hci := getD_of_take hj hi hc
    have hI := peI_true (n1 := n1) (i := i) hm hci hq
    rw [rn_cb_eq, hw, hw2, Int.toNat_natCast, decide_eq_true (by omega : (i : Int) < j), decide_eq_true (by omega : (0 : Int) ≤ i ∧ (i : Int) < j), decide_eq_true (by omega : 0 + i < c.length), Nat.zero_add, decide_eq_true hci, decide_eq_true (by omega), hI, peJ_eq]
    by_cases h1 : i + 1 = j
    · have e1 : ((i : Int) == (j : Int) - 1) = true := by rw [beq_iff_eq]; omega
      rw [e1]
      by_cases h2 : torn ≥ 0
      · rw [decide_eq_true h2]
        rw [show crs torn q c n1 j (i + 1) d = cpy (crs torn q c n1 j i d) (peO q c i).toNat n1 (bytesOf (peT torn q c i)) by simp only [crs]; rw [if_pos ⟨h1, h2⟩]]
        rfl
      · rw [decide_eq_false h2]
        rw [show crs torn q c n1 j (i + 1) d = cpy (crs torn q c n1 j i d) (peO q c i).toNat n1 (bytesOf (peS q c i)) by simp only [crs]; rw [if_neg (fun h => h2 h.2)]]
        rfl
    · have e1 : ((i : Int) == (j : Int) - 1) = false := by rw [beq_eq_false_iff_ne]; omega
      rw [e1]
      rw [show crs torn q c n1 j (i + 1) d = cpy (crs torn q c n1 j i d) (peO q c i).toNat n1 (bytesOf (peS q c i)) by simp only [crs]; rw [if_neg (fun h => h1 h.1)]]
      rfl
  · intro i _ _ _ h; cases h
  · intro _
    refine ⟨by simp [rs_cb, Ex.to], rn_cb_c torn j j lf o j j n1 n2 m (crs torn q c n1 j j d) v q c (e := .exit 0) ?_⟩
    rw [rn_cb_eq, decide_eq_false (by omega)]
    rfl
def hp_cn : HP := { n := 73, lv := [2, 3, 7, 20, 21, 22], sp := [.ty ity, .ptr 1 0, .ty (.slice ity), .ty (.slice ity), .ty ity, .ty ity], op := [.cells [.ty .bool, .ty ity, .bz 0, .bz 1, .bz 2], .cells [.ptr 0 0]], bp := [.arr bty, .arr bty, .arr wp], kh := 1, kt := 3 }
def lve_cn : Ex → List Nat
  | .normal => [2, 3, 7, 20, 21, 22]
  | .exit 0 => [3]
  | _ => []
theorem bd_cn : Try.f25.body = some (root 25) := by kernel_rfl
theorem le_cn : (loops (root 25))[0]? = some (lp 25 0) := by kernel_rfl
theorem li_cn : Lies (root 25) 1 (lp 25 0) := Lies.of_take (n := 0) (by kernel_rfl)
def st_cn (torn n i lf : Int) (o : Bool) (j j2 : List Int) (n1 n2 m : Nat) (d v : List Int) (q : List (Ty.den wp)) : St := hp_cn.st ⟨(torn, (), j, j2, n, i, ()), ((o, lf, n1, n2, m, ()), ((), ()), ()), (d, v, q, ())⟩
def st_cm (torn lf : Int) (o : Bool) (n1 n2 m : Nat) (d v : List Int) (q : List (Ty.den wp)) : St := hp_cn.st ⟨(torn, (), [], [], (0 : Int), (0 : Int), ()), ((o, lf, n1, n2, m, ()), ((), ()), ()), (d, v, q, ())⟩
noncomputable def rn_cm (torn lf : Int) (o : Bool) (n1 n2 m : Nat) (d v : List Int) (q : List (Ty.den wp)) := outa lve_cn (evCK Try.prog Γ (cfM Try.prog Γ cfgC 30) (cfgC.lo 25) [] 60 1 (lp 25 0) (st_cm torn lf o n1 n2 m d v q))
theorem rn_cm_eq (torn lf : Int) (o : Bool) (n1 n2 m : Nat) (d v : List Int) (q : List (Ty.den wp)) : (rn_cm torn lf o n1 n2 m d v q).run = (some (Ex.exit (0 : Nat), [V.ptr (1 : Nat) (0 : Nat)], [some [V.sb o, V.si IntKind.i64 lf, V.bs true (0 : Nat) (0 : Nat) n1, V.bs true (1 : Nat) (0 : Nat) n2, V.bs true (2 : Nat) (0 : Nat) m], some [V.ptr (0 : Nat) (0 : Nat)]], [some (Bf.live (BC.arr bty d)), some (Bf.live (BC.arr bty v)), some (Bf.live (BC.arr wp q))], (73 : Nat), (1 : Nat), (3 : Nat))) := by kernel_rfl
theorem rn_cm_c (torn lf : Int) (o : Bool) (n1 n2 m : Nat) (d v : List Int) (q : List (Ty.den wp)) {e : Ex} {vs : List V} {ob : Ob} {nm : Nm} {n' kh kt : Nat} (h : (rn_cm torn lf o n1 n2 m d v q).run = some (e, vs, ob, nm, n', kh, kt)) : SemC Try.prog Γ (lp 25 0) (st_cm torn lf o n1 n2 m d v q) e.to (St.of n' (lve_cn e) vs ob nm kh kt) := SemC.of_evM cfgC_ok Try.func25 bd_cn li_cn h
abbrev pre_cn (torn n i lf : Int) (o : Bool) (j j2 : List Int) (n1 n2 m : Nat) (d v : List Int) (q : List (Ty.den wp)) : Prop := i = 0 ∧ n = 0 ∧ j = [] ∧ j2 = []
def rs_cn (torn n i lf : Int) (o : Bool) (j j2 : List Int) (n1 n2 m : Nat) (d v : List Int) (q : List (Ty.den wp)) : Ex × St := (.exit 0, St.of 73 (lve_cn (.exit 0)) [.ptr 1 0] [some [.sb o, .si .i64 lf, .bs true 0 0 n1, .bs true 1 0 n2, .bs true 2 0 m], some [.ptr 0 0]] [some (.live (.arr bty d)), some (.live (.arr bty v)), some (.live (.arr wp q))] hp_cn.kh hp_cn.kt)
def res_cn (torn n i lf : Int) (o : Bool) (j j2 : List Int) (n1 n2 m : Nat) (d v : List Int) (q : List (Ty.den wp)) : Tr (Ex × St) := .br (decide (pre_cn torn n i lf o j j2 n1 n2 m d v q)) (.leaf (some (.exit 0, St.of 73 (lve_cn (.exit 0)) [.ptr 1 0] [some [.sb o, .si .i64 lf, .bs true 0 0 n1, .bs true 1 0 n2, .bs true 2 0 m], some [.ptr 0 0]] [some (.live (.arr bty d)), some (.live (.arr bty v)), some (.live (.arr wp q))] hp_cn.kh hp_cn.kt))) (.leaf none)
theorem res_cn_run (torn n i lf : Int) (o : Bool) (j j2 : List Int) (n1 n2 m : Nat) (d v : List Int) (q : List (Ty.den wp)) (h : pre_cn torn n i lf o j j2 n1 n2 m d v q) : (res_cn torn n i lf o j j2 n1 n2 m d v q).run = some (rs_cn torn n i lf o j j2 n1 n2 m d v q) := by
  unfold res_cn rs_cn
  rw [decide_eq_true h]
  exact rfl
theorem res_cn_no (torn n i lf : Int) (o : Bool) (j j2 : List Int) (n1 n2 m : Nat) (d v : List Int) (q : List (Ty.den wp)) (h : ¬ pre_cn torn n i lf o j j2 n1 n2 m d v q) : (res_cn torn n i lf o j j2 n1 n2 m d v q).run = none := Tr.run_no h
def ent_cn : LEnt := LEnt.by hp_cn fun ⟨(torn, _, j, j2, n, i, _), ((o, lf, n1, n2, m, _), (_, _), _), (d, v, q, _)⟩ => res_cn torn n i lf o j j2 n1 n2 m d v q
theorem ent_cn_ok (hgo : ∀ (torn n i lf : Int) (o : Bool) (j j2 : List Int) (n1 n2 m : Nat) (d v : List Int) (q : List (Ty.den wp)), pre_cn torn n i lf o j j2 n1 n2 m d v q → SemL Try.prog Γ (lp 25 0) (st_cn torn n i lf o j j2 n1 n2 m d v q) (rs_cn torn n i lf o j j2 n1 n2 m d v q).1.to (rs_cn torn n i lf o j j2 n1 n2 m d v q).2) : EntOk Try.prog Γ (lp 25 0) ent_cn := LEnt.by_ok fun ⟨(torn, _, j, j2, n, i, _), ((o, lf, n1, n2, m, _), (_, _), _), (d, v, q, _)⟩ ex_ s_ h_ => by
  have h_ : (res_cn torn n i lf o j j2 n1 n2 m d v q).run = some (ex_, s_) := h_
  by_cases hp_ : pre_cn torn n i lf o j j2 n1 n2 m d v q
  · rw [res_cn_run torn n i lf o j j2 n1 n2 m d v q hp_] at h_
    obtain ⟨rfl, rfl⟩ := Prod.mk.inj (Option.some.inj h_)
    exact hgo torn n i lf o j j2 n1 n2 m d v q hp_
  · rw [res_cn_no torn n i lf o j j2 n1 n2 m d v q hp_] at h_
    cases h_
theorem cn_go (torn n i lf : Int) (o : Bool) (j j2 : List Int) (n1 n2 m : Nat) (d v : List Int) (q : List (Ty.den wp)) (h : pre_cn torn n i lf o j j2 n1 n2 m d v q) :
    SemL Try.prog Γ (lp 25 0) (st_cn torn n i lf o j j2 n1 n2 m d v q) (rs_cn torn n i lf o j j2 n1 n2 m d v q).1.to (rs_cn torn n i lf o j j2 n1 n2 m d v q).2 := by
  obtain ⟨rfl, rfl, rfl, rfl⟩ := h
  exact SemL.out (by simp [rs_cn, Ex.to]) (rn_cm_c torn lf o n1 n2 m d v q (e := .exit 0) (by rw [rn_cm_eq]; rfl))
def ent_c : LEnt := LEnt.or ent_ca (LEnt.or ent_cb ent_cn)
theorem ent_c_ok : EntOk Try.prog Γ (lp 25 0) ent_c := LEnt.or_ok (ent_ca_ok ca_go) (LEnt.or_ok (ent_cb_ok cb_go) (ent_cn_ok cn_go) rfl rfl) rfl rfl
def loC : LOrc := LOrc.add (fun _ _ => none) 25 0 ent_c
theorem loC_ok : LOrcOk Try.prog Γ loC := LOrcOk.add LOrcOk.none 25 0 Try.func25 bd_ca le_ca ent_c_ok
noncomputable def cfgD : Cfg := { cfgC with lo := loC }
theorem cfgD_ok : CfgOk Try.prog Γ cfgD := { cfgC_ok with lo := loC_ok }
end D
end Go.Proofs.Ytnjjkobijjdnbaa

/- Package disk: Crash as a contract. -/
set_option linter.unusedVariables false
set_option linter.unusedSimpArgs false
set_option maxRecDepth 100000
set_option maxHeartbeats 4000000
namespace Go.Proofs.Ytnjjkobijjdnbaa
open Go
namespace D
-- 
/-- The numbers that a crash keeps, in order. -/
def ordO (m : Nat) (c : List Int) : List Int := (dd (sortI c) c.length).filter fun x => !out m x
/-- What a crash makes of the durable content. -/
def crd (torn : Int) (q : List (Ty.den wp)) (m : Nat) (c : List Int) (d : List Int) : List Int := crs torn q (ordO m c) d.length (ordO m c).length (ordO m c).length d
theorem crs_congr {torn : Int} {q : List (Ty.den wp)} {c c' : List Int} {n1 j : Nat} {d : List Int} : ∀ {i : Nat}, (∀ r, r < i → c.getD r 0 = c'.getD r 0) → crs torn q c n1 j i d = crs torn q c' n1 j i d
  | 0, _ => rfl
  | i + 1, h => by
    have e := h i (by omega)
    have hO : peO q c i = peO q c' i := by unfold peO; simp only [Int.toNat_natCast, Nat.zero_add, e]
    have hS : peS q c i = peS q c' i := by unfold peS; simp only [Int.toNat_natCast, Nat.zero_add, e]
    have hT : peT torn q c i = peT torn q c' i := by unfold peT; rw [hS]
    simp only [crs]
    rw [crs_congr (fun r hr => h r (by omega)), hO, hS, hT]
theorem cpy_len {α : Type} {v y : List α} {o n : Nat} (h : n ≤ v.length) (ho : o ≤ n) : (cpy v o n y).length = v.length := by
  unfold cpy
  simp only [List.length_append, List.length_take, List.length_drop]
  have : Nat.min y.length (n - o) ≤ y.length ∧ Nat.min y.length (n - o) ≤ n - o := ⟨Nat.min_le_left _ _, Nat.min_le_right _ _⟩
  omega
theorem crs_len {torn : Int} {q : List (Ty.den wp)} {c : List Int} {n1 j m : Nat} {d : List Int} (hd : d.length = n1) (hm : m ≤ q.length) (hq : ∀ w ∈ q, 0 ≤ offs w ∧ offs w ≤ (n1 : Int)) : ∀ {i : Nat}, (∀ r, r < i → 0 ≤ c.getD r 0 ∧ c.getD r 0 < (m : Int)) → (crs torn q c n1 j i d).length = n1
  | 0, _ => hd
  | i + 1, h => by
    have ih := crs_len (torn := torn) (j := j) hd hm hq (i := i) (fun r hr => h r (by omega))
    have hI := peI_true (n1 := n1) (i := i) hm (h i (by omega)) hq
    unfold peI at hI
    rw [Bool.and_true, decide_eq_true_eq] at hI
    simp only [crs]
    rw [cpy_len (by omega) (by omega), ih]
theorem dd_sub (c : List Int) : ∀ p, p ≤ c.length → ∀ x ∈ dd c p, x ∈ c
  | 0, _, x, hx => by cases hx
  | p + 1, hp, x, hx => by
    simp only [dd] at hx
    split at hx
    · rw [List.mem_append] at hx
      rcases hx with hx | hx
      · exact dd_sub c p (by omega) x hx
      · rw [List.mem_singleton] at hx
        subst hx
        have : c.getD p 0 = c[p] := by simp [List.getD, show p < c.length by omega]
        rw [this]; exact List.getElem_mem _
    · exact dd_sub c p (by omega) x hx
/-- What of the sorted, compacted, purged list is looked at. -/
theorem ord_eq {m : Nat} {c : List Int} {j : Nat} (hj : c.length = j) : kp m (cmpL (sortI c) j) (dd (sortI c) j).length = ordO m c ∧ (∀ r, r < (ordO m c).length → (delL m (cmpL (sortI c) j) (dd (sortI c) j).length).getD r 0 = (ordO m c).getD r 0) ∧
    (∀ x ∈ (delL m (cmpL (sortI c) j) (dd (sortI c) j).length).take (ordO m c).length, 0 ≤ x ∧ x < (m : Int)) ∧ (∀ r, r < (ordO m c).length → 0 ≤ (ordO m c).getD r 0 ∧ (ordO m c).getD r 0 < (m : Int)) := by
  subst hj
  have e1 : kp m (cmpL (sortI c) c.length) (dd (sortI c) c.length).length = ordO m c := by
    unfold kp cmpL ordO
    rw [List.append_assoc, List.take_left']
    rfl
  have hin : ∀ x ∈ ordO m c, 0 ≤ x ∧ x < (m : Int) := by
    intro x hx
    unfold ordO at hx
    rw [List.mem_filter] at hx
    have := hx.2
    unfold out at this
    by_cases h0 : x < 0
    · rw [decide_eq_true h0] at this; simp at this
    · rw [decide_eq_false h0] at this; simp at this; omega
  refine ⟨e1, fun r hr => ?_, fun x hx => ?_, fun r hr => ?_⟩
  · unfold delL
    rw [e1, List.append_assoc, List.getD, List.getD, List.getElem?_append_left hr]
  · unfold delL at hx
    rw [e1, List.append_assoc, List.take_left'] at hx
    · exact hin x hx
    · rfl
  · have : (ordO m c).getD r 0 = (ordO m c)[r] := by simp [List.getD, hr]
    rw [this]
    exact hin _ (List.getElem_mem _)
theorem cmp_len {c : List Int} {j : Nat} (h : c.length = j) : (dd (sortI c) j).length ≤ (cmpL (sortI c) j).length := by
  unfold cmpL; simp only [List.length_append]; omega
theorem durS_all {d e : List Int} {n : Nat} (h1 : d.length = n) (h2 : e.length = n) : List.take 0 (List.drop 0 d) ++ List.take ((List.take n (List.drop 0 e)).length.min n) (List.drop 0 (List.take n (List.drop 0 e))) ++ List.take (d.length - (0 + (List.take n (List.drop 0 e)).length.min n)) (List.drop (0 + (List.take n (List.drop 0 e)).length.min n) d) = e := by
  have e1 : List.take n e = e := by rw [← h2, List.take_length]
  have e2 : Nat.min e.length n = n := by rw [h2]; exact Nat.min_self n
  simp only [List.drop_zero, e1, e2, Nat.zero_add]
  rw [List.drop_eq_nil_of_le (by omega)]
  simp
abbrev preD (n1 n2 m : Nat) (d v : List Int) (q : List (Ty.den wp)) : Prop := m ≤ q.length ∧ d.length = n1 ∧ v.length = n1 ∧ n1 = n2 ∧ ∀ w ∈ q, 0 ≤ offs w ∧ offs w ≤ (n1 : Int)
def fp_g25a : FP := ⟨[.ptr 0 0, .bz 0, .ty ity], [.cells [.ty .bool, .ty ity, .bz 1, .bz 2, .bz 3]], [.arr ity, .arr bty, .arr bty, .arr wp]⟩
abbrev cn_g25a (torn lf : Int) (o : Bool) (j n1 n2 m : Nat) (k d v : List Int) (q : List (Ty.den wp)) : Prop := j ≤ k.length ∧ j ≤ 1000000 ∧ preD n1 n2 m d v q
noncomputable def cr_g25a (torn lf : Int) (o : Bool) (j n1 n2 m : Nat) (k d v : List Int) (q : List (Ty.den wp)) : Option Bool × V × Ob × Nm := (some (decide (cn_g25a torn lf o j n1 n2 m k d v q)), .i .i64 0, [some [.b false, .i .i64 0, .bs true 1 0 n1, .bs true 2 0 n2, .bs true 3 0 0]], [il k, some (.live (.arr bty (crd torn q m (k.take j) d))), some (.live (.arr bty (crd torn q m (k.take j) d))), some (.live (.arr wp (qS q m)))])
noncomputable def ct_g25a := Ct.by fp_g25a fun ⟨(_, j, torn, _), ((o, lf, n1, n2, m, _), _), (k, d, v, q, _)⟩ => cr_g25a torn lf o j n1 n2 m k d v q
abbrev sf_g25a (torn lf : Int) (o : Bool) (j n1 n2 m : Nat) (k d v : List Int) (q : List (Ty.den wp)) : Prop := SemF Try.prog Γ 25 (SP.vals fp_g25a.sp ((), j, torn, ())) (OP.vals fp_g25a.op ((o, lf, n1, n2, m, ()), ())) (BP.vals fp_g25a.bp (k, d, v, q, ())) (.i .i64 0) ([some [.b false, .i .i64 0, .bs true 1 0 n1, .bs true 2 0 n2, .bs true 3 0 0]]) ([il k, some (.live (.arr bty (crd torn q m (k.take j) d))), some (.live (.arr bty (crd torn q m (k.take j) d))), some (.live (.arr wp (qS q m)))])
noncomputable def ev_g25a (C : Cfg) (lv : List Nat) (torn lf : Int) (o : Bool) (j n1 n2 m : Nat) (k d v : List Int) (q : List (Ty.den wp)) := evV Try.prog Γ C lv 25 (SP.vals fp_g25a.sp ((), j, torn, ())) (OP.vals fp_g25a.op ((o, lf, n1, n2, m, ()), ())) (BP.vals fp_g25a.bp (k, d, v, q, ()))
theorem cr_g25a_ok (torn lf : Int) (o : Bool) (j n1 n2 m : Nat) (k d v : List Int) (q : List (Ty.den wp)) (h : (cr_g25a torn lf o j n1 n2 m k d v q).1.getD true = true) : cn_g25a torn lf o j n1 n2 m k d v q := of_decide_eq_true h
theorem ct_g25a_ok (H : ∀ (torn lf : Int) (o : Bool) (j n1 n2 m : Nat) (k d v : List Int) (q : List (Ty.den wp)), cn_g25a torn lf o j n1 n2 m k d v q → sf_g25a torn lf o j n1 n2 m k d v q) : ∀ args ob nm c v ob1 nm1, ct_g25a args ob nm = some (c, v, ob1, nm1) → c.getD true = true → SemF Try.prog Γ 25 args ob nm v ob1 nm1 := Ct.by_ok fun ⟨(_, j, torn, _), ((o, lf, n1, n2, m, _), _), (k, d, v, q, _)⟩ h => H torn lf o j n1 n2 m k d v q (cr_g25a_ok torn lf o j n1 n2 m k d v q h)
theorem t25a_eq (torn lf : Int) (o : Bool) (j n1 n2 m : Nat) (k d v : List Int) (q : List (Ty.den wp)) : (ev_g25a cfgD [] torn lf o j n1 n2 m k d v q).run = (bif decide (j ≤ k.length ∧ j ≤ 1000000) then (bif decide (j ≤ (sortI (List.take j k)).length ∧ j ≤ 1000000) then (bif decide (cn_g41 (dd (sortI (List.take j k)) j).length o lf n1 n2 m (cmpL (sortI (List.take j k)) j) d v q) then (bif decide (pre_ca torn (Nat.cast ((kp m (cmpL (sortI (List.take j k)) j) (dd (sortI (List.take j k)) j).length).length) : Int) (0 : Int) lf o (kp m (cmpL (sortI (List.take j k)) j) (dd (sortI (List.take j k)) j).length).length (kp m (cmpL (sortI (List.take j k)) j) (dd (sortI (List.take j k)) j).length).length n1 n2 m k d v q (delL m (cmpL (sortI (List.take j k)) j) (dd (sortI (List.take j k)) j).length)) then (bif decide ((0 : Int) ≤ (0 : Int) ∧ (0 : Int) ≤ (0 : Int) ∧ (0 : Int) ≤ (Nat.cast (m) : Int)) && true then (some (V.i IntKind.i64 (0 : Int), [some [V.b false, V.i IntKind.i64 (0 : Int), V.bs true (1 : Nat) (0 : Nat) n1, V.bs true (2 : Nat) (0 : Nat) n2, V.bs true (3 : Nat) (0 : Nat) (0 : Nat)]], [some (Bf.live (BC.arr ity k)), some (Bf.live (BC.arr bty (crs torn q (delL m (cmpL (sortI (List.take j k)) j) (dd (sortI (List.take j k)) j).length) n1 (kp m (cmpL (sortI (List.take j k)) j) (dd (sortI (List.take j k)) j).length).length (kp m (cmpL (sortI (List.take j k)) j) (dd (sortI (List.take j k)) j).length).length d))), some (Bf.live (BC.arr bty (List.take (0) (List.drop (0) v) ++ List.take ((List.take n1 (List.drop (0) (crs torn q (delL m (cmpL (sortI (List.take j k)) j) (dd (sortI (List.take j k)) j).length) n1 (kp m (cmpL (sortI (List.take j k)) j) (dd (sortI (List.take j k)) j).length).length (kp m (cmpL (sortI (List.take j k)) j) (dd (sortI (List.take j k)) j).length).length d))).length.min n2) (List.drop (0) (List.take n1 (List.drop (0) (crs torn q (delL m (cmpL (sortI (List.take j k)) j) (dd (sortI (List.take j k)) j).length) n1 (kp m (cmpL (sortI (List.take j k)) j) (dd (sortI (List.take j k)) j).length).length (kp m (cmpL (sortI (List.take j k)) j) (dd (sortI (List.take j k)) j).length).length d)))) ++ List.take (v.length - (0 + (List.take n1 (List.drop (0) (crs torn q (delL m (cmpL (sortI (List.take j k)) j) (dd (sortI (List.take j k)) j).length) n1 (kp m (cmpL (sortI (List.take j k)) j) (dd (sortI (List.take j k)) j).length).length (kp m (cmpL (sortI (List.take j k)) j) (dd (sortI (List.take j k)) j).length).length d))).length.min n2)) (List.drop (0 + (List.take n1 (List.drop (0) (crs torn q (delL m (cmpL (sortI (List.take j k)) j) (dd (sortI (List.take j k)) j).length) n1 (kp m (cmpL (sortI (List.take j k)) j) (dd (sortI (List.take j k)) j).length).length (kp m (cmpL (sortI (List.take j k)) j) (dd (sortI (List.take j k)) j).length).length d))).length.min n2) v)))), some (Bf.live (BC.arr wp (List.take (0) (List.drop (0) q) ++ List.take m (List.drop (0) (List.replicate m wp.dflt)) ++ List.take (q.length - (0 + m)) (List.drop (0 + m) q))))])) else none) else none) else none) else none) else none) := by kernel_rfl
theorem g25a_go (torn lf : Int) (o : Bool) (j n1 n2 m : Nat) (k d v : List Int) (q : List (Ty.den wp)) (h : cn_g25a torn lf o j n1 n2 m k d v q) : sf_g25a torn lf o j n1 n2 m k d v q := by
  obtain ⟨hj, hj2, hm, hd, hv, rfl, hq⟩ := h
  have hc : (k.take j).length = j := by rw [List.length_take]; omega
  obtain ⟨o1, o2, o3, o4⟩ := ord_eq (m := m) hc
  have h41 : cn_g41 (dd (sortI (List.take j k)) j).length o lf n1 n1 m (cmpL (sortI (List.take j k)) j) d v q := ⟨hm, cmp_len hc, Nat.le_trans (dd_le _ _) (by omega)⟩
  have hle : (ordO m (k.take j)).length ≤ j := by unfold ordO; exact Nat.le_trans (List.length_filter_le _ _) (by rw [hc]; exact dd_le _ _)
  have hdl : (ordO m (k.take j)).length ≤ (delL m (cmpL (sortI (List.take j k)) j) (dd (sortI (List.take j k)) j).length).length := by unfold delL; rw [o1]; simp only [List.length_append]; omega
  refine SemF.of_tree cfgD_ok (lv := []) (Eq.trans (t25a_eq torn lf o j n1 n1 m k d v q) ?_)
  rw [o1]
  have hca : pre_ca torn ((ordO m (k.take j)).length : Nat) 0 lf o (ordO m (k.take j)).length (ordO m (k.take j)).length n1 n1 m k d v q (delL m (cmpL (sortI (List.take j k)) j) (dd (sortI (List.take j k)) j).length) := ⟨rfl, rfl, rfl, hdl, by omega, hm, o3, hq⟩
  have hcr := crs_congr (torn := torn) (q := q) (n1 := n1) (j := (ordO m (k.take j)).length) (d := d) o2
  have hcl := crs_len (torn := torn) (j := (ordO m (k.take j)).length) hd hm hq o4
  rw [decide_eq_true ⟨hj, hj2⟩, decide_eq_true ⟨by rw [sortI_len, hc]; exact Nat.le_refl _, hj2⟩, decide_eq_true h41, decide_eq_true hca, decide_eq_true (by omega), hcr, durS_all hv hcl]
  unfold crd
  rw [hd]
  rfl
def fp_g25b : FP := ⟨[.ptr 0 0, .ty (.slice ity), .ty ity], [.cells [.ty .bool, .ty ity, .bz 0, .bz 1, .bz 2]], [.arr bty, .arr bty, .arr wp]⟩
abbrev cn_g25b (torn lf : Int) (o : Bool) (n1 n2 m : Nat) (k d v : List Int) (q : List (Ty.den wp)) : Prop := k.length ≤ 1000000 ∧ preD n1 n2 m d v q
noncomputable def cr_g25b (torn lf : Int) (o : Bool) (n1 n2 m : Nat) (k d v : List Int) (q : List (Ty.den wp)) : Option Bool × V × Ob × Nm := (some (decide (cn_g25b torn lf o n1 n2 m k d v q)), .i .i64 0, [some [.b false, .i .i64 0, .bs true 0 0 n1, .bs true 1 0 n2, .bs true 2 0 0]], [some (.live (.arr bty (crd torn q m k d))), some (.live (.arr bty (crd torn q m k d))), some (.live (.arr wp (qS q m)))])
noncomputable def ct_g25b := Ct.by fp_g25b fun ⟨(_, k, torn, _), ((o, lf, n1, n2, m, _), _), (d, v, q, _)⟩ => cr_g25b torn lf o n1 n2 m k d v q
abbrev sf_g25b (torn lf : Int) (o : Bool) (n1 n2 m : Nat) (k d v : List Int) (q : List (Ty.den wp)) : Prop := SemF Try.prog Γ 25 (SP.vals fp_g25b.sp ((), k, torn, ())) (OP.vals fp_g25b.op ((o, lf, n1, n2, m, ()), ())) (BP.vals fp_g25b.bp (d, v, q, ())) (.i .i64 0) ([some [.b false, .i .i64 0, .bs true 0 0 n1, .bs true 1 0 n2, .bs true 2 0 0]]) ([some (.live (.arr bty (crd torn q m k d))), some (.live (.arr bty (crd torn q m k d))), some (.live (.arr wp (qS q m)))])
noncomputable def ev_g25b (C : Cfg) (lv : List Nat) (torn lf : Int) (o : Bool) (n1 n2 m : Nat) (k d v : List Int) (q : List (Ty.den wp)) := evV Try.prog Γ C lv 25 (SP.vals fp_g25b.sp ((), k, torn, ())) (OP.vals fp_g25b.op ((o, lf, n1, n2, m, ()), ())) (BP.vals fp_g25b.bp (d, v, q, ()))
theorem cr_g25b_ok (torn lf : Int) (o : Bool) (n1 n2 m : Nat) (k d v : List Int) (q : List (Ty.den wp)) (h : (cr_g25b torn lf o n1 n2 m k d v q).1.getD true = true) : cn_g25b torn lf o n1 n2 m k d v q := of_decide_eq_true h
theorem ct_g25b_ok (H : ∀ (torn lf : Int) (o : Bool) (n1 n2 m : Nat) (k d v : List Int) (q : List (Ty.den wp)), cn_g25b torn lf o n1 n2 m k d v q → sf_g25b torn lf o n1 n2 m k d v q) : ∀ args ob nm c v ob1 nm1, ct_g25b args ob nm = some (c, v, ob1, nm1) → c.getD true = true → SemF Try.prog Γ 25 args ob nm v ob1 nm1 := Ct.by_ok fun ⟨(_, k, torn, _), ((o, lf, n1, n2, m, _), _), (d, v, q, _)⟩ h => H torn lf o n1 n2 m k d v q (cr_g25b_ok torn lf o n1 n2 m k d v q h)
theorem t25b_eq (torn lf : Int) (o : Bool) (n1 n2 m : Nat) (k d v : List Int) (q : List (Ty.den wp)) : (ev_g25b cfgD [] torn lf o n1 n2 m k d v q).run = (bif decide (k.length ≤ 1000000) then (bif decide (k.length ≤ (sortI k).length ∧ k.length ≤ 1000000) then (bif decide (cn_g41 (dd (sortI k) k.length).length o lf n1 n2 m (cmpL (sortI k) k.length) d v q) then (bif decide (pre_cb torn (Nat.cast ((kp m (cmpL (sortI k) k.length) (dd (sortI k) k.length).length).length) : Int) (0 : Int) lf o (kp m (cmpL (sortI k) k.length) (dd (sortI k) k.length).length).length (kp m (cmpL (sortI k) k.length) (dd (sortI k) k.length).length).length n1 n2 m d v q (delL m (cmpL (sortI k) k.length) (dd (sortI k) k.length).length)) then (bif decide ((0 : Int) ≤ (0 : Int) ∧ (0 : Int) ≤ (0 : Int) ∧ (0 : Int) ≤ (Nat.cast (m) : Int)) && true then (some (V.i IntKind.i64 (0 : Int), [some [V.b false, V.i IntKind.i64 (0 : Int), V.bs true (0 : Nat) (0 : Nat) n1, V.bs true (1 : Nat) (0 : Nat) n2, V.bs true (2 : Nat) (0 : Nat) (0 : Nat)]], [some (Bf.live (BC.arr bty (crs torn q (delL m (cmpL (sortI k) k.length) (dd (sortI k) k.length).length) n1 (kp m (cmpL (sortI k) k.length) (dd (sortI k) k.length).length).length (kp m (cmpL (sortI k) k.length) (dd (sortI k) k.length).length).length d))), some (Bf.live (BC.arr bty (List.take (0) (List.drop (0) v) ++ List.take ((List.take n1 (List.drop (0) (crs torn q (delL m (cmpL (sortI k) k.length) (dd (sortI k) k.length).length) n1 (kp m (cmpL (sortI k) k.length) (dd (sortI k) k.length).length).length (kp m (cmpL (sortI k) k.length) (dd (sortI k) k.length).length).length d))).length.min n2) (List.drop (0) (List.take n1 (List.drop (0) (crs torn q (delL m (cmpL (sortI k) k.length) (dd (sortI k) k.length).length) n1 (kp m (cmpL (sortI k) k.length) (dd (sortI k) k.length).length).length (kp m (cmpL (sortI k) k.length) (dd (sortI k) k.length).length).length d)))) ++ List.take (v.length - (0 + (List.take n1 (List.drop (0) (crs torn q (delL m (cmpL (sortI k) k.length) (dd (sortI k) k.length).length) n1 (kp m (cmpL (sortI k) k.length) (dd (sortI k) k.length).length).length (kp m (cmpL (sortI k) k.length) (dd (sortI k) k.length).length).length d))).length.min n2)) (List.drop (0 + (List.take n1 (List.drop (0) (crs torn q (delL m (cmpL (sortI k) k.length) (dd (sortI k) k.length).length) n1 (kp m (cmpL (sortI k) k.length) (dd (sortI k) k.length).length).length (kp m (cmpL (sortI k) k.length) (dd (sortI k) k.length).length).length d))).length.min n2) v)))), some (Bf.live (BC.arr wp (List.take (0) (List.drop (0) q) ++ List.take m (List.drop (0) (List.replicate m wp.dflt)) ++ List.take (q.length - (0 + m)) (List.drop (0 + m) q))))])) else none) else none) else none) else none) else none) := by kernel_rfl
theorem g25b_go (torn lf : Int) (o : Bool) (n1 n2 m : Nat) (k d v : List Int) (q : List (Ty.den wp)) (h : cn_g25b torn lf o n1 n2 m k d v q) : sf_g25b torn lf o n1 n2 m k d v q := by
  obtain ⟨hj2, hm, hd, hv, rfl, hq⟩ := h
  obtain ⟨j, hc⟩ : ∃ j, k.length = j := ⟨_, rfl⟩
  obtain ⟨o1, o2, o3, o4⟩ := ord_eq (m := m) hc
  have h41 : cn_g41 (dd (sortI k) j).length o lf n1 n1 m (cmpL (sortI k) j) d v q := ⟨hm, cmp_len hc, Nat.le_trans (dd_le _ _) (by omega)⟩
  have hle : (ordO m k).length ≤ j := by unfold ordO; exact Nat.le_trans (List.length_filter_le _ _) (by rw [hc]; exact dd_le _ _)
  have hdl : (ordO m k).length ≤ (delL m (cmpL (sortI k) j) (dd (sortI k) j).length).length := by unfold delL; rw [o1]; simp only [List.length_append]; omega
  refine SemF.of_tree cfgD_ok (lv := []) (Eq.trans (t25b_eq torn lf o n1 n1 m k d v q) ?_)
  rw [hc]
  rw [hc] at hj2
  rw [o1]
  have hca : pre_cb torn ((ordO m k).length : Nat) 0 lf o (ordO m k).length (ordO m k).length n1 n1 m d v q (delL m (cmpL (sortI k) j) (dd (sortI k) j).length) := ⟨rfl, rfl, rfl, hdl, by omega, hm, o3, hq⟩
  have hcr := crs_congr (torn := torn) (q := q) (n1 := n1) (j := (ordO m k).length) (d := d) o2
  have hcl := crs_len (torn := torn) (j := (ordO m k).length) hd hm hq o4
  rw [decide_eq_true hj2, decide_eq_true ⟨by rw [sortI_len, hc]; exact Nat.le_refl _, hj2⟩, decide_eq_true h41, decide_eq_true hca, decide_eq_true (by omega), hcr, durS_all hv hcl]
  unfold crd
  rw [hd]
  rfl
def fp_g25n : FP := ⟨[.ptr 0 0, .nl, .ty ity], [.cells [.ty .bool, .ty ity, .bz 0, .bz 1, .bz 2]], [.arr bty, .arr bty, .arr wp]⟩
abbrev cn_g25n (torn lf : Int) (o : Bool) (n1 n2 m : Nat) (d v : List Int) (q : List (Ty.den wp)) : Prop := preD n1 n2 m d v q
noncomputable def cr_g25n (torn lf : Int) (o : Bool) (n1 n2 m : Nat) (d v : List Int) (q : List (Ty.den wp)) : Option Bool × V × Ob × Nm := (some (decide (cn_g25n torn lf o n1 n2 m d v q)), .i .i64 0, [some [.b false, .i .i64 0, .bs true 0 0 n1, .bs true 1 0 n2, .bs true 2 0 0]], [some (.live (.arr bty d)), some (.live (.arr bty d)), some (.live (.arr wp (qS q m)))])
noncomputable def ct_g25n := Ct.by fp_g25n fun ⟨(_, _, torn, _), ((o, lf, n1, n2, m, _), _), (d, v, q, _)⟩ => cr_g25n torn lf o n1 n2 m d v q
abbrev sf_g25n (torn lf : Int) (o : Bool) (n1 n2 m : Nat) (d v : List Int) (q : List (Ty.den wp)) : Prop := SemF Try.prog Γ 25 (SP.vals fp_g25n.sp ((), (), torn, ())) (OP.vals fp_g25n.op ((o, lf, n1, n2, m, ()), ())) (BP.vals fp_g25n.bp (d, v, q, ())) (.i .i64 0) ([some [.b false, .i .i64 0, .bs true 0 0 n1, .bs true 1 0 n2, .bs true 2 0 0]]) ([some (.live (.arr bty d)), some (.live (.arr bty d)), some (.live (.arr wp (qS q m)))])
noncomputable def ev_g25n (C : Cfg) (lv : List Nat) (torn lf : Int) (o : Bool) (n1 n2 m : Nat) (d v : List Int) (q : List (Ty.den wp)) := evV Try.prog Γ C lv 25 (SP.vals fp_g25n.sp ((), (), torn, ())) (OP.vals fp_g25n.op ((o, lf, n1, n2, m, ()), ())) (BP.vals fp_g25n.bp (d, v, q, ()))
theorem cr_g25n_ok (torn lf : Int) (o : Bool) (n1 n2 m : Nat) (d v : List Int) (q : List (Ty.den wp)) (h : (cr_g25n torn lf o n1 n2 m d v q).1.getD true = true) : cn_g25n torn lf o n1 n2 m d v q := of_decide_eq_true h
theorem ct_g25n_ok (H : ∀ (torn lf : Int) (o : Bool) (n1 n2 m : Nat) (d v : List Int) (q : List (Ty.den wp)), cn_g25n torn lf o n1 n2 m d v q → sf_g25n torn lf o n1 n2 m d v q) : ∀ args ob nm c v ob1 nm1, ct_g25n args ob nm = some (c, v, ob1, nm1) → c.getD true = true → SemF Try.prog Γ 25 args ob nm v ob1 nm1 := Ct.by_ok fun ⟨(_, _, torn, _), ((o, lf, n1, n2, m, _), _), (d, v, q, _)⟩ h => H torn lf o n1 n2 m d v q (cr_g25n_ok torn lf o n1 n2 m d v q h)
theorem t25n_eq (torn lf : Int) (o : Bool) (n1 n2 m : Nat) (d v : List Int) (q : List (Ty.den wp)) : (ev_g25n cfgD [] torn lf o n1 n2 m d v q).run = (bif decide (cn_g41n o lf n1 n2 m d v q) then (bif decide (pre_cn torn (0 : Int) (0 : Int) lf o [] [] n1 n2 m d v q) then (bif decide ((0 : Int) ≤ (0 : Int) ∧ (0 : Int) ≤ (0 : Int) ∧ (0 : Int) ≤ (Nat.cast (m) : Int)) && true then (some (V.i IntKind.i64 (0 : Int), [some [V.b false, V.i IntKind.i64 (0 : Int), V.bs true (0 : Nat) (0 : Nat) n1, V.bs true (1 : Nat) (0 : Nat) n2, V.bs true (2 : Nat) (0 : Nat) (0 : Nat)]], [some (Bf.live (BC.arr bty d)), some (Bf.live (BC.arr bty (List.take (0) (List.drop (0) v) ++ List.take ((List.take n1 (List.drop (0) d)).length.min n2) (List.drop (0) (List.take n1 (List.drop (0) d))) ++ List.take (v.length - (0 + (List.take n1 (List.drop (0) d)).length.min n2)) (List.drop (0 + (List.take n1 (List.drop (0) d)).length.min n2) v)))), some (Bf.live (BC.arr wp (List.take (0) (List.drop (0) q) ++ List.take m (List.drop (0) (List.replicate m wp.dflt)) ++ List.take (q.length - (0 + m)) (List.drop (0 + m) q))))])) else none) else none) else none) := by kernel_rfl
theorem g25n_go (torn lf : Int) (o : Bool) (n1 n2 m : Nat) (d v : List Int) (q : List (Ty.den wp)) (h : cn_g25n torn lf o n1 n2 m d v q) : sf_g25n torn lf o n1 n2 m d v q := by
  obtain ⟨hm, hd, hv, rfl, hq⟩ := h
  refine SemF.of_tree cfgD_ok (lv := []) (Eq.trans (t25n_eq torn lf o n1 n1 m d v q) ?_)
  rw [durS_all hv hd]
  have hp : pre_cn torn 0 0 lf o [] [] n1 n1 m d v q := ⟨rfl, rfl, rfl, rfl⟩
  have hx : cn_g41n o lf n1 n1 m d v q := trivial
  rw [decide_eq_true hx, decide_eq_true hp, decide_eq_true (by omega)]
  rfl
noncomputable def T4 : CallT := fun f args ob nm => match Nat.beq f 25 with | true => (Ct.or ct_g25a (Ct.or ct_g25b ct_g25n)) args ob nm | false => T0 f args ob nm
theorem T4_ok : CtOk Try.prog Γ T4 := CtOk.cons T0_ok 25 (Ct.or ct_g25a (Ct.or ct_g25b ct_g25n)) (by decide) Try.f25 Try.func25 (by kernel_rfl) (by kernel_rfl) (Ct.or_ok (ct_g25a_ok g25a_go) (Ct.or_ok (ct_g25b_ok g25b_go) (ct_g25n_ok g25n_go)))
end D
end Go.Proofs.Ytnjjkobijjdnbaa

/- Package disk: DiskReadsBack answers true. -/
set_option linter.unusedVariables false
set_option linter.unusedSimpArgs false
set_option maxRecDepth 100000
set_option maxHeartbeats 4000000
namespace Go.Proofs.Ytnjjkobijjdnbaa
open Go
namespace D
/-- A size from 1 to m. -/
def sz (n m : Int) : Int := IntKind.i64.wrap (1 + pickD n m)
theorem sz_in {n m : Int} (h : 0 < m) (h2 : m ≤ 1000) : 1 ≤ sz n m ∧ sz n m ≤ m := by
  have := pickD_lt (k := n) h
  unfold sz
  rw [wrap_in (by omega) (by omega)]
  omega
theorem rb_run (n : Int) (l : List (Ty.den wt)) : run cfgS 6 [.si .i64 n, .slst .ro wt l] = .ok (some (inr n && decide ((300 : Int) ≠ 0) && (!decide (sz n 300 < 1) && (some (!decide (sz n 300 > 4194304) && (some (decide (0 ≤ sz n 300 ∧ sz n 300 ≤ sz n 300 ∧ 1 * sz n 300 ≤ 281474976710656 ∧ sz n 300 ≤ 9223372036854775807) && (some (decide (0 ≤ sz n 300 ∧ sz n 300 ≤ sz n 300 ∧ 1 * sz n 300 ≤ 281474976710656 ∧ sz n 300 ≤ 9223372036854775807) && true)).getD true)).getD true)).getD true && (decide (0 ≤ sz n 300 ∧ sz n 300 ≤ sz n 300 ∧ 1 * sz n 300 ≤ 281474976710656 ∧ sz n 300 ≤ 9223372036854775807) && (decide ((sz n 300).toNat = (sz n 300).toNat ∧ (sz n 300).toNat = (sz n 300).toNat ∧ (sz n 300).toNat = (sz n 300).toNat ∧ 1 ≤ sz n 300 ∧ sz n 300 ≤ 300 ∧ (List.replicate (sz n 300).toNat (0 : Int)).length = (sz n 300).toNat ∧ (List.replicate (sz n 300).toNat (0 : Int)).length = (sz n 300).toNat) && eqL (List.replicate (sz n 300).toNat (0 : Int)) (List.replicate (sz n 300).toNat (0 : Int)) && (show List (Ty.den wt) from l).all fun w => inr (wO w)))))) (V.b true) := by kernel_rfl
theorem law6 (n : Int) (l : List (Ty.den wt)) (hn : inr n = true) (hl : ∀ w ∈ l, inr (wO w) = true) : SemF Try.prog G0 6 [.si .i64 n, .slst .ro wt l] [] [] (.sb true) [] [] := by
  have : SemF Try.prog G0 6 [.si .i64 n, .slst .ro wt l] [] [] (.b true) [] [] := by
    refine of_run cfgS_ok (rb_run n l) ?_ rfl
    obtain ⟨h1, h2⟩ := sz_in (n := n) (m := 300) (by decide) (by decide)
    generalize sz n 300 = N at *
    have e1 : decide (N < 1) = false := decide_eq_false (by omega)
    have e2 : decide (N > 4194304) = false := decide_eq_false (by omega)
    have e3 : decide (0 ≤ N ∧ N ≤ N ∧ 1 * N ≤ 281474976710656 ∧ N ≤ 9223372036854775807) = true := decide_eq_true ⟨by omega, by omega, by omega, by omega⟩
    have e4 : (show List (Ty.den wt) from l).all (fun w => inr (wO w)) = true := List.all_eq_true.2 hl
    have e5 : eqL (List.replicate N.toNat (0 : Int)) (List.replicate N.toNat (0 : Int)) = true := decide_eq_true rfl
    rw [hn, e1, e2, e3, e4, e5, List.length_replicate]
    have e6 : decide (N.toNat = N.toNat ∧ N.toNat = N.toNat ∧ N.toNat = N.toNat ∧ 1 ≤ N ∧ N ≤ 300 ∧ N.toNat = N.toNat ∧ N.toNat = N.toNat) = true := decide_eq_true ⟨rfl, rfl, rfl, h1, h2, rfl, rfl⟩
    rw [e6]
    rfl
  exact this.weaken fun G cv h => by cases h; exact .sb _
end D
end Go.Proofs.Ytnjjkobijjdnbaa

