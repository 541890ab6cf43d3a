/- A range over a function: its rounds. -/
import Derived.Test.YtnjjkobijjdnbaaEv15a
set_option linter.unusedVariables false
set_option linter.unusedSimpArgs false
namespace Go.Proofs.Ytnjjkobijjdnbaa
open Go

/-- Yield's arguments in the loop's temporaries. -/
def setPs : List Nat → List V → List V → List V
  | p :: ps, v :: vs, tm => setPs ps vs (tm.set p v)
  | _, _, tm => tm
theorem setPs_rels {G : Gh} : ∀ (ps : List Nat) (vs : List V) (cvs : List Value) (tm : List V) (t : Array Value), Rels G vs cvs → Rels G tm t.toList → Rels G (setPs ps vs tm) ((ps.zip cvs).foldl (fun t p => t.setIfInBounds p.1 p.2) t).toList
  | [], vs, cvs, tm, t, _, h => by simpa [setPs] using h
  | p :: ps, [], cvs, tm, t, h1, h => by
    have : cvs = [] := by have := h1.1; simpa using this
    subst this
    simpa [setPs] using h
  | p :: ps, v :: vs, [], tm, t, h1, h => by have := h1.1; simp at this
  | p :: ps, v :: vs, c :: cvs, tm, t, h1, h => by
    have hv : VRel G v c := h1.2 0 v c rfl rfl
    have hvs : Rels G vs cvs := ⟨by have := h1.1; simpa using this, fun j x y a b => h1.2 (j + 1) x y (by simpa using a) (by simpa using b)⟩
    simp only [setPs, List.zip_cons_cons, List.foldl_cons]
    exact setPs_rels ps vs cvs _ _ hvs (by simpa using h.set hv p)
def St.noY (x : St) : Bool := (V.clL idP x.tm).isSome && noYm x.ob x.nm
section
variable {P : Program} {Γ : Nat → Option V} {G : Gh} {ob : Ob} {nm : Nm} {w : World} {σ : St}
theorem rec_back {r : Loop} (h1 : r.state = .ready) (h2 : r.pending = none) : ({ r with state := .ready, pending := none } : Loop) = r := by
  cases r
  simp only at h1 h2
  subst h1
  subst h2
  rfl
theorem SemF.yield {tm : List V} {ps : Array Tmp} {as bd : Code} {vs : List V} {s1 s2 : St} (hf : P.funcs[yid]? = none) (hl : vs.length = ps.size)
    (hA : SemC P Γ as ⟨setPs ps.toList vs tm, ob, nm, ob.length, nm.length⟩ .normal s1) (hY : s1.noY = true) (hB : SemC P Γ bd s1 .normal s2) : SemF P Γ yid (.yl tm ps as bd :: vs) ob nm (.b true) s2.ob s2.nm := by
  intro G w cargs hw hr
  refine (callsX_yield hf).2 ?_
  match cargs, hr with
  | [], hr => exact absurd hr.1 (by simp)
  | c0 :: rest, hr =>
    have h0 : VRel G (.yl tm ps as bd) c0 := hr.2 0 _ _ rfl rfl
    have hrs : Rels G vs rest := ⟨by have := hr.1; simpa using this, fun j x y a b => hr.2 (j + 1) x y (by simpa using a) (by simpa using b)⟩
    cases h0 with
    | @yl _ _ _ _ l r hD hs hlen ht =>
      obtain ⟨s0, p0, rfl, rfl, rfl⟩ := hs
      have hheap := (hw.dd _ _ hD).1
      refine ⟨l, rest, rfl, r.fn, _, r.assign, r.body, run_yield hheap (by rw [← hl]; simpa using hrs.1), ?_⟩
      refine roundIn_of_wpIn (F := Fence.wide) trivial ?_
      have htm : Rels G tm r.tmps.toList := ⟨by simpa using hlen, fun j v cv a b => ht j v cv a (by simpa using b)⟩
      have e0 : ((r.params.zip rest.toArray).foldl (fun tmps (x : Tmp × Value) => match x with | (t, a) => tmps.setIfInBounds t a) r.tmps) = (r.params.toList.zip rest).foldl (fun t p => t.setIfInBounds p.1 p.2) r.tmps := by
        rw [← Array.foldl_toList, Array.toList_zip]
      have hps := setPs_rels r.params.toList vs rest tm r.tmps hrs htm
      rw [← e0] at hps
      have hw0 := hw.reK ob.length nm.length
      refine wpIn_mono (hA (some l) (G.reK ob.length nm.length) _ w ⟨hps.mono' (G.reK_sub _ _), hw0, .nil _, rfl, rfl⟩ (fun l' e => by cases e; exact ⟨r, hD⟩)) ?_
      rintro e a1 w1 ⟨rfl, G1, hle1, r1⟩
      have hD1 : G1.D l = some (.loop r) := hle1.d _ _ hD
      have hold : G1.w0.own l := (r1.wr.dd _ _ hD1).2.2
      have hb1 := run_beginRound (P := P) (r1.wr.dd _ _ hD1).1 s0
      refine ⟨_, hb1, ?_⟩
      simp only [St.noY, Bool.and_eq_true] at hY
      obtain ⟨hY1, hY2⟩ := hY
      have hw2 := r1.wr.putD (G2 := G1.setD l (.loop { r with state := .busy })) (o := .loop { r with state := .busy }) hD1 rfl hold rfl (fun v hv cv h => VRel.noYD h (noYm_ob hY2 v hv)) (fun v hv cv h => VRel.noYD h (noYm_nm hY2 v hv))
      have htm1 : V.clL idP s1.tm = some s1.tm := by
        cases hc : V.clL idP s1.tm with
        | none => rw [hc] at hY1; cases hY1
        | some ys => rw [clL_id _ _ hc]
      have rel2 : Rel Γ (G1.setD l (.loop { r with state := .busy })) s1 a1 (w1.putObj l (.loop { r with state := .busy })) :=
        ⟨⟨r1.tm.1, fun j v cv a b => VRel.noYD (r1.tm.2 j v cv a b) (clL_id_mem htm1 v (List.mem_of_getElem? a))⟩, hw2, ⟨r1.df.nd, fun d hd => by
          obtain ⟨D, e, q1, q2⟩ := r1.df.at_ d hd
          refine ⟨D, e, q1, ?_⟩
          show (if D = l then _ else G1.D D) = _
          rw [if_neg (by rintro rfl; rw [hD1] at q2; cases q2)]
          exact q2⟩, r1.kh, r1.kt⟩
      have ro2 : RoOk (G1.setD l (.loop { r with state := .busy })) (some l) := fun l' e => by cases e; exact ⟨_, setD_new _ _ _⟩
      refine wpIn_mono (hB (some l) _ a1 _ rel2 ro2) ?_
      rintro e a2 w3 ⟨rfl, G2, hle2, r2⟩
      have hD2 : G2.D l = some (.loop { r with state := .busy }) := hle2.d _ _ (setD_new _ _ _)
      have he := run_endRound (P := P) none (r2.wr.dd _ _ hD2).1
      simp only [Option.isNone_none, if_true] at he
      rw [rec_back s0 p0] at he
      refine ⟨_, _, he, .bool true, (G2.setD l (.loop r)).reK G.kh G.kt, rfl, ?_, .b true, ?_⟩
      · refine ⟨⟨fun b off cv h => hle2.m b off cv (hle1.m b off cv h), fun o b h => ?_, fun n x h => ?_, fun k q h => ?_⟩, rfl, rfl, hle2.w0.trans hle1.w0, hle2.m0.trans hle1.m0, hle2.kd.trans hle1.kd⟩
        · have hlt := (hw.hlt o b h).1
          have g1 := hle1.h o b hlt h
          exact hle2.h o b (by show o < G1.kh; rw [hle1.kh]; exact hlt) g1
        · have hlt := hw.tlt n x h
          have g1 := hle1.t n x hlt h
          exact hle2.t n x (by show n < G1.kt; rw [hle1.kt]; exact hlt) g1
        · show (if k = l then _ else G2.D k) = _
          by_cases hk : k = l
          · subst hk; rw [hD] at h; cases h; rw [if_pos rfl]
          · rw [if_neg hk]
            refine hle2.d _ _ ?_
            show (if k = l then _ else G1.D k) = _
            rw [if_neg hk]
            exact hle1.d _ _ h
      · have gd : ∀ {v : V} {cv : Value}, VRel G2 v cv → VRel (G2.setD l (.loop r)) v cv := fun h =>
          VRel.mono0 (G := G2) (G' := G2.setD l (.loop r)) (fun _ _ _ h => h) (fun _ _ h => h) (fun _ _ h => h) (fun l' q hq h => by
            show (if l' = l then _ else G2.D l') = _
            by_cases hk : l' = l
            · subst hk; rw [hD2] at h; cases h; cases hq
            · rw [if_neg hk]; exact h) h
        exact (r2.wr.putD (o := .loop r) hD2 rfl (by rw [hle2.w0]; exact hold) rfl (fun v _ cv h => gd h) (fun v _ cv h => gd h)).reK _ _
end
end Go.Proofs.Ytnjjkobijjdnbaa
