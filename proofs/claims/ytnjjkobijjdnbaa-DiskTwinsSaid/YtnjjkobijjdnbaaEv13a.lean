/- The evaluator of one operation with lists of plain data and buffers. -/
import Derived.Test.YtnjjkobijjdnbaaEv13
set_option linter.unusedVariables false
set_option linter.unusedSimpArgs false
namespace Go.Proofs.Ytnjjkobijjdnbaa
open Go

def V.isLs : V → Bool
  | .slst _ _ _ => true
  | .bs _ _ _ _ => true
  | _ => false
def V.isBp : V → Bool
  | .bp _ _ _ => true
  | _ => false
/-- Which operations are looked at here: by their shape, and that of what they are handed. -/
def xop (o : Oper) (e : Operand → V) : Bool :=
  match o.op with
  | .load _ x => (e x).isBp
  | .store _ x _ => (e x).isBp
  | .makeSlice _ _ _ => true
  | .convert _ _ _ => true
  | .index _ x _ => (e x).str?.isSome
  | .indexAddr _ x _ => (e x).isLs
  | .slice _ _ _ _ _ => true
  | .call c => match c.callee, c.args.toList with | .builtin .len, [x] => (e x).isLs | .builtin .append, [_, _] => true | .builtin .copy, [_, _] => true | .builtin .clear, [_] => true | _, _ => false
  | _ => false
def lenX (P : Program) (ts : Array TypeId) (x : V) : Option Out :=
  match ts[0]? with
  | some T =>
    if isSliceTy P T then
      match x with
      | .slst _ _ l => outP (.si .i64 (l.length : Nat))
      | .bs sy _ _ len => outP (mkI sy .i64 (len : Nat))
      | _ => none
    else none
  | none => none
def idxL (P : Program) (T : TypeId) (x y : V) (nm : Nm) : Option Out :=
  match tyElem P T with
  | some (none, el) =>
    match tySize P el, y.int? with
    | some sz, some (k, i, s) =>
      match x with
      | .slst _ ty l => if ty.size = sz then some ⟨decide (0 ≤ i ∧ i < (l.length : Int)), true, .pel [ty.val (l.getD i.toNat ty.dflt)] 0 0, .pure⟩ else none
      | .bs sy n off len =>
        match nm[n]? with
        | some (some (.live c)) => if c.sz = sz then some ⟨decide (0 ≤ i ∧ i < (len : Int)), sy || s, .bp n (off + i.toNat) 0, .rds [] [n]⟩ else none
        | _ => none
      | _ => none
    | _, _ => none
  | _ => none
def loadX (P : Program) (T : TypeId) (x : V) (nm : Nm) : Option Out :=
  match tyAgg P T, tySize P T with
  | some ag, some sz =>
    match x with
    | .bp n i off =>
      match nm[n]? with
      | some (some (.live c)) =>
        match c.at i with
        | some (b, s, cs) => match getV ag sz cs off with | some v => some ⟨b, s, v, .rds [] [n]⟩ | none => none
        | none => none
      | _ => none
    | _ => none
  | _, _ => none
def sliceX (P : Program) (T : TypeId) (x : V) (lo hi : Bd) (nm : Nm) : Option Out :=
  match x.str? with
  | some (s, sy) => if isStrTy P T then some ⟨decide (0 ≤ lo.lo ∧ lo.lo ≤ hi.hi s.size ∧ hi.hi s.size ≤ (s.size : Int)), sy || lo.sy || hi.sy, mkS (sy || lo.sy || hi.sy) (s.extract lo.lo.toNat (hi.hi s.size).toNat), .pure⟩ else none
  | none =>
    match tyElem P T with
    | some (none, el) =>
      match tySize P el with
      | some sz =>
        match x with
        | .slst _ ty l => if ty.size = sz then some ⟨decide (0 ≤ lo.lo ∧ lo.lo ≤ hi.hi l.length ∧ hi.hi l.length ≤ (l.length : Int)), true, .slst .ro ty ((l.take (hi.hi l.length).toNat).drop lo.lo.toNat), .pure⟩ else none
        | .lst _ xs => if xs.all (fun v => v.cells.length == sz) && !(lo.sy || hi.sy) then some ⟨decide (0 ≤ lo.lo ∧ lo.lo ≤ hi.hi xs.length ∧ hi.hi xs.length ≤ (xs.length : Int)), false, .lst .ro ((xs.take (hi.hi xs.length).toNat).drop lo.lo.toNat), .pure⟩ else none
        | .bs sy n off len =>
          match nm[n]? with
          | some (some (.live c)) => if c.sz = sz then some ⟨decide (0 ≤ lo.lo ∧ lo.lo ≤ hi.hi len ∧ hi.hi len ≤ (len : Int)), sy || lo.sy || hi.sy, .bs (sy || lo.sy || hi.sy) n (off + lo.lo.toNat) ((hi.hi len).toNat - lo.lo.toNat), .rds [] [n]⟩ else none
          | _ => none
        | _ => none
      | none => none
    | _ => none
def evX (P : Program) (slot : Nat) (o : Oper) (e : Operand → V) (nm : Nm) : Option Out :=
  match o.op with
  | .load T x => loadX P T (e x) nm
  | .store T x y => stoX P T (e x) (e y) nm
  | .makeSlice T x y => makX P T (e x) (e y) slot
  | .convert S D x => cnvX P S D (e x) nm
  | .index T x y => idxS P T (e x) (e y)
  | .indexAddr T x y => idxL P T (e x) (e y) nm
  | .slice T x low high none => match bdE e low, bdE e high with | some lo, some hi => sliceX P T (e x) lo hi nm | _, _ => none
  | .call c => match c.callee, c.args.toList with | .builtin .len, [x] => lenX P c.argTypes (e x) | .builtin .append, [x, y] => appX P c.argTypes (e x) (e y) nm slot | .builtin .copy, [x, y] => copX P c.argTypes (e x) (e y) nm | .builtin .clear, [x] => clrX P c.argTypes (e x) nm | _, _ => none
  | _ => none
def evE (P : Program) (cf : CallF) (slot : Nat) (o : Oper) (e : Operand → V) (ob : Ob) (nm : Nm) : Option Out :=
  match xop o e with
  | true => evX P slot o e nm
  | false => evE0 P cf slot o e ob nm

section
variable {P : Program} {Γ : Nat → Option V} {σ : St} {ob ob' : Ob} {nm nm' : Nm} {cf : CallF} {slot : Nat} {o : Oper} {e e' : Operand → V} {out : Out}
theorem SemV.lenX {c : Call} {x : Operand} (ho : o.op = .call c) (hc : c.callee = .builtin .len) (ha : c.args.toList = [x]) (h : lenX P c.argTypes (σ.eval Γ x) = some out) : SemV P Γ o σ out.v (out.eff.ob σ.ob) (out.eff.nm σ.nm) := by
  unfold Go.Proofs.Ytnjjkobijjdnbaa.lenX at h
  split at h
  · rename_i T hT
    split at h
    · rename_i hs
      unfold isSliceTy at hs
      split at hs
      · rename_i el hu
        have hca : ∀ a : Act, c.args.map a.eval = #[a.eval x] := fun a => by apply Array.ext'; simp [ha]
        split at h
        · rename_i t ty l hx
          cases h
          refine SemV.of_pure fun G a w hr => ?_
          have hxx := hr.eval x
          rw [hx] at hxx
          cases hxx with
          | slst q =>
            obtain ⟨p, cap, he⟩ := q.slice_form
            simp only [List.length_map] at he
            exact ⟨_, by simp [execOp, ho, resolve, hc, invoke, Go.builtin, hca, Builtin.len_, hT, run_underlying hu, he, goInt], .si _ _⟩
        · rename_i sy n off len hx
          cases h
          refine SemV.of_pure fun G a w hr => ?_
          have hxx := hr.eval x
          rw [hx] at hxx
          obtain ⟨p, cap, he⟩ : ∃ p cap, a.eval x = .slice p len cap := by
            generalize a.eval x = cv at hxx
            cases hxx <;> exact ⟨_, _, rfl⟩
          exact ⟨.int .i64 (len : Nat), by simp [execOp, ho, resolve, hc, invoke, Go.builtin, hca, Builtin.len_, hT, run_underlying hu, he, goInt], mkI_rel _ _ _ _⟩
        · cases h
      · cases hs
    · cases h
  · cases h
theorem evX_sound (h : evX P slot o (σ.eval Γ) σ.nm = some out) (hchk : out.chk = true) (hs : allocs o = true → σ.ob[slot]? = some none ∧ σ.nm[slot]? = some none) : SemV P Γ o σ out.v (out.eff.ob σ.ob) (out.eff.nm σ.nm) := by
  unfold evX at h
  split at h
  · rename_i T x ho
    unfold loadX at h
    split at h
    · rename_i ag sz ha hsz
      split at h
      · rename_i n i off hx
        split at h
        · rename_i c hn
          split at h
          · rename_i b s cs hat
            split at h
            · rename_i v hv
              cases h
              have hchk : b = true := hchk
              subst hchk
              exact SemV.load_bp ho ha hsz hx hn hat hv
            · cases h
          · cases h
        · cases h
      · cases h
    · cases h
  · rename_i T x y ho
    exact SemV.stoX ho h hchk
  · rename_i T x y ho
    exact SemV.makX ho h hchk (hs (by simp [allocs, ho])).2
  · rename_i S D x ho
    exact SemV.cnvX ho h
  · rename_i T x y ho
    exact SemV.idxS ho h hchk
  · rename_i T x y ho
    unfold idxL at h
    split at h
    · rename_i el hel
      split at h
      · rename_i sz k i s hsz hy
        split at h
        · rename_i t ty l hx
          split at h
          · rename_i hz
            cases h
            exact SemV.index_slst ho hel hsz hz hx hy (of_decide_eq_true hchk)
          · cases h
        · rename_i sy n off len hx
          split at h
          · rename_i c hn
            split at h
            · rename_i hz
              cases h
              exact SemV.index_bs ho hel hsz hz hx hn hy (of_decide_eq_true hchk)
            · cases h
          · cases h
        · cases h
      · cases h
    · cases h
  · rename_i T x low high ho
    split at h
    · rename_i lo hi hlo hhi
      unfold sliceX at h
      split at h
      · rename_i s sy hx
        split at h
        · rename_i hst
          cases h
          have hd := of_decide_eq_true hchk
          unfold isStrTy at hst
          split at hst
          · rename_i hu
            exact SemV.slice_str ho hu hx hlo hhi hd.1 hd.2.1 hd.2.2
          · cases hst
        · cases h
      · split at h
        · rename_i el hel
          split at h
          · rename_i sz hsz
            split at h
            · rename_i t ty l hx
              split at h
              · rename_i hz
                cases h
                have hd := of_decide_eq_true hchk
                exact SemV.slice_slst ho hel hsz hz hx hlo hhi hd.1 hd.2.1 hd.2.2
              · cases h
            · rename_i t xs hx
              split at h
              · rename_i hz
                simp only [Bool.and_eq_true] at hz
                cases h
                have hd := of_decide_eq_true hchk
                exact SemV.slice_lst ho hel hsz hz.1 hx hlo hhi hd.1 hd.2.1 hd.2.2
              · cases h
            · rename_i sy n off len hx
              split at h
              · rename_i c hn
                split at h
                · rename_i hz
                  cases h
                  have hd := of_decide_eq_true hchk
                  exact SemV.slice_bs ho hel hsz hz hx hn hlo hhi hd.1 hd.2.1 hd.2.2
                · cases h
              · cases h
            · cases h
          · cases h
        · cases h
    · cases h
  · rename_i c ho
    split at h
    · rename_i x hcal hargs
      exact SemV.lenX ho hcal hargs h
    · rename_i x y hcal hargs
      exact SemV.appX ho hcal hargs h hchk (hs (by simp [allocs, ho, hcal])).2
    · rename_i x y hcal hargs
      exact SemV.copX ho hcal hargs h
    · rename_i x hcal hargs
      exact SemV.clrX ho hcal hargs h
    · cases h
  · cases h
theorem evE_sound (hcf : CallsOk P Γ cf) (h : evE P cf slot o (σ.eval Γ) σ.ob σ.nm = some out) (hchk : out.chk = true) (hs : allocs o = true → σ.ob[slot]? = some none ∧ σ.nm[slot]? = some none) : SemV P Γ o σ out.v (out.eff.ob σ.ob) (out.eff.nm σ.nm) := by
  unfold evE at h
  split at h
  · exact evX_sound h hchk hs
  · exact evE0_sound hcf h hchk hs
theorem EffOk.rds (slot : Nat) (al : Bool) (ob : Ob) (nm : Nm) (a b : List Nat) : EffOk slot al ob nm (.rds a b) := ⟨(fun p hp => by cases hp), (fun p hp => by cases hp), (fun p hp => by cases hp)⟩
theorem appX_eff {ts : Array TypeId} {x y : V} {al : Bool} (hal : al = true) (h : appX P ts x y nm slot = some out) : EffOk slot al ob nm out.eff := by
  unfold appX at h
  repeat' (split at h)
  all_goals first
    | (cases h; done)
    | (cases h; exact ⟨(fun p hp => by cases hp), (fun p hp => by
        simp only [List.mem_cons, List.not_mem_nil, or_false] at hp
        first
          | (subst hp; exact .inr ⟨rfl, hal⟩)
          | (rcases hp with rfl | rfl
             · exact .inl ⟨_, by assumption⟩
             · exact .inr ⟨rfl, hal⟩)), (fun p hp => by cases hp)⟩)
theorem stoX_eff {T : TypeId} {x y : V} {al : Bool} (h : stoX P T x y nm = some out) : EffOk slot al ob nm out.eff := by
  unfold stoX at h
  repeat' (split at h)
  all_goals first
    | (cases h; done)
    | (cases h; exact ⟨(fun p hp => by cases hp), (fun p hp => by
        simp only [List.mem_cons, List.not_mem_nil, or_false] at hp
        subst hp
        exact .inl ⟨_, by assumption⟩), (fun p hp => by cases hp)⟩)
theorem makX_eff {T : TypeId} {x y : V} {al : Bool} (hal : al = true) (h : makX P T x y slot = some out) : EffOk slot al ob nm out.eff := by
  unfold makX at h
  repeat' (split at h)
  all_goals first
    | (cases h; done)
    | (cases h; exact ⟨(fun p hp => by cases hp), (fun p hp => by
        simp only [List.mem_cons, List.not_mem_nil, or_false] at hp
        subst hp
        exact .inr ⟨rfl, hal⟩), (fun p hp => by cases hp)⟩)
theorem copX_eff {ts : Array TypeId} {x y : V} {al : Bool} (h : copX P ts x y nm = some out) : EffOk slot al ob nm out.eff := by
  unfold copX at h
  repeat' (split at h)
  all_goals first
    | (cases h; done)
    | (cases h; exact ⟨(fun p hp => by cases hp), (fun p hp => by
        simp only [List.mem_cons, List.not_mem_nil, or_false] at hp
        subst hp
        exact .inl ⟨_, by assumption⟩), (fun p hp => by cases hp)⟩)
    | (cases h; exact ⟨(fun p hp => by cases hp), (fun p hp => by cases hp), (fun p hp => by cases hp)⟩)
theorem clrX_eff {ts : Array TypeId} {x : V} {al : Bool} (h : clrX P ts x nm = some out) : EffOk slot al ob nm out.eff := by
  unfold clrX at h
  repeat' (split at h)
  all_goals first
    | (cases h; done)
    | (cases h; exact EffOk.none _ _ _ _)
    | (cases h; exact ⟨(fun p hp => by cases hp), (fun p hp => by
        simp only [List.mem_cons, List.not_mem_nil, or_false] at hp
        subst hp
        exact .inl ⟨_, by assumption⟩), (fun p hp => by cases hp)⟩)
theorem evX_eff (h : evX P slot o e nm = some out) : EffOk slot (allocs o) ob nm out.eff := by
  unfold evX at h
  split at h
  case h_2 T x y ho => exact stoX_eff h
  case h_3 T x y ho => exact makX_eff (by simp [allocs, ho]) h
  case h_4 S D x ho =>
    unfold cnvX at h
    repeat' (split at h)
    all_goals first
      | (cases h; done)
      | (cases h; exact EffOk.none _ _ _ _)
      | (cases h; exact EffOk.rds _ _ _ _ _ _)
  case h_5 T x y ho =>
    unfold idxS at h
    repeat' (split at h)
    all_goals first
      | (cases h; done)
      | (cases h; exact EffOk.none _ _ _ _)
  case h_8 c ho =>
    split at h
    · unfold lenX at h
      repeat' (split at h)
      all_goals first
        | (cases h; done)
        | (cases h; exact EffOk.none _ _ _ _)
    · rename_i x y hcal hargs
      exact appX_eff (by simp [allocs, ho, hcal]) h
    · exact copX_eff h
    · exact clrX_eff h
    · cases h
  all_goals
    (try unfold loadX at h)
    (try unfold idxL at h)
    (try unfold sliceX at h)
    repeat' (split at h)
    all_goals first
      | (cases h; done)
      | (cases h; exact EffOk.none _ _ _ _)
      | (cases h; exact EffOk.rds _ _ _ _ _ _)
theorem evE_eff (hc : CallsFit cf) (h : evE P cf slot o e ob nm = some out) : EffOk slot (allocs o) ob nm out.eff := by
  unfold evE at h
  split at h
  · exact evX_eff h
  · exact evE0_eff hc h
theorem rds1 {n : Nat} (h : (Eff.rds [] [n]).same ob ob' nm nm') : nm[n]? = nm'[n]? := h.2.1 n (List.mem_singleton.2 rfl)
theorem ysE_frame {size : Nat} {tx : TypeId} {y : V} {c : BC} {rn : List Nat} (h : ysE P size tx y nm = some (c, rn)) (hs : ∀ n ∈ rn, nm[n]? = nm'[n]?) : ysE P size tx y nm' = some (c, rn) := by
  unfold ysE at h ⊢
  split at h
  · exact h
  · split at h
    · rename_i hsl
      rw [if_pos hsl]
      split at h
      · exact h
      · exact h
      · split at h
        · rename_i c0 hn
          split at h
          · rename_i hz
            cases h
            rw [hs _ (List.mem_singleton.2 rfl)] at hn
            simp only [*, if_true, and_self]
          · cases h
        · cases h
      · cases h
    · cases h
theorem appX_frame {ts : Array TypeId} {x y : V} (h : appX P ts x y nm slot = some out) (hs : ∀ n ∈ out.eff.rn, nm[n]? = nm'[n]?) : appX P ts x y nm' slot = some out := by
  unfold appX at h ⊢
  split at h
  · split at h
    · split at h
      · split at h
        · rename_i b rn hys
          split at h
          · split at h
            · cases h
              have hy := ysE_frame hys hs
              simp only [*]
            · cases h
          · split at h
            · rename_i c hn
              split at h
              · split at h
                · cases h
                  have hy := ysE_frame hys (fun n hn => hs n (List.mem_cons_of_mem _ hn))
                  rw [hs _ (List.mem_cons_self ..)] at hn
                  simp only [*, if_true]
                · cases h
              · cases h
            · cases h
          · cases h
        · cases h
      · cases h
    · cases h
  · cases h
theorem stoX_frame {T : TypeId} {x y : V} (h : stoX P T x y nm = some out) (hs : ∀ n ∈ out.eff.rn, nm[n]? = nm'[n]?) : stoX P T x y nm' = some out := by
  unfold stoX at h ⊢
  split at h
  · split at h
    · split at h
      · rename_i c hn
        split at h
        · split at h
          · split at h
            · cases h
              rw [hs _ (List.mem_singleton.2 rfl)] at hn
              rename_i hc c' hset
              simp only [*, if_true, and_self]
            · cases h
          · cases h
        · cases h
      · cases h
    · cases h
  · cases h
theorem copX_frame {ts : Array TypeId} {x y : V} (h : copX P ts x y nm = some out) (hs : ∀ n ∈ out.eff.rn, nm[n]? = nm'[n]?) : copX P ts x y nm' = some out := by
  unfold copX at h ⊢
  split at h
  · split at h
    · split at h
      · split at h
        · rename_i b rn hys
          split at h
          · cases h
            have hy := ysE_frame hys hs
            simp only [*]
          · split at h
            · rename_i c hn
              split at h
              · split at h
                · cases h
                  have hy := ysE_frame hys (fun n hn => hs n (List.mem_cons_of_mem _ hn))
                  rw [hs _ (List.mem_cons_self ..)] at hn
                  simp only [*, if_true]
                · cases h
              · cases h
            · cases h
          · cases h
        · cases h
      · cases h
    · cases h
  · cases h
theorem clrX_frame {ts : Array TypeId} {x : V} (h : clrX P ts x nm = some out) (hs : ∀ n ∈ out.eff.rn, nm[n]? = nm'[n]?) : clrX P ts x nm' = some out := by
  unfold clrX at h ⊢
  split at h
  · split at h
    · split at h
      · split at h
        · split at h
          · rename_i hzz
            split at h
            · cases h
              simp only [*, if_true, and_self]
            · split at h
              · rename_i c hn
                split at h
                · split at h
                  · split at h
                    · cases h
                      rw [hs _ (List.mem_singleton.2 rfl)] at hn
                      simp only [*, if_true, and_self]
                    · cases h
                  · cases h
                · cases h
              · cases h
            · cases h
          · cases h
        · cases h
      · cases h
    · cases h
  · cases h
theorem evX_frame (h : evX P slot o e nm = some out) (hs : out.eff.same ob ob' nm nm') : evX P slot o e nm' = some out := by
  unfold evX at h ⊢
  split at h
  · rename_i T x ho
    unfold loadX at h ⊢
    split at h
    · split at h
      · split at h
        · rename_i c hn
          split at h
          · split at h
            · cases h
              rw [rds1 hs] at hn
              simp only [*]
            · cases h
          · cases h
        · cases h
      · cases h
    · cases h
  · exact stoX_frame h hs.2.1
  · exact h
  · unfold cnvX at h ⊢
    split at h
    · exact h
    · exact h
    · split at h
      · split at h
        · cases h
        · rename_i hstr
          split at h
          · rename_i b rn hy
            split at h
            · cases h
              have hy' := ysE_frame hy hs.2.1
              simp only [*]
            · cases h
          · cases h
      · cases h
    · cases h
  · exact h
  · rename_i T x y ho
    unfold idxL at h ⊢
    split at h
    · split at h
      · split at h
        · exact h
        · split at h
          · rename_i c hn
            split at h
            · cases h
              rw [rds1 hs] at hn
              simp only [*, if_true]
            · cases h
          · cases h
        · cases h
      · cases h
    · cases h
  · split at h
    · unfold sliceX at h ⊢
      split at h
      · exact h
      · split at h
        · split at h
          · split at h
            · exact h
            · exact h
            · split at h
              · rename_i c hn
                split at h
                · cases h
                  rw [rds1 hs] at hn
                  simp only [*, if_true]
                · cases h
              · cases h
            · cases h
          · cases h
        · cases h
    · cases h
  · split at h
    · exact h
    · exact appX_frame h hs.2.1
    · exact copX_frame h hs.2.1
    · exact clrX_frame h hs.2.1
    · cases h
  · cases h
theorem evE_frame (hc : CallsFit cf) (h : evE P cf slot o e ob nm = some out) (hs : out.eff.same ob ob' nm nm') : evE P cf slot o e ob' nm' = some out := by
  unfold evE at h ⊢
  split at h
  · exact evX_frame h hs
  · exact evE0_frame hc h hs
theorem bdE_loc {x : Option Operand} (h : ∀ y, x = some y → e y = e' y) : bdE e x = bdE e' x := by
  cases x with
  | none => rfl
  | some x => simp only [bdE, h x rfl]
theorem evE_loc (he : ∀ x, x ∈ o.op.operands → e x = e' x) : evE P cf slot o e ob nm = evE P cf slot o e' ob nm := by
  have h1 : xop o e = xop o e' := by
    unfold xop
    cases ho : o.op <;> (rw [ho] at he) <;> first
      | rfl
      | (simp only [Op.operands] at he; simp [he]; done)
      | skip
    rename_i c
    simp only [Op.operands] at he
    simp only []
    split
    · rename_i x hcal ha
      have : e x = e' x := he x (by
        have hx : x ∈ c.args.toList := by rw [ha]; exact List.mem_singleton.2 rfl
        simp [Call.operands]; exact .inr (by simpa using hx))
      rw [this]
    · rfl
    · rfl
    · rfl
    · rfl
  have h2 : evX P slot o e nm = evX P slot o e' nm := by
    unfold evX
    cases ho : o.op <;> (rw [ho] at he) <;> first
      | rfl
      | (simp only [Op.operands] at he; simp [he]; done)
      | skip
    · rename_i T x low high mx
      cases mx with
      | some m => rfl
      | none =>
        simp only [Op.operands] at he
        have a1 : e x = e' x := he x (by simp)
        have a2 : bdE e low = bdE e' low := bdE_loc fun y hy => he y (by simp [hy])
        have a3 : bdE e high = bdE e' high := bdE_loc fun y hy => he y (by simp [hy])
        simp only [a1, a2, a3]
    · rename_i c
      simp only [Op.operands] at he
      simp only []
      split
      · rename_i x hcal ha
        have : e x = e' x := he x (by
          have hx : x ∈ c.args.toList := by rw [ha]; exact List.mem_singleton.2 rfl
          simp [Call.operands]; exact .inr (by simpa using hx))
        rw [this]
      · rename_i x y hcal ha
        have h1 : e x = e' x := he x (by
          have hx : x ∈ c.args.toList := by rw [ha]; simp
          simp [Call.operands]; exact .inr (by simpa using hx))
        have h2 : e y = e' y := he y (by
          have hx : y ∈ c.args.toList := by rw [ha]; simp
          simp [Call.operands]; exact .inr (by simpa using hx))
        rw [h1, h2]
      · rename_i x y hcal ha
        have h1 : e x = e' x := he x (by
          have hx : x ∈ c.args.toList := by rw [ha]; simp
          simp [Call.operands]; exact .inr (by simpa using hx))
        have h2 : e y = e' y := he y (by
          have hx : y ∈ c.args.toList := by rw [ha]; simp
          simp [Call.operands]; exact .inr (by simpa using hx))
        rw [h1, h2]
      · rename_i x hcal ha
        have : e x = e' x := he x (by
          have hx : x ∈ c.args.toList := by rw [ha]; exact List.mem_singleton.2 rfl
          simp [Call.operands]; exact .inr (by simpa using hx))
        rw [this]
      · rfl
  unfold evE
  rw [h1, h2, evE0_loc he]
end
end Go.Proofs.Ytnjjkobijjdnbaa
