/- The evaluator with a table of loops: a loop that is listed is taken as its entry says, under names that follow from what is kept at its head. -/
import Derived.Test.YtnjjkobijjdnbaaEv24
set_option linter.unusedVariables false
set_option linter.unusedSimpArgs false
namespace Go.Proofs.Ytnjjkobijjdnbaa
open Go

section
variable {P : Program} {Γ : Nat → Option V} {cf : CallF}
def evCK (P : Program) (Γ : Nat → Option V) (cf : CallF) (lo : Nat → Option LEnt) (lv : List Nat) : Nat → Nat → Code → St → Tr (Ex × St)
  | 0, _, _, _ => .leaf none
  | n + 1, i, c, x =>
    match c with
    | .skip => .leaf (some (.normal, x))
    | .ret => .leaf (some (.ret, x))
    | .exit id => .leaf (some (.exit id, x))
    | .region _ ops draw => evRegionJ P Γ cf lv ops draw x
    | .seq a b => (evCK P Γ cf lo lv n i a x).bind fun p => match p.1 with | .normal => evCK P Γ cf lo lv n (i + (loops a).length) b p.2 | e => .leaf (some (e, p.2))
    | .cond c t f =>
      match (x.eval Γ c).bool? with
      | some (b, true) => .br b (evCK P Γ cf lo lv n i t x) (evCK P Γ cf lo lv n (i + (loops t).length) f x)
      | some (true, false) => evCK P Γ cf lo lv n i t x
      | some (false, false) => evCK P Γ cf lo lv n (i + (loops t).length) f x
      | none => .leaf none
    | .block id b => (evCK P Γ cf lo lv n i b x).bind fun p => match p.1 with | .exit j => if j = id then .leaf (some (.normal, p.2)) else .leaf (some (.exit j, p.2)) | e => .leaf (some (e, p.2))
    | .loop b =>
      match lo i with
      | none => (evCK P Γ cf lo lv n (i + 1) b x).bind fun p => match p.1 with | .normal => evCK P Γ cf lo lv n i (.loop b) p.2 | e => .leaf (some (e, p.2))
      | some e =>
        match Nat.beq x.tm.length e.n with
        | true =>
          match x.ren (x.autoN e.lv).1 (x.autoN e.lv).2 e.lv with
          | some r => match e.go x.kh x.kt r.1 r.2.1 r.2.2 with | some t => t | none => .leaf none
          | none => .leaf none
        | false => .leaf none
    | .rangeFunc g ps as bd => evRange P Γ cf g ps as bd x
    | _ => .leaf none
/-- Where a piece of code lies. -/
def Lies (root : Code) (i : Nat) (c : Code) : Prop := ∀ j b, (loops c)[j]? = some b → (loops root)[i + j]? = some b
theorem evCK_sound' (hcf : CallsOk P Γ cf) (hfit : CallsFit cf) (hm : P.follows .mixedOrders = true) {lo : Nat → Option LEnt} {lv : List Nat} {root : Code}
    (hlo : ∀ i e, lo i = some e → ∀ b, (loops root)[i]? = some b → ∀ kh kt vs ob nm t ex s, e.go kh kt vs ob nm = some t → t.run = some (ex, s) → SemL P Γ b (St.of e.n e.lv vs ob nm kh kt) ex.to s) :
    ∀ (n i : Nat) (c : Code) (x : St) (e : Ex) (x' : St), Lies root i c → (evCK P Γ cf lo lv n i c x).run = some (e, x') → SemC P Γ c x e.to x' ∧ ∀ b, c = .loop b → SemL P Γ b x e.to x'
  | 0, i, c, x, e, x', _, h => by cases h
  | n + 1, i, c, x, e, x', hl, h => by
    have ihl := evCK_sound' hcf hfit hm hlo (lv := lv) n
    have ih := fun i c x e x' hl h => (ihl i c x e x' hl h).1
    have hbind : ∀ {i : Nat} {c : Code} {y : St} {f : Ex × St → Tr (Ex × St)} {r : Ex × St}, ((evCK P Γ cf lo lv n i c y).bind f).run = some r → ∃ p, (evCK P Γ cf lo lv n i c y).run = some p ∧ (f p).run = some r := fun {i c y f r} hh => by
      rw [Tr.run_bind] at hh
      cases hp : (evCK P Γ cf lo lv n i c y).run with
      | none => rw [hp] at hh; cases hh
      | some p => rw [hp] at hh; exact ⟨p, rfl, hh⟩
    cases c with
    | skip => cases h; exact ⟨SemC.skip, fun b hb => by cases hb⟩
    | ret => cases h; exact ⟨SemC.ret, fun b hb => by cases hb⟩
    | exit id => cases h; exact ⟨SemC.exit, fun b hb => by cases hb⟩
    | region id ops draw => exact ⟨evRegionJ_sound hcf hfit hm h, fun b hb => by cases hb⟩
    | seq a b =>
      refine ⟨?_, fun b hb => by cases hb⟩
      have hla : Lies root i a := fun j c hj => hl j c (by
        simp only [loops]
        rw [List.getElem?_append_left (by
          rcases Nat.lt_or_ge j (loops a).length with hh | hh
          · exact hh
          · rw [List.getElem?_eq_none hh] at hj; cases hj)]
        exact hj)
      have hlb : Lies root (i + (loops a).length) b := fun j c hj => by
        have := hl ((loops a).length + j) c (by simp only [loops]; rw [List.getElem?_append_right (by omega)]; simpa using hj)
        rw [Nat.add_assoc]; exact this
      obtain ⟨⟨e1, x1⟩, h1, h2⟩ := hbind h
      cases e1 with
      | normal => exact SemC.seq (ih _ a x .normal x1 hla h1) (ih _ b x1 e x' hlb h2)
      | exit i => cases h2; exact SemC.seq_out (by simp [Ex.to]) (ih _ a x _ _ hla h1)
      | ret => cases h2; exact SemC.seq_out (by simp [Ex.to]) (ih _ a x _ _ hla h1)
    | cond q t f =>
      refine ⟨?_, fun b hb => by cases hb⟩
      have hla : Lies root i t := fun j c hj => hl j c (by
        simp only [loops]
        rw [List.getElem?_append_left (by
          rcases Nat.lt_or_ge j (loops t).length with hh | hh
          · exact hh
          · rw [List.getElem?_eq_none hh] at hj; cases hj)]
        exact hj)
      have hlb : Lies root (i + (loops t).length) f := fun j c hj => by
        have := hl ((loops t).length + j) c (by simp only [loops]; rw [List.getElem?_append_right (by omega)]; simpa using hj)
        rw [Nat.add_assoc]; exact this
      simp only [evCK] at h
      cases hq : (x.eval Γ q).bool? with
      | none => rw [hq] at h; cases h
      | some p =>
        obtain ⟨b, s⟩ := p
        rw [hq] at h
        intro ro G a w hr ho
        have hb := bool?_eq hq (hr.eval q)
        cases b
        · have h' : (evCK P Γ cf lo lv n (i + (loops t).length) f x).run = some (e, x') := by cases s <;> exact h
          exact wpIn_cond_false hb (ih _ f x e x' hlb h' ro G a w hr ho)
        · have h' : (evCK P Γ cf lo lv n i t x).run = some (e, x') := by cases s <;> exact h
          exact wpIn_cond_true hb (ih _ t x e x' hla h' ro G a w hr ho)
    | block id b =>
      refine ⟨?_, fun b hb => by cases hb⟩
      have hl' : Lies root i b := fun j c hj => hl j c hj
      obtain ⟨⟨e1, x1⟩, h1, h2⟩ := hbind h
      cases e1 with
      | normal => cases h2; exact SemC.block (by simp [Ex.to]) (ih _ b x _ _ hl' h1)
      | ret => cases h2; exact SemC.block (by simp [Ex.to]) (ih _ b x _ _ hl' h1)
      | exit j =>
        simp only [] at h2
        split at h2
        · rename_i hi; subst hi; cases h2; exact SemC.block_exit (ih _ b x _ _ hl' h1)
        · rename_i hi; cases h2; exact SemC.block (by simpa [Ex.to] using hi) (ih _ b x _ _ hl' h1)
    | loop b =>
      have hl' : Lies root (i + 1) b := fun j c hj => by
        have := hl (j + 1) c (by simp only [loops]; simpa using hj)
        rw [show i + 1 + j = i + (j + 1) by omega]; exact this
      have key : SemL P Γ b x e.to x' := by
        simp only [evCK] at h
        cases hk : lo i with
        | none =>
          rw [hk] at h
          obtain ⟨⟨e1, x1⟩, h1, h2⟩ := hbind h
          cases e1 with
          | normal => exact SemL.next (ih _ b x .normal x1 hl' h1) ((ihl i (.loop b) x1 e x' hl h2).2 b rfl)
          | exit i => cases h2; exact SemL.out (by simp [Ex.to]) (ih _ b x _ _ hl' h1)
          | ret => cases h2; exact SemL.out (by simp [Ex.to]) (ih _ b x _ _ hl' h1)
        | some le =>
          rw [hk] at h
          simp only [] at h
          split at h
          · rename_i hn
            split at h
            · rename_i r hren
              split at h
              · rename_i t ht
                exact (hlo i le hk b (hl 0 b (by simp [loops])) _ _ _ _ _ t e x' ht h).preRen (Nat.eq_of_beq_eq_true hn) hren
              · cases h
            · cases h
          · cases h
      exact ⟨SemC.loop key, fun b' hb => by cases hb; exact key⟩
    | rangeFunc g ps as bd => exact ⟨evRange_sound hcf h, fun b hb => by cases hb⟩
    | _ => cases h
def evFK (P : Program) (Γ : Nat → Option V) (cf : CallF) (lo : LOrc) (lv : List Nat) (n : Nat) (f : FuncId) (args : List V) (ob : Ob) (nm : Nm) : Tr (V × St) :=
  match P.funcs[f]? with
  | none => .leaf none
  | some fn =>
    match fn.body with
    | none => .leaf none
    | some c =>
      if fn.name == "runtime.NumGoroutine" then .leaf none else
      (evCK P Γ cf (lo f) lv n 0 c (St.start fn.ntmps args ob nm)).bind fun p =>
        match p.1 with
        | .exit _ => .leaf none
        | _ => match resV P p.2 fn.results.toList with | some v => .leaf (some (v, p.2)) | none => .leaf none
theorem evFK_sound (hcf : CallsOk P Γ cf) (hfit : CallsFit cf) (hm : P.follows .mixedOrders = true) {lo : LOrc} (hlo : LOrcOk P Γ lo) {lv : List Nat} {n : Nat} {f : FuncId} {args : List V} {ob : Ob} {nm : Nm} {v : V} {x : St} (h : (evFK P Γ cf lo lv n f args ob nm).run = some (v, x)) :
    SemF P Γ f args ob nm v x.ob x.nm := by
  unfold evFK at h
  cases hf : P.funcs[f]? with
  | none => rw [hf] at h; cases h
  | some fn =>
    rw [hf] at h
    simp only [] at h
    cases hb : fn.body with
    | none => rw [hb] at h; cases h
    | some c =>
      rw [hb] at h
      simp only [] at h
      split at h
      · cases h
      · rw [Tr.run_bind] at h
        cases hc : (evCK P Γ cf (lo f) lv n 0 c (St.start fn.ntmps args ob nm)).run with
        | none => rw [hc] at h; cases h
        | some p =>
          obtain ⟨e, y⟩ := p
          rw [hc] at h
          simp only [Option.bind_some] at h
          have hlo' : ∀ i e, lo f i = some e → ∀ b, (loops c)[i]? = some b → ∀ kh kt vs ob nm t ex s, e.go kh kt vs ob nm = some t → t.run = some (ex, s) → SemL P Γ b (St.of e.n e.lv vs ob nm kh kt) ex.to s := fun i e he b hb' => by
            obtain ⟨fn', c', b', h1, h2, h3, h4⟩ := hlo f i e he
            rw [hf] at h1
            obtain rfl := Option.some.inj h1
            rw [hb] at h2
            obtain rfl := Option.some.inj h2
            rw [hb'] at h3
            obtain rfl := Option.some.inj h3
            exact h4
          have hs := (evCK_sound' hcf hfit hm hlo' n 0 c _ e y (fun j b hj => by simpa using hj) hc).1
          have key : ∀ v', resV P y fn.results.toList = some v' → (e = .ret ∨ e = .normal) → SemF P Γ f args ob nm v' y.ob y.nm := fun v' hv he =>
            SemF.of_body hf hb (by rcases he with rfl | rfl <;> simp [Ex.to]) hs hv
          cases e with
          | exit i => cases h
          | ret =>
            simp only [] at h
            cases hv : resV P y fn.results.toList with
            | none => rw [hv] at h; cases h
            | some v' => rw [hv] at h; cases h; exact key _ hv (.inl rfl)
          | normal =>
            simp only [] at h
            cases hv : resV P y fn.results.toList with
            | none => rw [hv] at h; cases h
            | some v' => rw [hv] at h; cases h; exact key _ hv (.inr rfl)
theorem LOrcOk.none : LOrcOk P Γ (fun _ _ => Option.none) := fun f i e h => by cases h
theorem Lies.of_take {root c : Code} {i n : Nat} (h : loops c = ((loops root).drop i).take n) : Lies root i c := fun j b hj => by
  rw [h, List.getElem?_take, List.getElem?_drop] at hj
  split at hj
  · exact hj
  · cases hj
end
end Go.Proofs.Ytnjjkobijjdnbaa
