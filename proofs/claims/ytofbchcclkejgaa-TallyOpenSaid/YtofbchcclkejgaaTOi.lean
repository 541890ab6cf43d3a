/- Parts of the library of texts, one after the other: Ev18. -/
import Derived.Test.YtofbchcclkejgaaTOf
import Derived.ProofKit
import Derived.LaidMore
import Derived.Stop.Joined
/- From a contract to a row's statement: the world at the call's start, and what the row asks of the end. -/
set_option linter.unusedVariables false
set_option linter.unusedSimpArgs false
namespace Go.Proofs.Ytofbchcclkejgaa
open Go Go.ChangeShapes Go.WideShapes Go.ChangeAt Go.RowKit
def Gh.start (W : World) : Gh := { M := fun b off => W.cell? ⟨b, off, none⟩, H := fun _ => none, T := fun _ => none, D := fun _ => none, kh := 0, kt := 0, w0 := .of W, M0 := fun b off => W.cell? ⟨b, off, none⟩, kd := 0 }
theorem WRel.start {Γ : Nat → Option V} {W : World} (hg : ∀ g v, Γ g = some v → VRel (Gh.start W) v (.pointer (some ⟨g, 0, none⟩))) : WRel Γ (Gh.start W) [] [] W := {
 m := fun b off cv h => h
 hob := fun o cs b h1 h2 => by simp at h1
 hlt := fun o b h1 => by cases h1
 habs := fun o h1 => rfl
 inj := fun o o' b h1 h2 => by cases h1
 hnm := fun n c x h1 h2 => by simp at h1
 hno := fun n c h1 => by simp at h1
 nmd := fun n n' c c' x x' _ h1 => by simp at h1
 tabs := fun n _ => rfl
 tlt := fun n t h1 => by cases h1
 dd := fun l o h => by cases h
 kdle := Nat.zero_le _
 gl := fun g v h => hg g v h
 mold := fun b off _ => rfl
 os := rfl
 tape := rfl
 output := rfl
 size := Nat.le_refl _
 block := fun k _ => rfl }
theorem WRel.below {Γ : Nat → Option V} {G : Gh} {ob : Ob} {nm : Nm} {w : World} (h : WRel Γ G ob nm w) (hS : ∀ k, G.w0.S k = false) : Below G.w0.heap.size G.w0.toWorld w := ⟨h.os, h.tape, h.output, h.size, fun k hk => h.block k (fun h' => by
 rcases h' with h' | h'
 · omega
 · rw [hS] at h'; cases h')⟩
section
variable {H : Type} {enc : TypeId × Value → H} {P : Program}
theorem trodAll_below (hl : laidOutB P = true) {W W' : World} (hb : Below W.heap.size W W') : ∀ {ts : List TypeId} {vs : List Value} {ds : List (DataW H)} {p : List MemPlace}, (∀ t ∈ ts, P.readableRec t = true ∧ t < P.types.size) →
 DataW.TrodAll enc P W 0 (fun _ => true) true ts vs ds p → (∀ x ∈ p, x.block < W.heap.size) → DataW.TrodAll enc P W' 0 (fun b => decide (b < W.heap.size)) true ts vs ds p
 | [], vs, ds, p, _, h, _ => by
  obtain ⟨rfl, rfl, rfl⟩ := trodAll_nil h
  exact rfl
 | t :: ts, vs, ds, p, hr, h, hp => by
  obtain ⟨v, vs', d, ds', p1, q, rfl, rfl, rfl, h1, h2⟩ := trodAll_cons h
  exact ⟨p1, q, Below.trod hl (hr t (by simp)).1 (hr t (by simp)).2 h1 hb (fun x hx => hp x (by simp [hx])),
   trodAll_below hl hb (fun t ht => hr t (by simp [ht])) h2 (fun x hx => hp x (by simp [hx])), rfl⟩
theorem post_true {f : Func} {s : ChangeSpec} {apart fresh handsOn : Bool} {W W' : World} {args : Array Value} {ds gs : List (DataW H)} {before : List MemPlace} {tb : TypeId} (hl : laidOutB P = true) (hvars : s.vars = [])
 (hW : DataW.Whole enc P f.params.toList s.vars apart W args.toList ds gs before) (hfn : s.fn H (ds ++ gs) = { results := [.lit (.bool true)], args := ds }) (hrt : f.resultTypes = #[tb]) (hbt : P.underlying tb = some .bool)
 (hr : ∀ t ∈ f.params.toList, P.readableRec t = true ∧ t < P.types.size) (hb : Below W.heap.size W W') : s.post enc P f apart fresh handsOn false W args (.bool true) W' := by
 have hlt : ∀ x ∈ before, x.block < W.heap.size := fun x hx => by simpa using hW.lt x hx
 have hW' := hW
 obtain ⟨p, q, hA, hV, rfl, _, _⟩ := hW
 rw [hvars] at hV
 obtain ⟨rfl, rfl⟩ := trodVars_none hV
 refine ⟨ds, [], p ++ [], [], p, [], hW', ?_, ?_, ?_, hb.frame _, fun h => by cases h⟩
 · rw [hfn, hrt]
   exact trodAll_mk1 (shut_bool hbt true)
 · rw [hfn]
   exact trodAll_below hl hb hr hA (fun x hx => hlt x (by simp [hx]))
 · rw [hfn, hvars]
   rfl
theorem calls_true {f : FuncId} {fn : Func} {s : ChangeSpec} {apart fresh handsOn : Bool} {W : World} {args : Array Value} {ds gs : List (DataW H)} {before : List MemPlace} {tb : TypeId} (hf : P.funcs[f]? = some fn) (hl : laidOutB P = true) (hvars : s.vars = [])
 (hW : DataW.Whole enc P fn.params.toList s.vars apart W args.toList ds gs before) (hfn : s.fn H (ds ++ gs) = { results := [.lit (.bool true)], args := ds }) (hrt : fn.resultTypes = #[tb]) (hbt : P.underlying tb = some .bool)
 (hr : ∀ t ∈ fn.params.toList, P.readableRec t = true ∧ t < P.types.size) {Γ : Nat → Option V} (hg : ∀ g v, Γ g = some v → VRel (Gh.start W) v (.pointer (some ⟨g, 0, none⟩)))
 {vargs : List V} (ha : Rels (Gh.start W) vargs args.toList) (h : SemF P Γ f vargs [] [] (.sb true) [] []) : Calls P f args W fun e W' => ∃ v, e = .returned v ∧ s.post enc P fn apart fresh handsOn false W args v W' := by
 have := h (Gh.start W) W args.toList (WRel.start hg) ha
 rw [Array.toArray_toList] at this
 refine ((callsX_fn hf).1 this).mono ?_
 rintro e w' ⟨cv, G', rfl, hle, hv, hw⟩
 cases hv
 have hb := hw.below (fun k => by rw [hle.w0]; rfl)
 rw [hle.w0] at hb
 exact ⟨_, rfl, post_true hl hvars hW hfn hrt hbt hr hb⟩
end
end Go.Proofs.Ytofbchcclkejgaa

