/- Parts of the library of texts, one after the other: T31. -/
import Derived.Test.YtofbchcclkejgaaTOm
import Derived.Test.YtofbchcclkejgaaTOi
import Derived.Test.YtofbchcclkejgaaTOj
import Derived.Test.YtofbchcclkejgaaRows
import Derived.Handed
import Derived.OpenShut
/- Package tally: from a law's contract to its row. -/
set_option linter.unusedVariables false
set_option linter.unusedSimpArgs false
set_option maxRecDepth 100000
namespace Go.Proofs.Ytofbchcclkejgaa
open Go Go.ChangeShapes Go.WideShapes Go.ChangeAt Go.RowKit
namespace T
theorem own : ownKnob Try.prog.godebug = none := by kernel_rfl
theorem laidOut : laidOutB Try.prog = true := by kernel_rfl
theorem lift (os : Os) (started : os.Started) (H : Type) (enc : TypeId × Value → H) {f : FuncId} {fn : Func} {s : ChangeSpec} {conds : List PathCond} {apart fresh handsOn : Bool} (ts : List Ty) (noInit : Try.prog.inits.idxOf? f = none) (hf : Try.prog.funcs[f]? = some fn)
 (hoks : Ty.oks Try.prog ts fn.params.toList = true) (hr : fn.params.toList.all (fun t => Try.prog.readableRec t && decide (t < Try.prog.types.size)) = true) (hrt : fn.resultTypes = #[4]) (hvars : s.vars = [])
 (hspec : ∀ ds : List (DataW H), ds.length = ts.length → s.fn H ds = { results := [.lit (.bool true)], args := ds })
 (witness : ∃ (w : World) (tape : Tape) (i : Input), w.os = os ∧ (w.forCall tape i).Shaped Try.prog ∧ i.vars = [] ∧ Input.okWide Try.prog (w.forCall tape i) .any w.heap.size f i ∧
  s.pre6 enc Try.prog fn conds apart (w.forCall tape i).memory i.args ∧ ({} : Assume).holds Try.prog (lone (Frame.enter Try.prog f i.args .normal) [] (w.forCall tape i)))
 (hlaw : ∀ x : Ty.dens ts, Ty.wfs ts x → SemF Try.prog Γ f (Ty.vals ts x) [] [] (.sb true) [] []) :
 ReturnsInHanded {} Try.checked os f .any (s.pre6 enc Try.prog fn conds apart) (s.post enc Try.prog fn apart fresh handsOn false) := by
 refine returnsInHanded_of_change (C := Try.checked) own started noInit hf witness ?_
 intro W base args ds gs before hval0 hW hcnd _
 have hval : ∀ (j : Nat) t v, fn.params[j]? = some t → args[j]? = some v → Value.okWide Try.prog W .any base t v := hval0
 have hW' := hW
 obtain ⟨p, q, hA0, hV, rfl, hfz, hnd⟩ := hW
 have hA : DataW.TrodAll enc Try.prog W 0 (fun _ => true) true fn.params.toList args.toList ds p := hA0
 rw [hvars] at hV
 obtain ⟨rfl, rfl⟩ := trodVars_none hV
 obtain ⟨x, hw, ha, hl⟩ := open_vals (G := Gh.start W) (fun b off cv h => h) ts hoks (fun j t v a b => hval j t v (by simpa using a) (by simpa using b)) hA
 exact calls_true (P := Try.prog) (Γ := Γ) hf laidOut hvars hW' (by rw [List.append_nil]; exact hspec ds hl) hrt Try.underlying4 (fun t ht => by
  have := List.all_eq_true.1 hr t ht
  simpa using this) (fun g v h => by cases h) ha (hlaw x hw)
theorem wf_in {n : Int} (h : (Lit.int .i64 n).wf = true) : inr n = true := by
 simp [Lit.wf, IntKind.min, IntKind.max, IntKind.signed, IntKind.bits] at h
 simp [inr]
 omega
theorem wf_six {y : Ty.den six} (h : Ty.wf six y) : okS y = true := by
 obtain ⟨h1, h2, h3, h4, h5, h6, _⟩ := h
 unfold okS
 rw [wf_in h1, wf_in h2, wf_in h3, wf_in h4, wf_in h5, wf_in h6]
 rfl
end T
end Go.Proofs.Ytofbchcclkejgaa

