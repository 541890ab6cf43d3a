/-
  No cell of these rows narrows 'for every input' (looked for: loops, veiled, ifaces, maps, wideKeys, modest, calm, conditions, laid).
  DERIVED. THE GIVEN ROWS OF THIS SEAT. 6 by the template 'for every input the law returns true; each argument reads behind the call as it read before'; 0 by the template 'total and deterministic' (their statements: YtofbchcclkejgaaTotals.lean).
  GIVEN WITH THE SEED: the statements are not yours to turn. If you find one false, say at which input.
  Laid BY PROGRAM, IN A SANDBOX (cutbox-rows.mjs): the forced cells as the released guide's own fill.sh prints them over the translation 7c90ff378a35964d… (all of the seat's roots in one cut). By AI agents, Wed Nov 11 2026. No macro, syntax, notation, axiom, sorry.
-/
import Derived.Test.YtofbchcclkejgaaChecked
import GoSem.Claim
import GoSem.ClaimJoined
import GoSem.ClaimMapViews
import Derived.JoinedTies
import Derived.KernelRfl
namespace Go.Proofs.Ytofbchcclkejgaa
/- THE CELL 'sum', in the pinned program and in every row, IS THE sha256 OF THE DUMP (.gsa) THAT YtofbchcclkejgaaProg.lean LOADS. Nothing in Lean hashes anything: it is a label: what it is worth is what the hold of that sum in a sandbox is worth. -/
noncomputable def Try.pinned : Pinned := { name := "ytofbchcclkejgaa", sum := "7c90ff378a35964d610339ab7128d656570d47eb55a41738ff9ecb8193c8f715", checked := Try.checked }
namespace Rows
def none {H : Type} : Left H := { results := [], args := [] }

/-- 'newswirelaw27.TallyMatchesReference': WHATEVER THE INPUT: true; the input reads as it did. -/
def tallyMatchesReferenceSpec : ChangeSpec := { name := "tallyMatchesReference", fn := fun _ => fun
  | [d1, d2, d3, d4, d5, d6, d7] => { results := [.lit (.bool true)], args := [d1, d2, d3, d4, d5, d6, d7] }
  | _ => none }
def tallyMatchesReferenceRow : OpenClaim := { program := "ytofbchcclkejgaa", sum := "7c90ff378a35964d610339ab7128d656570d47eb55a41738ff9ecb8193c8f715", func := "newswire/newswirelaw27.TallyMatchesReference", spec := "tallyMatchesReference", inPlace := ["internal/abi.NoEscape"], unfollowed := true, recurses := true, apart := false }
def TallyMatchesReferenceSaid : Prop := tallyMatchesReferenceRow.holds Try.pinned (OpenSpec.ofChange tallyMatchesReferenceSpec)

/-- ITS FALSE NEIGHBOUR: 'it returns false'. Refute it at one input. -/
def tallyMatchesReferenceWrong : ChangeSpec := { name := "tallyMatchesReference", fn := fun _ => fun
  | [d1, d2, d3, d4, d5, d6, d7] => { results := [.lit (.bool false)], args := [d1, d2, d3, d4, d5, d6, d7] }
  | _ => none }
def TallyMatchesReferenceWrongFalsely : Prop := tallyMatchesReferenceRow.holds Try.pinned (OpenSpec.ofChange tallyMatchesReferenceWrong)

/-- 'newswirelaw27.TallyOrder': WHATEVER THE INPUT: true; the input reads as it did. -/
def tallyOrderSpec : ChangeSpec := { name := "tallyOrder", fn := fun _ => fun
  | [d1, d2, d3, d4, d5] => { results := [.lit (.bool true)], args := [d1, d2, d3, d4, d5] }
  | _ => none }
def tallyOrderRow : OpenClaim := { program := "ytofbchcclkejgaa", sum := "7c90ff378a35964d610339ab7128d656570d47eb55a41738ff9ecb8193c8f715", func := "newswire/newswirelaw27.TallyOrder", spec := "tallyOrder", inPlace := ["internal/abi.NoEscape"], unfollowed := true, recurses := true, apart := false }
def TallyOrderSaid : Prop := tallyOrderRow.holds Try.pinned (OpenSpec.ofChange tallyOrderSpec)

/-- ITS FALSE NEIGHBOUR: 'it returns false'. Refute it at one input. -/
def tallyOrderWrong : ChangeSpec := { name := "tallyOrder", fn := fun _ => fun
  | [d1, d2, d3, d4, d5] => { results := [.lit (.bool false)], args := [d1, d2, d3, d4, d5] }
  | _ => none }
def TallyOrderWrongFalsely : Prop := tallyOrderRow.holds Try.pinned (OpenSpec.ofChange tallyOrderWrong)

/-- 'newswirelaw27.TallySure': WHATEVER THE INPUT: true; the input reads as it did. -/
def tallySureSpec : ChangeSpec := { name := "tallySure", fn := fun _ => fun
  | [d1, d2, d3, d4] => { results := [.lit (.bool true)], args := [d1, d2, d3, d4] }
  | _ => none }
def tallySureRow : OpenClaim := { program := "ytofbchcclkejgaa", sum := "7c90ff378a35964d610339ab7128d656570d47eb55a41738ff9ecb8193c8f715", func := "newswire/newswirelaw27.TallySure", spec := "tallySure", inPlace := ["internal/abi.NoEscape"], unfollowed := true, recurses := true, apart := false }
def TallySureSaid : Prop := tallySureRow.holds Try.pinned (OpenSpec.ofChange tallySureSpec)

/-- ITS FALSE NEIGHBOUR: 'it returns false'. Refute it at one input. -/
def tallySureWrong : ChangeSpec := { name := "tallySure", fn := fun _ => fun
  | [d1, d2, d3, d4] => { results := [.lit (.bool false)], args := [d1, d2, d3, d4] }
  | _ => none }
def TallySureWrongFalsely : Prop := tallySureRow.holds Try.pinned (OpenSpec.ofChange tallySureWrong)

/-- 'newswirelaw27.TallyOpen': WHATEVER THE INPUT: true; the input reads as it did. -/
def tallyOpenSpec : ChangeSpec := { name := "tallyOpen", fn := fun _ => fun
  | [d1, d2, d3] => { results := [.lit (.bool true)], args := [d1, d2, d3] }
  | _ => none }
def tallyOpenRow : OpenClaim := { program := "ytofbchcclkejgaa", sum := "7c90ff378a35964d610339ab7128d656570d47eb55a41738ff9ecb8193c8f715", func := "newswire/newswirelaw27.TallyOpen", spec := "tallyOpen", inPlace := ["internal/abi.NoEscape"], unfollowed := true, recurses := true, apart := false }
def TallyOpenSaid : Prop := tallyOpenRow.holds Try.pinned (OpenSpec.ofChange tallyOpenSpec)

/-- ITS FALSE NEIGHBOUR: 'it returns false'. Refute it at one input. -/
def tallyOpenWrong : ChangeSpec := { name := "tallyOpen", fn := fun _ => fun
  | [d1, d2, d3] => { results := [.lit (.bool false)], args := [d1, d2, d3] }
  | _ => none }
def TallyOpenWrongFalsely : Prop := tallyOpenRow.holds Try.pinned (OpenSpec.ofChange tallyOpenWrong)

/-- 'newswirelaw27.TallyTotals': WHATEVER THE INPUT: true; the input reads as it did. -/
def tallyTotalsSpec : ChangeSpec := { name := "tallyTotals", fn := fun _ => fun
  | [d1, d2, d3] => { results := [.lit (.bool true)], args := [d1, d2, d3] }
  | _ => none }
def tallyTotalsRow : OpenClaim := { program := "ytofbchcclkejgaa", sum := "7c90ff378a35964d610339ab7128d656570d47eb55a41738ff9ecb8193c8f715", func := "newswire/newswirelaw27.TallyTotals", spec := "tallyTotals", inPlace := ["internal/abi.NoEscape"], unfollowed := true, recurses := true, apart := false }
def TallyTotalsSaid : Prop := tallyTotalsRow.holds Try.pinned (OpenSpec.ofChange tallyTotalsSpec)

/-- ITS FALSE NEIGHBOUR: 'it returns false'. Refute it at one input. -/
def tallyTotalsWrong : ChangeSpec := { name := "tallyTotals", fn := fun _ => fun
  | [d1, d2, d3] => { results := [.lit (.bool false)], args := [d1, d2, d3] }
  | _ => none }
def TallyTotalsWrongFalsely : Prop := tallyTotalsRow.holds Try.pinned (OpenSpec.ofChange tallyTotalsWrong)

/-- 'newswirelaw27.TallyCode': WHATEVER THE INPUT: true; the input reads as it did. -/
def tallyCodeSpec : ChangeSpec := { name := "tallyCode", fn := fun _ => fun
  | [d1, d2, d3, d4] => { results := [.lit (.bool true)], args := [d1, d2, d3, d4] }
  | _ => none }
def tallyCodeRow : OpenClaim := { program := "ytofbchcclkejgaa", sum := "7c90ff378a35964d610339ab7128d656570d47eb55a41738ff9ecb8193c8f715", func := "newswire/newswirelaw27.TallyCode", spec := "tallyCode", inPlace := ["internal/abi.NoEscape"], unfollowed := true, recurses := true, apart := false }
def TallyCodeSaid : Prop := tallyCodeRow.holds Try.pinned (OpenSpec.ofChange tallyCodeSpec)

/-- ITS FALSE NEIGHBOUR: 'it returns false'. Refute it at one input. -/
def tallyCodeWrong : ChangeSpec := { name := "tallyCode", fn := fun _ => fun
  | [d1, d2, d3, d4] => { results := [.lit (.bool false)], args := [d1, d2, d3, d4] }
  | _ => none }
def TallyCodeWrongFalsely : Prop := tallyCodeRow.holds Try.pinned (OpenSpec.ofChange tallyCodeWrong)

/- THE SECOND FORM. 'bulk': how many values and letters a reading holds, each counted each time it is reached (what is shared counts as often as it is met; a slice's spare places count too). A statement '..UptoSaid' is the law's where the arguments, and the package variables that the reading takes, are together of bulk at most 1048576: NARROWER than '..Said'. Prove '..Said' where nothing that the law and all that it calls make is longer than what came in: it says more and counts as full. Else prove '..UptoSaid'. A law counts once. -/
mutual
def uptoBulk {H : Type} : DataW H → Nat
  | .lit (.string bytes) => bytes.length + 1
  | .lit _ => 1
  | .nil => 1
  | .ptr d => uptoBulk d + 1
  | .slice elems spare => uptoBulkAll elems + uptoBulkAll spare + 1
  | .agg parts => uptoBulkAll parts + 1
  | .iface _ d => uptoBulk d + 1
  | .map entries => uptoBulkEntries entries + 1
  | .held _ => 1
def uptoBulkAll {H : Type} : List (DataW H) → Nat
  | [] => 0
  | d :: r => uptoBulk d + uptoBulkAll r
def uptoBulkEntries {H : Type} : List (Lit × DataW H) → Nat
  | [] => 0
  | x :: r => uptoBulkEntry x + uptoBulkEntries r
def uptoBulkEntry {H : Type} : Lit × DataW H → Nat
  | (.string bytes, d) => bytes.length + uptoBulk d + 1
  | (_, d) => uptoBulk d + 1
 end
def uptoSmall : (H : Type) → List (DataW H) → Bool := fun _ ds => decide (uptoBulkAll ds ≤ 1048576)
def OpenSpec.upto (s : _root_.Go.ChangeSpec) : _root_.Go.OpenSpec := { _root_.Go.OpenSpec.ofChange s with cond := some uptoSmall }

/-- 'newswirelaw27.TallyMatchesReference', WHERE WHAT IT READS IS OF BULK AT MOST 1048576: true; the input reads as it did. -/
def tallyMatchesReferenceUptoRow : OpenClaim := { program := "ytofbchcclkejgaa", sum := "7c90ff378a35964d610339ab7128d656570d47eb55a41738ff9ecb8193c8f715", func := "newswire/newswirelaw27.TallyMatchesReference", spec := "tallyMatchesReference", inPlace := ["internal/abi.NoEscape"], unfollowed := true, recurses := true, apart := false, narrowed := true }
def TallyMatchesReferenceUptoSaid : Prop := tallyMatchesReferenceUptoRow.holds Try.pinned (OpenSpec.upto tallyMatchesReferenceSpec)

/-- 'newswirelaw27.TallyOrder', WHERE WHAT IT READS IS OF BULK AT MOST 1048576: true; the input reads as it did. -/
def tallyOrderUptoRow : OpenClaim := { program := "ytofbchcclkejgaa", sum := "7c90ff378a35964d610339ab7128d656570d47eb55a41738ff9ecb8193c8f715", func := "newswire/newswirelaw27.TallyOrder", spec := "tallyOrder", inPlace := ["internal/abi.NoEscape"], unfollowed := true, recurses := true, apart := false, narrowed := true }
def TallyOrderUptoSaid : Prop := tallyOrderUptoRow.holds Try.pinned (OpenSpec.upto tallyOrderSpec)

/-- 'newswirelaw27.TallySure', WHERE WHAT IT READS IS OF BULK AT MOST 1048576: true; the input reads as it did. -/
def tallySureUptoRow : OpenClaim := { program := "ytofbchcclkejgaa", sum := "7c90ff378a35964d610339ab7128d656570d47eb55a41738ff9ecb8193c8f715", func := "newswire/newswirelaw27.TallySure", spec := "tallySure", inPlace := ["internal/abi.NoEscape"], unfollowed := true, recurses := true, apart := false, narrowed := true }
def TallySureUptoSaid : Prop := tallySureUptoRow.holds Try.pinned (OpenSpec.upto tallySureSpec)

/-- 'newswirelaw27.TallyOpen', WHERE WHAT IT READS IS OF BULK AT MOST 1048576: true; the input reads as it did. -/
def tallyOpenUptoRow : OpenClaim := { program := "ytofbchcclkejgaa", sum := "7c90ff378a35964d610339ab7128d656570d47eb55a41738ff9ecb8193c8f715", func := "newswire/newswirelaw27.TallyOpen", spec := "tallyOpen", inPlace := ["internal/abi.NoEscape"], unfollowed := true, recurses := true, apart := false, narrowed := true }
def TallyOpenUptoSaid : Prop := tallyOpenUptoRow.holds Try.pinned (OpenSpec.upto tallyOpenSpec)

/-- 'newswirelaw27.TallyTotals', WHERE WHAT IT READS IS OF BULK AT MOST 1048576: true; the input reads as it did. -/
def tallyTotalsUptoRow : OpenClaim := { program := "ytofbchcclkejgaa", sum := "7c90ff378a35964d610339ab7128d656570d47eb55a41738ff9ecb8193c8f715", func := "newswire/newswirelaw27.TallyTotals", spec := "tallyTotals", inPlace := ["internal/abi.NoEscape"], unfollowed := true, recurses := true, apart := false, narrowed := true }
def TallyTotalsUptoSaid : Prop := tallyTotalsUptoRow.holds Try.pinned (OpenSpec.upto tallyTotalsSpec)

/-- 'newswirelaw27.TallyCode', WHERE WHAT IT READS IS OF BULK AT MOST 1048576: true; the input reads as it did. -/
def tallyCodeUptoRow : OpenClaim := { program := "ytofbchcclkejgaa", sum := "7c90ff378a35964d610339ab7128d656570d47eb55a41738ff9ecb8193c8f715", func := "newswire/newswirelaw27.TallyCode", spec := "tallyCode", inPlace := ["internal/abi.NoEscape"], unfollowed := true, recurses := true, apart := false, narrowed := true }
def TallyCodeUptoSaid : Prop := tallyCodeUptoRow.holds Try.pinned (OpenSpec.upto tallyCodeSpec)

end Rows
end Go.Proofs.Ytofbchcclkejgaa
