/-
  NARROWER THAN 'FOR EVERY INPUT', by the rows' own cells (each row's printed sentence says how): LabelMatchesReference: laid · LabelCode: laid · LabelLattice: laid · LabelJoins: laid · LabelSeparates: laid · LabelClocks: laid · LabelOnceOpen: laid · LabelKeys: laid.
  DERIVED. THE GIVEN ROWS OF THIS SEAT. 8 by the template 'for every input the law returns true; each argument reads behind the call as it read before'; 0 by the template 'total and deterministic' (their statements: YthjiodeaepigmaaDoorTotals.lean).
  GIVEN WITH THE SEED: the statements are not yours to turn. If you find one false, say at which input.
  Laid BY PROGRAM, IN A SANDBOX (cutbox-rows.mjs): the forced cells as the released guide's own fill.sh prints them over the translation 19b289110b7ba82b… (all of the seat's roots in one cut). By AI agents, Wed Nov 11 2026. No macro, syntax, notation, axiom, sorry.
-/
import Derived.Test.YthjiodeaepigmaaDoorChecked
import GoSem.Claim
import GoSem.ClaimJoined
import GoSem.ClaimMapViews
import Derived.JoinedTies
import Derived.KernelRfl
namespace Go.Proofs.YthjiodeaepigmaaDoor
/- THE CELL 'sum', in the pinned program and in every row, IS THE sha256 OF THE DUMP (.gsa) THAT YthjiodeaepigmaaDoorProg.lean LOADS. Nothing in Lean hashes anything: it is a label: what it is worth is what the hold of that sum in a sandbox is worth. -/
noncomputable def Tryd.pinned : Pinned := { name := "ythjiodeaepigmaadoor", sum := "19b289110b7ba82b553726ceee1e01c7541a19e0cb841bb083eb206ecf389bc6", checked := Tryd.checked }
namespace Rows
def none {H : Type} : Left H := { results := [], args := [] }

/- WHAT THE LISTED PACKAGE-LEVEL VARIABLES READ AS WHEN THE CALL BEGINS. Each datum BY PROGRAM (the guide's laid-datum.mjs) off the statement by which the dump's own 'gosem.cut.vars' lays the variable. In a bare row this is a premise. The card (YthjiodeaepigmaaDoorCards.lean) ties it to the program's text. -/
def laid_newswire_label_reasons {H : Type} : DataW H := .iface "func table" (.slice [.agg [.lit (.int .i64 2), .iface "func" (.lit (.string [110, 101, 119, 115, 119, 105, 114, 101, 47, 108, 97, 98, 101, 108, 46, 114, 101, 97, 115, 111, 110, 115, 36, 49]))], .agg [.lit (.int .i64 3), .iface "func" (.lit (.string [110, 101, 119, 115, 119, 105, 114, 101, 47, 108, 97, 98, 101, 108, 46, 114, 101, 97, 115, 111, 110, 115, 36, 50]))], .agg [.lit (.int .i64 4), .iface "func" (.lit (.string [110, 101, 119, 115, 119, 105, 114, 101, 47, 108, 97, 98, 101, 108, 46, 114, 101, 97, 115, 111, 110, 115, 36, 51]))], .agg [.lit (.int .i64 5), .iface "func" (.lit (.string [110, 101, 119, 115, 119, 105, 114, 101, 47, 108, 97, 98, 101, 108, 46, 114, 101, 97, 115, 111, 110, 115, 36, 52]))], .agg [.lit (.int .i64 6), .iface "func" (.lit (.string [110, 101, 119, 115, 119, 105, 114, 101, 47, 108, 97, 98, 101, 108, 46, 114, 101, 97, 115, 111, 110, 115, 36, 53]))], .agg [.lit (.int .i64 7), .iface "func" (.lit (.string [110, 101, 119, 115, 119, 105, 114, 101, 47, 108, 97, 98, 101, 108, 46, 114, 101, 97, 115, 111, 110, 115, 36, 54]))]] [])

/-- 'newswirelaw10.LabelMatchesReference': WHATEVER THE INPUT: true; the input reads as it did. -/
def labelMatchesReferenceSpec : ChangeSpec := { name := "labelMatchesReference", fn := fun _ => fun
  | [d1, d2, d3, d4, d5, d6] => { results := [.lit (.bool true)], args := [d1, d2, d3, d4, d5, d6] }
  | _ => none }
def labelMatchesReferenceRow : OpenClaim := { program := "ythjiodeaepigmaadoor", sum := "19b289110b7ba82b553726ceee1e01c7541a19e0cb841bb083eb206ecf389bc6", func := "newswire/newswirelaw10.LabelMatchesReference", spec := "labelMatchesReference", inPlace := ["internal/abi.NoEscape"], unfollowed := true, recurses := true, named := ["newswire/label.reasons"], apart := false, laid := [("newswire/label.reasons", laid_newswire_label_reasons)] }
def LabelMatchesReferenceSaid : Prop := labelMatchesReferenceRow.holds Tryd.pinned (OpenSpec.ofChange labelMatchesReferenceSpec)

/-- ITS FALSE NEIGHBOUR: 'it returns false'. Refute it at one input. -/
def labelMatchesReferenceWrong : ChangeSpec := { name := "labelMatchesReference", fn := fun _ => fun
  | [d1, d2, d3, d4, d5, d6] => { results := [.lit (.bool false)], args := [d1, d2, d3, d4, d5, d6] }
  | _ => none }
def LabelMatchesReferenceWrongFalsely : Prop := labelMatchesReferenceRow.holds Tryd.pinned (OpenSpec.ofChange labelMatchesReferenceWrong)

/-- 'newswirelaw10.LabelCode': WHATEVER THE INPUT: true; the input reads as it did. -/
def labelCodeSpec : ChangeSpec := { name := "labelCode", fn := fun _ => fun
  | [d1, d2, d3, d4, d5, d6] => { results := [.lit (.bool true)], args := [d1, d2, d3, d4, d5, d6] }
  | _ => none }
def labelCodeRow : OpenClaim := { program := "ythjiodeaepigmaadoor", sum := "19b289110b7ba82b553726ceee1e01c7541a19e0cb841bb083eb206ecf389bc6", func := "newswire/newswirelaw10.LabelCode", spec := "labelCode", inPlace := ["internal/abi.NoEscape"], unfollowed := true, recurses := true, named := ["newswire/label.reasons"], apart := false, laid := [("newswire/label.reasons", laid_newswire_label_reasons)] }
def LabelCodeSaid : Prop := labelCodeRow.holds Tryd.pinned (OpenSpec.ofChange labelCodeSpec)

/-- ITS FALSE NEIGHBOUR: 'it returns false'. Refute it at one input. -/
def labelCodeWrong : ChangeSpec := { name := "labelCode", fn := fun _ => fun
  | [d1, d2, d3, d4, d5, d6] => { results := [.lit (.bool false)], args := [d1, d2, d3, d4, d5, d6] }
  | _ => none }
def LabelCodeWrongFalsely : Prop := labelCodeRow.holds Tryd.pinned (OpenSpec.ofChange labelCodeWrong)

/-- 'newswirelaw10.LabelLattice': WHATEVER THE INPUT: true; the input reads as it did. -/
def labelLatticeSpec : ChangeSpec := { name := "labelLattice", fn := fun _ => fun
  | [d1, d2, d3] => { results := [.lit (.bool true)], args := [d1, d2, d3] }
  | _ => none }
def labelLatticeRow : OpenClaim := { program := "ythjiodeaepigmaadoor", sum := "19b289110b7ba82b553726ceee1e01c7541a19e0cb841bb083eb206ecf389bc6", func := "newswire/newswirelaw10.LabelLattice", spec := "labelLattice", inPlace := ["internal/abi.NoEscape"], unfollowed := true, recurses := true, named := ["newswire/label.reasons"], apart := false, laid := [("newswire/label.reasons", laid_newswire_label_reasons)] }
def LabelLatticeSaid : Prop := labelLatticeRow.holds Tryd.pinned (OpenSpec.ofChange labelLatticeSpec)

/-- ITS FALSE NEIGHBOUR: 'it returns false'. Refute it at one input. -/
def labelLatticeWrong : ChangeSpec := { name := "labelLattice", fn := fun _ => fun
  | [d1, d2, d3] => { results := [.lit (.bool false)], args := [d1, d2, d3] }
  | _ => none }
def LabelLatticeWrongFalsely : Prop := labelLatticeRow.holds Tryd.pinned (OpenSpec.ofChange labelLatticeWrong)

/-- 'newswirelaw10.LabelJoins': WHATEVER THE INPUT: true; the input reads as it did. -/
def labelJoinsSpec : ChangeSpec := { name := "labelJoins", fn := fun _ => fun
  | [d1, d2, d3, d4, d5] => { results := [.lit (.bool true)], args := [d1, d2, d3, d4, d5] }
  | _ => none }
def labelJoinsRow : OpenClaim := { program := "ythjiodeaepigmaadoor", sum := "19b289110b7ba82b553726ceee1e01c7541a19e0cb841bb083eb206ecf389bc6", func := "newswire/newswirelaw10.LabelJoins", spec := "labelJoins", inPlace := ["internal/abi.NoEscape"], unfollowed := true, recurses := true, named := ["newswire/label.reasons"], apart := false, laid := [("newswire/label.reasons", laid_newswire_label_reasons)] }
def LabelJoinsSaid : Prop := labelJoinsRow.holds Tryd.pinned (OpenSpec.ofChange labelJoinsSpec)

/-- ITS FALSE NEIGHBOUR: 'it returns false'. Refute it at one input. -/
def labelJoinsWrong : ChangeSpec := { name := "labelJoins", fn := fun _ => fun
  | [d1, d2, d3, d4, d5] => { results := [.lit (.bool false)], args := [d1, d2, d3, d4, d5] }
  | _ => none }
def LabelJoinsWrongFalsely : Prop := labelJoinsRow.holds Tryd.pinned (OpenSpec.ofChange labelJoinsWrong)

/-- 'newswirelaw10.LabelSeparates': WHATEVER THE INPUT: true; the input reads as it did. -/
def labelSeparatesSpec : ChangeSpec := { name := "labelSeparates", fn := fun _ => fun
  | [d1, d2] => { results := [.lit (.bool true)], args := [d1, d2] }
  | _ => none }
def labelSeparatesRow : OpenClaim := { program := "ythjiodeaepigmaadoor", sum := "19b289110b7ba82b553726ceee1e01c7541a19e0cb841bb083eb206ecf389bc6", func := "newswire/newswirelaw10.LabelSeparates", spec := "labelSeparates", inPlace := ["internal/abi.NoEscape"], unfollowed := true, recurses := true, named := ["newswire/label.reasons"], apart := false, laid := [("newswire/label.reasons", laid_newswire_label_reasons)] }
def LabelSeparatesSaid : Prop := labelSeparatesRow.holds Tryd.pinned (OpenSpec.ofChange labelSeparatesSpec)

/-- ITS FALSE NEIGHBOUR: 'it returns false'. Refute it at one input. -/
def labelSeparatesWrong : ChangeSpec := { name := "labelSeparates", fn := fun _ => fun
  | [d1, d2] => { results := [.lit (.bool false)], args := [d1, d2] }
  | _ => none }
def LabelSeparatesWrongFalsely : Prop := labelSeparatesRow.holds Tryd.pinned (OpenSpec.ofChange labelSeparatesWrong)

/-- 'newswirelaw10.LabelClocks': WHATEVER THE INPUT: true; the input reads as it did. -/
def labelClocksSpec : ChangeSpec := { name := "labelClocks", fn := fun _ => fun
  | [d1, d2, d3, d4, d5] => { results := [.lit (.bool true)], args := [d1, d2, d3, d4, d5] }
  | _ => none }
def labelClocksRow : OpenClaim := { program := "ythjiodeaepigmaadoor", sum := "19b289110b7ba82b553726ceee1e01c7541a19e0cb841bb083eb206ecf389bc6", func := "newswire/newswirelaw10.LabelClocks", spec := "labelClocks", inPlace := ["internal/abi.NoEscape"], unfollowed := true, recurses := true, named := ["newswire/label.reasons"], apart := false, laid := [("newswire/label.reasons", laid_newswire_label_reasons)] }
def LabelClocksSaid : Prop := labelClocksRow.holds Tryd.pinned (OpenSpec.ofChange labelClocksSpec)

/-- ITS FALSE NEIGHBOUR: 'it returns false'. Refute it at one input. -/
def labelClocksWrong : ChangeSpec := { name := "labelClocks", fn := fun _ => fun
  | [d1, d2, d3, d4, d5] => { results := [.lit (.bool false)], args := [d1, d2, d3, d4, d5] }
  | _ => none }
def LabelClocksWrongFalsely : Prop := labelClocksRow.holds Tryd.pinned (OpenSpec.ofChange labelClocksWrong)

/-- 'newswirelaw10.LabelOnceOpen': WHATEVER THE INPUT: true; the input reads as it did. -/
def labelOnceOpenSpec : ChangeSpec := { name := "labelOnceOpen", fn := fun _ => fun
  | [d1, d2, d3, d4, d5] => { results := [.lit (.bool true)], args := [d1, d2, d3, d4, d5] }
  | _ => none }
def labelOnceOpenRow : OpenClaim := { program := "ythjiodeaepigmaadoor", sum := "19b289110b7ba82b553726ceee1e01c7541a19e0cb841bb083eb206ecf389bc6", func := "newswire/newswirelaw10.LabelOnceOpen", spec := "labelOnceOpen", inPlace := ["internal/abi.NoEscape"], unfollowed := true, recurses := true, named := ["newswire/label.reasons"], apart := false, laid := [("newswire/label.reasons", laid_newswire_label_reasons)] }
def LabelOnceOpenSaid : Prop := labelOnceOpenRow.holds Tryd.pinned (OpenSpec.ofChange labelOnceOpenSpec)

/-- ITS FALSE NEIGHBOUR: 'it returns false'. Refute it at one input. -/
def labelOnceOpenWrong : ChangeSpec := { name := "labelOnceOpen", fn := fun _ => fun
  | [d1, d2, d3, d4, d5] => { results := [.lit (.bool false)], args := [d1, d2, d3, d4, d5] }
  | _ => none }
def LabelOnceOpenWrongFalsely : Prop := labelOnceOpenRow.holds Tryd.pinned (OpenSpec.ofChange labelOnceOpenWrong)

/-- 'newswirelaw10.LabelKeys': WHATEVER THE INPUT: true; the input reads as it did. -/
def labelKeysSpec : ChangeSpec := { name := "labelKeys", fn := fun _ => fun
  | [d1, d2, d3] => { results := [.lit (.bool true)], args := [d1, d2, d3] }
  | _ => none }
def labelKeysRow : OpenClaim := { program := "ythjiodeaepigmaadoor", sum := "19b289110b7ba82b553726ceee1e01c7541a19e0cb841bb083eb206ecf389bc6", func := "newswire/newswirelaw10.LabelKeys", spec := "labelKeys", inPlace := ["internal/abi.NoEscape"], unfollowed := true, recurses := true, named := ["newswire/label.reasons"], apart := false, laid := [("newswire/label.reasons", laid_newswire_label_reasons)] }
def LabelKeysSaid : Prop := labelKeysRow.holds Tryd.pinned (OpenSpec.ofChange labelKeysSpec)

/-- ITS FALSE NEIGHBOUR: 'it returns false'. Refute it at one input. -/
def labelKeysWrong : ChangeSpec := { name := "labelKeys", fn := fun _ => fun
  | [d1, d2, d3] => { results := [.lit (.bool false)], args := [d1, d2, d3] }
  | _ => none }
def LabelKeysWrongFalsely : Prop := labelKeysRow.holds Tryd.pinned (OpenSpec.ofChange labelKeysWrong)

/- THE SECOND FORM. 'bulk': how many values and letters a reading holds, each counted each time it is reached (what is shared counts as often as it is met; a slice's spare places count too). A statement '..UptoSaid' is the law's where the arguments, and the package variables that the reading takes, are together of bulk at most 1048576: NARROWER than '..Said'. Prove '..Said' where nothing that the law and all that it calls make is longer than what came in: it says more and counts as full. Else prove '..UptoSaid'. A law counts once. -/
mutual
def uptoBulk {H : Type} : DataW H → Nat
  | .lit (.string bytes) => bytes.length + 1
  | .lit _ => 1
  | .nil => 1
  | .ptr d => uptoBulk d + 1
  | .slice elems spare => uptoBulkAll elems + uptoBulkAll spare + 1
  | .agg parts => uptoBulkAll parts + 1
  | .iface _ d => uptoBulk d + 1
  | .map entries => uptoBulkEntries entries + 1
  | .held _ => 1
def uptoBulkAll {H : Type} : List (DataW H) → Nat
  | [] => 0
  | d :: r => uptoBulk d + uptoBulkAll r
def uptoBulkEntries {H : Type} : List (Lit × DataW H) → Nat
  | [] => 0
  | x :: r => uptoBulkEntry x + uptoBulkEntries r
def uptoBulkEntry {H : Type} : Lit × DataW H → Nat
  | (.string bytes, d) => bytes.length + uptoBulk d + 1
  | (_, d) => uptoBulk d + 1
 end
def uptoSmall : (H : Type) → List (DataW H) → Bool := fun _ ds => decide (uptoBulkAll ds ≤ 1048576)
def OpenSpec.upto (s : _root_.Go.ChangeSpec) : _root_.Go.OpenSpec := { _root_.Go.OpenSpec.ofChange s with cond := some uptoSmall }

/-- 'newswirelaw10.LabelMatchesReference', WHERE WHAT IT READS IS OF BULK AT MOST 1048576: true; the input reads as it did. -/
def labelMatchesReferenceUptoRow : OpenClaim := { program := "ythjiodeaepigmaadoor", sum := "19b289110b7ba82b553726ceee1e01c7541a19e0cb841bb083eb206ecf389bc6", func := "newswire/newswirelaw10.LabelMatchesReference", spec := "labelMatchesReference", inPlace := ["internal/abi.NoEscape"], unfollowed := true, recurses := true, named := ["newswire/label.reasons"], apart := false, laid := [("newswire/label.reasons", laid_newswire_label_reasons)], narrowed := true }
def LabelMatchesReferenceUptoSaid : Prop := labelMatchesReferenceUptoRow.holds Tryd.pinned (OpenSpec.upto labelMatchesReferenceSpec)

/-- 'newswirelaw10.LabelCode', WHERE WHAT IT READS IS OF BULK AT MOST 1048576: true; the input reads as it did. -/
def labelCodeUptoRow : OpenClaim := { program := "ythjiodeaepigmaadoor", sum := "19b289110b7ba82b553726ceee1e01c7541a19e0cb841bb083eb206ecf389bc6", func := "newswire/newswirelaw10.LabelCode", spec := "labelCode", inPlace := ["internal/abi.NoEscape"], unfollowed := true, recurses := true, named := ["newswire/label.reasons"], apart := false, laid := [("newswire/label.reasons", laid_newswire_label_reasons)], narrowed := true }
def LabelCodeUptoSaid : Prop := labelCodeUptoRow.holds Tryd.pinned (OpenSpec.upto labelCodeSpec)

/-- 'newswirelaw10.LabelLattice', WHERE WHAT IT READS IS OF BULK AT MOST 1048576: true; the input reads as it did. -/
def labelLatticeUptoRow : OpenClaim := { program := "ythjiodeaepigmaadoor", sum := "19b289110b7ba82b553726ceee1e01c7541a19e0cb841bb083eb206ecf389bc6", func := "newswire/newswirelaw10.LabelLattice", spec := "labelLattice", inPlace := ["internal/abi.NoEscape"], unfollowed := true, recurses := true, named := ["newswire/label.reasons"], apart := false, laid := [("newswire/label.reasons", laid_newswire_label_reasons)], narrowed := true }
def LabelLatticeUptoSaid : Prop := labelLatticeUptoRow.holds Tryd.pinned (OpenSpec.upto labelLatticeSpec)

/-- 'newswirelaw10.LabelJoins', WHERE WHAT IT READS IS OF BULK AT MOST 1048576: true; the input reads as it did. -/
def labelJoinsUptoRow : OpenClaim := { program := "ythjiodeaepigmaadoor", sum := "19b289110b7ba82b553726ceee1e01c7541a19e0cb841bb083eb206ecf389bc6", func := "newswire/newswirelaw10.LabelJoins", spec := "labelJoins", inPlace := ["internal/abi.NoEscape"], unfollowed := true, recurses := true, named := ["newswire/label.reasons"], apart := false, laid := [("newswire/label.reasons", laid_newswire_label_reasons)], narrowed := true }
def LabelJoinsUptoSaid : Prop := labelJoinsUptoRow.holds Tryd.pinned (OpenSpec.upto labelJoinsSpec)

/-- 'newswirelaw10.LabelSeparates', WHERE WHAT IT READS IS OF BULK AT MOST 1048576: true; the input reads as it did. -/
def labelSeparatesUptoRow : OpenClaim := { program := "ythjiodeaepigmaadoor", sum := "19b289110b7ba82b553726ceee1e01c7541a19e0cb841bb083eb206ecf389bc6", func := "newswire/newswirelaw10.LabelSeparates", spec := "labelSeparates", inPlace := ["internal/abi.NoEscape"], unfollowed := true, recurses := true, named := ["newswire/label.reasons"], apart := false, laid := [("newswire/label.reasons", laid_newswire_label_reasons)], narrowed := true }
def LabelSeparatesUptoSaid : Prop := labelSeparatesUptoRow.holds Tryd.pinned (OpenSpec.upto labelSeparatesSpec)

/-- 'newswirelaw10.LabelClocks', WHERE WHAT IT READS IS OF BULK AT MOST 1048576: true; the input reads as it did. -/
def labelClocksUptoRow : OpenClaim := { program := "ythjiodeaepigmaadoor", sum := "19b289110b7ba82b553726ceee1e01c7541a19e0cb841bb083eb206ecf389bc6", func := "newswire/newswirelaw10.LabelClocks", spec := "labelClocks", inPlace := ["internal/abi.NoEscape"], unfollowed := true, recurses := true, named := ["newswire/label.reasons"], apart := false, laid := [("newswire/label.reasons", laid_newswire_label_reasons)], narrowed := true }
def LabelClocksUptoSaid : Prop := labelClocksUptoRow.holds Tryd.pinned (OpenSpec.upto labelClocksSpec)

/-- 'newswirelaw10.LabelOnceOpen', WHERE WHAT IT READS IS OF BULK AT MOST 1048576: true; the input reads as it did. -/
def labelOnceOpenUptoRow : OpenClaim := { program := "ythjiodeaepigmaadoor", sum := "19b289110b7ba82b553726ceee1e01c7541a19e0cb841bb083eb206ecf389bc6", func := "newswire/newswirelaw10.LabelOnceOpen", spec := "labelOnceOpen", inPlace := ["internal/abi.NoEscape"], unfollowed := true, recurses := true, named := ["newswire/label.reasons"], apart := false, laid := [("newswire/label.reasons", laid_newswire_label_reasons)], narrowed := true }
def LabelOnceOpenUptoSaid : Prop := labelOnceOpenUptoRow.holds Tryd.pinned (OpenSpec.upto labelOnceOpenSpec)

/-- 'newswirelaw10.LabelKeys', WHERE WHAT IT READS IS OF BULK AT MOST 1048576: true; the input reads as it did. -/
def labelKeysUptoRow : OpenClaim := { program := "ythjiodeaepigmaadoor", sum := "19b289110b7ba82b553726ceee1e01c7541a19e0cb841bb083eb206ecf389bc6", func := "newswire/newswirelaw10.LabelKeys", spec := "labelKeys", inPlace := ["internal/abi.NoEscape"], unfollowed := true, recurses := true, named := ["newswire/label.reasons"], apart := false, laid := [("newswire/label.reasons", laid_newswire_label_reasons)], narrowed := true }
def LabelKeysUptoSaid : Prop := labelKeysUptoRow.holds Tryd.pinned (OpenSpec.upto labelKeysSpec)

end Rows
end Go.Proofs.YthjiodeaepigmaaDoor
