/-
  NARROWER THAN 'FOR EVERY INPUT', by the rows' own cells (each row's printed sentence says how): UnitMatchesReference: laid · UnitOutward: laid · UnitBack: laid · UnitMonotone: laid · UnitSums: laid · UnitCoarser: laid.
  DERIVED. THE GIVEN ROWS OF THIS SEAT. 6 by the template 'for every input the law returns true; each argument reads behind the call as it read before'; 0 by the template 'total and deterministic' (their statements: YtblnabilodbceaaDoorTotals.lean).
  GIVEN WITH THE SEED: the statements are not yours to turn. If you find one false, say at which input.
  Laid BY PROGRAM, IN A SANDBOX (cutbox-rows.mjs): the forced cells as the released guide's own fill.sh prints them over the translation 404afafd04631733… (all of the seat's roots in one cut). By AI agents, Wed Nov 11 2026. No macro, syntax, notation, axiom, sorry.
-/
import Derived.Test.YtblnabilodbceaaDoorChecked
import GoSem.Claim
import GoSem.ClaimJoined
import GoSem.ClaimMapViews
import Derived.JoinedTies
import Derived.KernelRfl
namespace Go.Proofs.YtblnabilodbceaaDoor
/- THE CELL 'sum', in the pinned program and in every row, IS THE sha256 OF THE DUMP (.gsa) THAT YtblnabilodbceaaDoorProg.lean LOADS. Nothing in Lean hashes anything: it is a label: what it is worth is what the hold of that sum in a sandbox is worth. -/
noncomputable def Tryd.pinned : Pinned := { name := "ytblnabilodbceaadoor", sum := "404afafd04631733d37b9daec81bcac6de633cbdb034e057364fb89c867ba66f", checked := Tryd.checked }
namespace Rows
def none {H : Type} : Left H := { results := [], args := [] }

/- WHAT THE LISTED PACKAGE-LEVEL VARIABLES READ AS WHEN THE CALL BEGINS. Each datum BY PROGRAM (the guide's laid-datum.mjs) off the statement by which the dump's own 'gosem.cut.vars' lays the variable. In a bare row this is a premise. The card (YtblnabilodbceaaDoorCards.lean) ties it to the program's text. -/
def laid_newswire_unit_measures {H : Type} : DataW H := .agg [.agg [.lit (.int .i64 0), .lit (.int .i64 0), .lit (.int .i64 0)], .agg [.lit (.int .i64 1), .lit (.int .i64 1), .lit (.int .i64 1)], .agg [.lit (.int .i64 2), .lit (.int .i64 1), .lit (.int .i64 1)], .agg [.lit (.int .i64 2), .lit (.int .i64 3048), .lit (.int .i64 10000)], .agg [.lit (.int .i64 3), .lit (.int .i64 1), .lit (.int .i64 1)], .agg [.lit (.int .i64 3), .lit (.int .i64 45359237), .lit (.int .i64 100000000)], .agg [.lit (.int .i64 4), .lit (.int .i64 1), .lit (.int .i64 1)], .agg [.lit (.int .i64 4), .lit (.int .i64 1), .lit (.int .i64 1)]]
def laid_newswire_unit_outward {H : Type} : DataW H := .iface "func table" (.agg [.iface "func" (.lit (.string [110, 101, 119, 115, 119, 105, 114, 101, 47, 117, 110, 105, 116, 46, 111, 117, 116, 119, 97, 114, 100, 36, 49])), .iface "func" (.lit (.string [110, 101, 119, 115, 119, 105, 114, 101, 47, 117, 110, 105, 116, 46, 111, 117, 116, 119, 97, 114, 100, 36, 50]))])

/-- 'newswirelaw05.UnitMatchesReference': WHATEVER THE INPUT: true; the input reads as it did. -/
def unitMatchesReferenceSpec : ChangeSpec := { name := "unitMatchesReference", fn := fun _ => fun
  | [d1, d2, d3, d4, d5, d6, d7, d8, d9, d10] => { results := [.lit (.bool true)], args := [d1, d2, d3, d4, d5, d6, d7, d8, d9, d10] }
  | _ => none }
def unitMatchesReferenceRow : OpenClaim := { program := "ytblnabilodbceaadoor", sum := "404afafd04631733d37b9daec81bcac6de633cbdb034e057364fb89c867ba66f", func := "newswire/newswirelaw05.UnitMatchesReference", spec := "unitMatchesReference", unfollowed := true, recurses := true, named := ["newswire/unit.measures", "newswire/unit.outward"], apart := false, laid := [("newswire/unit.measures", laid_newswire_unit_measures), ("newswire/unit.outward", laid_newswire_unit_outward)] }
def UnitMatchesReferenceSaid : Prop := unitMatchesReferenceRow.holds Tryd.pinned (OpenSpec.ofChange unitMatchesReferenceSpec)

/-- ITS FALSE NEIGHBOUR: 'it returns false'. Refute it at one input. -/
def unitMatchesReferenceWrong : ChangeSpec := { name := "unitMatchesReference", fn := fun _ => fun
  | [d1, d2, d3, d4, d5, d6, d7, d8, d9, d10] => { results := [.lit (.bool false)], args := [d1, d2, d3, d4, d5, d6, d7, d8, d9, d10] }
  | _ => none }
def UnitMatchesReferenceWrongFalsely : Prop := unitMatchesReferenceRow.holds Tryd.pinned (OpenSpec.ofChange unitMatchesReferenceWrong)

/-- 'newswirelaw05.UnitOutward': WHATEVER THE INPUT: true; the input reads as it did. -/
def unitOutwardSpec : ChangeSpec := { name := "unitOutward", fn := fun _ => fun
  | [d1, d2, d3, d4, d5, d6] => { results := [.lit (.bool true)], args := [d1, d2, d3, d4, d5, d6] }
  | _ => none }
def unitOutwardRow : OpenClaim := { program := "ytblnabilodbceaadoor", sum := "404afafd04631733d37b9daec81bcac6de633cbdb034e057364fb89c867ba66f", func := "newswire/newswirelaw05.UnitOutward", spec := "unitOutward", unfollowed := true, recurses := true, named := ["newswire/unit.measures", "newswire/unit.outward"], apart := false, laid := [("newswire/unit.measures", laid_newswire_unit_measures), ("newswire/unit.outward", laid_newswire_unit_outward)] }
def UnitOutwardSaid : Prop := unitOutwardRow.holds Tryd.pinned (OpenSpec.ofChange unitOutwardSpec)

/-- ITS FALSE NEIGHBOUR: 'it returns false'. Refute it at one input. -/
def unitOutwardWrong : ChangeSpec := { name := "unitOutward", fn := fun _ => fun
  | [d1, d2, d3, d4, d5, d6] => { results := [.lit (.bool false)], args := [d1, d2, d3, d4, d5, d6] }
  | _ => none }
def UnitOutwardWrongFalsely : Prop := unitOutwardRow.holds Tryd.pinned (OpenSpec.ofChange unitOutwardWrong)

/-- 'newswirelaw05.UnitBack': WHATEVER THE INPUT: true; the input reads as it did. -/
def unitBackSpec : ChangeSpec := { name := "unitBack", fn := fun _ => fun
  | [d1, d2] => { results := [.lit (.bool true)], args := [d1, d2] }
  | _ => none }
def unitBackRow : OpenClaim := { program := "ytblnabilodbceaadoor", sum := "404afafd04631733d37b9daec81bcac6de633cbdb034e057364fb89c867ba66f", func := "newswire/newswirelaw05.UnitBack", spec := "unitBack", unfollowed := true, recurses := true, named := ["newswire/unit.measures", "newswire/unit.outward"], apart := false, laid := [("newswire/unit.measures", laid_newswire_unit_measures), ("newswire/unit.outward", laid_newswire_unit_outward)] }
def UnitBackSaid : Prop := unitBackRow.holds Tryd.pinned (OpenSpec.ofChange unitBackSpec)

/-- ITS FALSE NEIGHBOUR: 'it returns false'. Refute it at one input. -/
def unitBackWrong : ChangeSpec := { name := "unitBack", fn := fun _ => fun
  | [d1, d2] => { results := [.lit (.bool false)], args := [d1, d2] }
  | _ => none }
def UnitBackWrongFalsely : Prop := unitBackRow.holds Tryd.pinned (OpenSpec.ofChange unitBackWrong)

/-- 'newswirelaw05.UnitMonotone': WHATEVER THE INPUT: true; the input reads as it did. -/
def unitMonotoneSpec : ChangeSpec := { name := "unitMonotone", fn := fun _ => fun
  | [d1, d2, d3, d4, d5, d6, d7, d8] => { results := [.lit (.bool true)], args := [d1, d2, d3, d4, d5, d6, d7, d8] }
  | _ => none }
def unitMonotoneRow : OpenClaim := { program := "ytblnabilodbceaadoor", sum := "404afafd04631733d37b9daec81bcac6de633cbdb034e057364fb89c867ba66f", func := "newswire/newswirelaw05.UnitMonotone", spec := "unitMonotone", unfollowed := true, recurses := true, named := ["newswire/unit.measures", "newswire/unit.outward"], apart := false, laid := [("newswire/unit.measures", laid_newswire_unit_measures), ("newswire/unit.outward", laid_newswire_unit_outward)] }
def UnitMonotoneSaid : Prop := unitMonotoneRow.holds Tryd.pinned (OpenSpec.ofChange unitMonotoneSpec)

/-- ITS FALSE NEIGHBOUR: 'it returns false'. Refute it at one input. -/
def unitMonotoneWrong : ChangeSpec := { name := "unitMonotone", fn := fun _ => fun
  | [d1, d2, d3, d4, d5, d6, d7, d8] => { results := [.lit (.bool false)], args := [d1, d2, d3, d4, d5, d6, d7, d8] }
  | _ => none }
def UnitMonotoneWrongFalsely : Prop := unitMonotoneRow.holds Tryd.pinned (OpenSpec.ofChange unitMonotoneWrong)

/-- 'newswirelaw05.UnitSums': WHATEVER THE INPUT: true; the input reads as it did. -/
def unitSumsSpec : ChangeSpec := { name := "unitSums", fn := fun _ => fun
  | [d1, d2, d3, d4] => { results := [.lit (.bool true)], args := [d1, d2, d3, d4] }
  | _ => none }
def unitSumsRow : OpenClaim := { program := "ytblnabilodbceaadoor", sum := "404afafd04631733d37b9daec81bcac6de633cbdb034e057364fb89c867ba66f", func := "newswire/newswirelaw05.UnitSums", spec := "unitSums", unfollowed := true, recurses := true, named := ["newswire/unit.measures", "newswire/unit.outward"], apart := false, laid := [("newswire/unit.measures", laid_newswire_unit_measures), ("newswire/unit.outward", laid_newswire_unit_outward)] }
def UnitSumsSaid : Prop := unitSumsRow.holds Tryd.pinned (OpenSpec.ofChange unitSumsSpec)

/-- ITS FALSE NEIGHBOUR: 'it returns false'. Refute it at one input. -/
def unitSumsWrong : ChangeSpec := { name := "unitSums", fn := fun _ => fun
  | [d1, d2, d3, d4] => { results := [.lit (.bool false)], args := [d1, d2, d3, d4] }
  | _ => none }
def UnitSumsWrongFalsely : Prop := unitSumsRow.holds Tryd.pinned (OpenSpec.ofChange unitSumsWrong)

/-- 'newswirelaw05.UnitCoarser': WHATEVER THE INPUT: true; the input reads as it did. -/
def unitCoarserSpec : ChangeSpec := { name := "unitCoarser", fn := fun _ => fun
  | [d1, d2, d3, d4, d5] => { results := [.lit (.bool true)], args := [d1, d2, d3, d4, d5] }
  | _ => none }
def unitCoarserRow : OpenClaim := { program := "ytblnabilodbceaadoor", sum := "404afafd04631733d37b9daec81bcac6de633cbdb034e057364fb89c867ba66f", func := "newswire/newswirelaw05.UnitCoarser", spec := "unitCoarser", unfollowed := true, recurses := true, named := ["newswire/unit.measures", "newswire/unit.outward"], apart := false, laid := [("newswire/unit.measures", laid_newswire_unit_measures), ("newswire/unit.outward", laid_newswire_unit_outward)] }
def UnitCoarserSaid : Prop := unitCoarserRow.holds Tryd.pinned (OpenSpec.ofChange unitCoarserSpec)

/-- ITS FALSE NEIGHBOUR: 'it returns false'. Refute it at one input. -/
def unitCoarserWrong : ChangeSpec := { name := "unitCoarser", fn := fun _ => fun
  | [d1, d2, d3, d4, d5] => { results := [.lit (.bool false)], args := [d1, d2, d3, d4, d5] }
  | _ => none }
def UnitCoarserWrongFalsely : Prop := unitCoarserRow.holds Tryd.pinned (OpenSpec.ofChange unitCoarserWrong)

/- THE SECOND FORM. 'bulk': how many values and letters a reading holds, each counted each time it is reached (what is shared counts as often as it is met; a slice's spare places count too). A statement '..UptoSaid' is the law's where the arguments, and the package variables that the reading takes, are together of bulk at most 1048576: NARROWER than '..Said'. Prove '..Said' where nothing that the law and all that it calls make is longer than what came in: it says more and counts as full. Else prove '..UptoSaid'. A law counts once. -/
mutual
def uptoBulk {H : Type} : DataW H → Nat
  | .lit (.string bytes) => bytes.length + 1
  | .lit _ => 1
  | .nil => 1
  | .ptr d => uptoBulk d + 1
  | .slice elems spare => uptoBulkAll elems + uptoBulkAll spare + 1
  | .agg parts => uptoBulkAll parts + 1
  | .iface _ d => uptoBulk d + 1
  | .map entries => uptoBulkEntries entries + 1
  | .held _ => 1
def uptoBulkAll {H : Type} : List (DataW H) → Nat
  | [] => 0
  | d :: r => uptoBulk d + uptoBulkAll r
def uptoBulkEntries {H : Type} : List (Lit × DataW H) → Nat
  | [] => 0
  | x :: r => uptoBulkEntry x + uptoBulkEntries r
def uptoBulkEntry {H : Type} : Lit × DataW H → Nat
  | (.string bytes, d) => bytes.length + uptoBulk d + 1
  | (_, d) => uptoBulk d + 1
 end
def uptoSmall : (H : Type) → List (DataW H) → Bool := fun _ ds => decide (uptoBulkAll ds ≤ 1048576)
def OpenSpec.upto (s : _root_.Go.ChangeSpec) : _root_.Go.OpenSpec := { _root_.Go.OpenSpec.ofChange s with cond := some uptoSmall }

/-- 'newswirelaw05.UnitMatchesReference', WHERE WHAT IT READS IS OF BULK AT MOST 1048576: true; the input reads as it did. -/
def unitMatchesReferenceUptoRow : OpenClaim := { program := "ytblnabilodbceaadoor", sum := "404afafd04631733d37b9daec81bcac6de633cbdb034e057364fb89c867ba66f", func := "newswire/newswirelaw05.UnitMatchesReference", spec := "unitMatchesReference", unfollowed := true, recurses := true, named := ["newswire/unit.measures", "newswire/unit.outward"], apart := false, laid := [("newswire/unit.measures", laid_newswire_unit_measures), ("newswire/unit.outward", laid_newswire_unit_outward)], narrowed := true }
def UnitMatchesReferenceUptoSaid : Prop := unitMatchesReferenceUptoRow.holds Tryd.pinned (OpenSpec.upto unitMatchesReferenceSpec)

/-- 'newswirelaw05.UnitOutward', WHERE WHAT IT READS IS OF BULK AT MOST 1048576: true; the input reads as it did. -/
def unitOutwardUptoRow : OpenClaim := { program := "ytblnabilodbceaadoor", sum := "404afafd04631733d37b9daec81bcac6de633cbdb034e057364fb89c867ba66f", func := "newswire/newswirelaw05.UnitOutward", spec := "unitOutward", unfollowed := true, recurses := true, named := ["newswire/unit.measures", "newswire/unit.outward"], apart := false, laid := [("newswire/unit.measures", laid_newswire_unit_measures), ("newswire/unit.outward", laid_newswire_unit_outward)], narrowed := true }
def UnitOutwardUptoSaid : Prop := unitOutwardUptoRow.holds Tryd.pinned (OpenSpec.upto unitOutwardSpec)

/-- 'newswirelaw05.UnitBack', WHERE WHAT IT READS IS OF BULK AT MOST 1048576: true; the input reads as it did. -/
def unitBackUptoRow : OpenClaim := { program := "ytblnabilodbceaadoor", sum := "404afafd04631733d37b9daec81bcac6de633cbdb034e057364fb89c867ba66f", func := "newswire/newswirelaw05.UnitBack", spec := "unitBack", unfollowed := true, recurses := true, named := ["newswire/unit.measures", "newswire/unit.outward"], apart := false, laid := [("newswire/unit.measures", laid_newswire_unit_measures), ("newswire/unit.outward", laid_newswire_unit_outward)], narrowed := true }
def UnitBackUptoSaid : Prop := unitBackUptoRow.holds Tryd.pinned (OpenSpec.upto unitBackSpec)

/-- 'newswirelaw05.UnitMonotone', WHERE WHAT IT READS IS OF BULK AT MOST 1048576: true; the input reads as it did. -/
def unitMonotoneUptoRow : OpenClaim := { program := "ytblnabilodbceaadoor", sum := "404afafd04631733d37b9daec81bcac6de633cbdb034e057364fb89c867ba66f", func := "newswire/newswirelaw05.UnitMonotone", spec := "unitMonotone", unfollowed := true, recurses := true, named := ["newswire/unit.measures", "newswire/unit.outward"], apart := false, laid := [("newswire/unit.measures", laid_newswire_unit_measures), ("newswire/unit.outward", laid_newswire_unit_outward)], narrowed := true }
def UnitMonotoneUptoSaid : Prop := unitMonotoneUptoRow.holds Tryd.pinned (OpenSpec.upto unitMonotoneSpec)

/-- 'newswirelaw05.UnitSums', WHERE WHAT IT READS IS OF BULK AT MOST 1048576: true; the input reads as it did. -/
def unitSumsUptoRow : OpenClaim := { program := "ytblnabilodbceaadoor", sum := "404afafd04631733d37b9daec81bcac6de633cbdb034e057364fb89c867ba66f", func := "newswire/newswirelaw05.UnitSums", spec := "unitSums", unfollowed := true, recurses := true, named := ["newswire/unit.measures", "newswire/unit.outward"], apart := false, laid := [("newswire/unit.measures", laid_newswire_unit_measures), ("newswire/unit.outward", laid_newswire_unit_outward)], narrowed := true }
def UnitSumsUptoSaid : Prop := unitSumsUptoRow.holds Tryd.pinned (OpenSpec.upto unitSumsSpec)

/-- 'newswirelaw05.UnitCoarser', WHERE WHAT IT READS IS OF BULK AT MOST 1048576: true; the input reads as it did. -/
def unitCoarserUptoRow : OpenClaim := { program := "ytblnabilodbceaadoor", sum := "404afafd04631733d37b9daec81bcac6de633cbdb034e057364fb89c867ba66f", func := "newswire/newswirelaw05.UnitCoarser", spec := "unitCoarser", unfollowed := true, recurses := true, named := ["newswire/unit.measures", "newswire/unit.outward"], apart := false, laid := [("newswire/unit.measures", laid_newswire_unit_measures), ("newswire/unit.outward", laid_newswire_unit_outward)], narrowed := true }
def UnitCoarserUptoSaid : Prop := unitCoarserUptoRow.holds Tryd.pinned (OpenSpec.upto unitCoarserSpec)

end Rows
end Go.Proofs.YtblnabilodbceaaDoor
