/-
  DERIVED. GIVEN WITH THE SEED: THE CARDS: each row of YthjiodeaepigmaaDoorRows.lean that lists a variable, with what it lists TIED to the program's text (the seventh form; the later family's looks); each row that meets fmt, with fmt's text TOLD by the authors' own Lean function (tested against real Go, not proved from fmt's source: count such statements apart). THE CARD IS WHAT COUNTS. Prove the row's statement (the work); the ties are given (YthjiodeaepigmaaDoorTie.lean); close each card by the builder's one call (the guide's Derived/Test/ToyasCard.lean, 'card_holds'). Laid BY PROGRAM, IN A SANDBOX (cutbox-door.mjs). By AI agents, Wed Nov 11 2026. No macro, syntax, notation, axiom, sorry.
-/
import Derived.Test.YthjiodeaepigmaaDoorRows
import GoSem.ClaimSeven
namespace Go.Proofs.YthjiodeaepigmaaDoor
namespace Rows

/-- THE TIED CARD OF 'newswirelaw10.LabelMatchesReference'. -/
def labelMatchesReferenceCard : Claim7 := { stood := { row := labelMatchesReferenceRow, standIns := [], harness := (true, "9b4ba3c6eadd8e8366876ecfa3ccc34ce6e63ef6a16873cbd311083cb034b51b"), looks := true }, kinds := [], alts := [], laidByText := true, laidKinds := [.funcs], laidTests := true, laidLooks := .later }
def LabelMatchesReferenceCardSaid : Prop := Claim7.holds Tryd.pinned (.plain (OpenSpec.ofChange labelMatchesReferenceSpec)) labelMatchesReferenceCard

/-- THE TIED CARD OF 'newswirelaw10.LabelCode'. -/
def labelCodeCard : Claim7 := { stood := { row := labelCodeRow, standIns := [], harness := (true, "9b4ba3c6eadd8e8366876ecfa3ccc34ce6e63ef6a16873cbd311083cb034b51b"), looks := true }, kinds := [], alts := [], laidByText := true, laidKinds := [.funcs], laidTests := true, laidLooks := .later }
def LabelCodeCardSaid : Prop := Claim7.holds Tryd.pinned (.plain (OpenSpec.ofChange labelCodeSpec)) labelCodeCard

/-- THE TIED CARD OF 'newswirelaw10.LabelLattice'. -/
def labelLatticeCard : Claim7 := { stood := { row := labelLatticeRow, standIns := [], harness := (true, "9b4ba3c6eadd8e8366876ecfa3ccc34ce6e63ef6a16873cbd311083cb034b51b"), looks := true }, kinds := [], alts := [], laidByText := true, laidKinds := [.funcs], laidTests := true, laidLooks := .later }
def LabelLatticeCardSaid : Prop := Claim7.holds Tryd.pinned (.plain (OpenSpec.ofChange labelLatticeSpec)) labelLatticeCard

/-- THE TIED CARD OF 'newswirelaw10.LabelJoins'. -/
def labelJoinsCard : Claim7 := { stood := { row := labelJoinsRow, standIns := [], harness := (true, "9b4ba3c6eadd8e8366876ecfa3ccc34ce6e63ef6a16873cbd311083cb034b51b"), looks := true }, kinds := [], alts := [], laidByText := true, laidKinds := [.funcs], laidTests := true, laidLooks := .later }
def LabelJoinsCardSaid : Prop := Claim7.holds Tryd.pinned (.plain (OpenSpec.ofChange labelJoinsSpec)) labelJoinsCard

/-- THE TIED CARD OF 'newswirelaw10.LabelSeparates'. -/
def labelSeparatesCard : Claim7 := { stood := { row := labelSeparatesRow, standIns := [], harness := (true, "9b4ba3c6eadd8e8366876ecfa3ccc34ce6e63ef6a16873cbd311083cb034b51b"), looks := true }, kinds := [], alts := [], laidByText := true, laidKinds := [.funcs], laidTests := true, laidLooks := .later }
def LabelSeparatesCardSaid : Prop := Claim7.holds Tryd.pinned (.plain (OpenSpec.ofChange labelSeparatesSpec)) labelSeparatesCard

/-- THE TIED CARD OF 'newswirelaw10.LabelClocks'. -/
def labelClocksCard : Claim7 := { stood := { row := labelClocksRow, standIns := [], harness := (true, "9b4ba3c6eadd8e8366876ecfa3ccc34ce6e63ef6a16873cbd311083cb034b51b"), looks := true }, kinds := [], alts := [], laidByText := true, laidKinds := [.funcs], laidTests := true, laidLooks := .later }
def LabelClocksCardSaid : Prop := Claim7.holds Tryd.pinned (.plain (OpenSpec.ofChange labelClocksSpec)) labelClocksCard

/-- THE TIED CARD OF 'newswirelaw10.LabelOnceOpen'. -/
def labelOnceOpenCard : Claim7 := { stood := { row := labelOnceOpenRow, standIns := [], harness := (true, "9b4ba3c6eadd8e8366876ecfa3ccc34ce6e63ef6a16873cbd311083cb034b51b"), looks := true }, kinds := [], alts := [], laidByText := true, laidKinds := [.funcs], laidTests := true, laidLooks := .later }
def LabelOnceOpenCardSaid : Prop := Claim7.holds Tryd.pinned (.plain (OpenSpec.ofChange labelOnceOpenSpec)) labelOnceOpenCard

/-- THE TIED CARD OF 'newswirelaw10.LabelKeys'. -/
def labelKeysCard : Claim7 := { stood := { row := labelKeysRow, standIns := [], harness := (true, "9b4ba3c6eadd8e8366876ecfa3ccc34ce6e63ef6a16873cbd311083cb034b51b"), looks := true }, kinds := [], alts := [], laidByText := true, laidKinds := [.funcs], laidTests := true, laidLooks := .later }
def LabelKeysCardSaid : Prop := Claim7.holds Tryd.pinned (.plain (OpenSpec.ofChange labelKeysSpec)) labelKeysCard

/-- THE SECOND FORM's CARD OF 'newswirelaw10.LabelMatchesReference'. -/
def labelMatchesReferenceUptoCard : Claim7 := { stood := { row := labelMatchesReferenceUptoRow, standIns := [], harness := (true, "9b4ba3c6eadd8e8366876ecfa3ccc34ce6e63ef6a16873cbd311083cb034b51b"), looks := true }, kinds := [], alts := [], laidByText := true, laidKinds := [.funcs], laidTests := true, laidLooks := .later }
def LabelMatchesReferenceUptoCardSaid : Prop := Claim7.holds Tryd.pinned (.plain (OpenSpec.upto labelMatchesReferenceSpec)) labelMatchesReferenceUptoCard

/-- THE SECOND FORM's CARD OF 'newswirelaw10.LabelCode'. -/
def labelCodeUptoCard : Claim7 := { stood := { row := labelCodeUptoRow, standIns := [], harness := (true, "9b4ba3c6eadd8e8366876ecfa3ccc34ce6e63ef6a16873cbd311083cb034b51b"), looks := true }, kinds := [], alts := [], laidByText := true, laidKinds := [.funcs], laidTests := true, laidLooks := .later }
def LabelCodeUptoCardSaid : Prop := Claim7.holds Tryd.pinned (.plain (OpenSpec.upto labelCodeSpec)) labelCodeUptoCard

/-- THE SECOND FORM's CARD OF 'newswirelaw10.LabelLattice'. -/
def labelLatticeUptoCard : Claim7 := { stood := { row := labelLatticeUptoRow, standIns := [], harness := (true, "9b4ba3c6eadd8e8366876ecfa3ccc34ce6e63ef6a16873cbd311083cb034b51b"), looks := true }, kinds := [], alts := [], laidByText := true, laidKinds := [.funcs], laidTests := true, laidLooks := .later }
def LabelLatticeUptoCardSaid : Prop := Claim7.holds Tryd.pinned (.plain (OpenSpec.upto labelLatticeSpec)) labelLatticeUptoCard

/-- THE SECOND FORM's CARD OF 'newswirelaw10.LabelJoins'. -/
def labelJoinsUptoCard : Claim7 := { stood := { row := labelJoinsUptoRow, standIns := [], harness := (true, "9b4ba3c6eadd8e8366876ecfa3ccc34ce6e63ef6a16873cbd311083cb034b51b"), looks := true }, kinds := [], alts := [], laidByText := true, laidKinds := [.funcs], laidTests := true, laidLooks := .later }
def LabelJoinsUptoCardSaid : Prop := Claim7.holds Tryd.pinned (.plain (OpenSpec.upto labelJoinsSpec)) labelJoinsUptoCard

/-- THE SECOND FORM's CARD OF 'newswirelaw10.LabelSeparates'. -/
def labelSeparatesUptoCard : Claim7 := { stood := { row := labelSeparatesUptoRow, standIns := [], harness := (true, "9b4ba3c6eadd8e8366876ecfa3ccc34ce6e63ef6a16873cbd311083cb034b51b"), looks := true }, kinds := [], alts := [], laidByText := true, laidKinds := [.funcs], laidTests := true, laidLooks := .later }
def LabelSeparatesUptoCardSaid : Prop := Claim7.holds Tryd.pinned (.plain (OpenSpec.upto labelSeparatesSpec)) labelSeparatesUptoCard

/-- THE SECOND FORM's CARD OF 'newswirelaw10.LabelClocks'. -/
def labelClocksUptoCard : Claim7 := { stood := { row := labelClocksUptoRow, standIns := [], harness := (true, "9b4ba3c6eadd8e8366876ecfa3ccc34ce6e63ef6a16873cbd311083cb034b51b"), looks := true }, kinds := [], alts := [], laidByText := true, laidKinds := [.funcs], laidTests := true, laidLooks := .later }
def LabelClocksUptoCardSaid : Prop := Claim7.holds Tryd.pinned (.plain (OpenSpec.upto labelClocksSpec)) labelClocksUptoCard

/-- THE SECOND FORM's CARD OF 'newswirelaw10.LabelOnceOpen'. -/
def labelOnceOpenUptoCard : Claim7 := { stood := { row := labelOnceOpenUptoRow, standIns := [], harness := (true, "9b4ba3c6eadd8e8366876ecfa3ccc34ce6e63ef6a16873cbd311083cb034b51b"), looks := true }, kinds := [], alts := [], laidByText := true, laidKinds := [.funcs], laidTests := true, laidLooks := .later }
def LabelOnceOpenUptoCardSaid : Prop := Claim7.holds Tryd.pinned (.plain (OpenSpec.upto labelOnceOpenSpec)) labelOnceOpenUptoCard

/-- THE SECOND FORM's CARD OF 'newswirelaw10.LabelKeys'. -/
def labelKeysUptoCard : Claim7 := { stood := { row := labelKeysUptoRow, standIns := [], harness := (true, "9b4ba3c6eadd8e8366876ecfa3ccc34ce6e63ef6a16873cbd311083cb034b51b"), looks := true }, kinds := [], alts := [], laidByText := true, laidKinds := [.funcs], laidTests := true, laidLooks := .later }
def LabelKeysUptoCardSaid : Prop := Claim7.holds Tryd.pinned (.plain (OpenSpec.upto labelKeysSpec)) labelKeysUptoCard
end Rows
end Go.Proofs.YthjiodeaepigmaaDoor
