/-
  DERIVED. GIVEN WITH THE SEED: THE CARDS: each row of YtblnabilodbceaaDoorRows.lean that lists a variable, with what it lists TIED to the program's text (the seventh form; the later family's looks); each row that meets fmt, with fmt's text TOLD by the authors' own Lean function (tested against real Go, not proved from fmt's source: count such statements apart). THE CARD IS WHAT COUNTS. Prove the row's statement (the work); the ties are given (YtblnabilodbceaaDoorTie.lean); close each card by the builder's one call (the guide's Derived/Test/ToyasCard.lean, 'card_holds'). Laid BY PROGRAM, IN A SANDBOX (cutbox-door.mjs). By AI agents, Wed Nov 11 2026. No macro, syntax, notation, axiom, sorry.
-/
import Derived.Test.YtblnabilodbceaaDoorRows
import GoSem.ClaimSeven
namespace Go.Proofs.YtblnabilodbceaaDoor
namespace Rows

/-- THE TIED CARD OF 'newswirelaw05.UnitMatchesReference'. -/
def unitMatchesReferenceCard : Claim7 := { stood := { row := unitMatchesReferenceRow, standIns := [], harness := (true, "a7c722b547e07662060bca26ee104af9724d8395da2711be96f7bb214d90cd94"), looks := false }, kinds := [], alts := [], laidByText := true, laidKinds := [.data, .funcs], laidTests := true, laidLooks := .later }
def UnitMatchesReferenceCardSaid : Prop := Claim7.holds Tryd.pinned (.plain (OpenSpec.ofChange unitMatchesReferenceSpec)) unitMatchesReferenceCard

/-- THE TIED CARD OF 'newswirelaw05.UnitOutward'. -/
def unitOutwardCard : Claim7 := { stood := { row := unitOutwardRow, standIns := [], harness := (true, "a7c722b547e07662060bca26ee104af9724d8395da2711be96f7bb214d90cd94"), looks := false }, kinds := [], alts := [], laidByText := true, laidKinds := [.data, .funcs], laidTests := true, laidLooks := .later }
def UnitOutwardCardSaid : Prop := Claim7.holds Tryd.pinned (.plain (OpenSpec.ofChange unitOutwardSpec)) unitOutwardCard

/-- THE TIED CARD OF 'newswirelaw05.UnitBack'. -/
def unitBackCard : Claim7 := { stood := { row := unitBackRow, standIns := [], harness := (true, "a7c722b547e07662060bca26ee104af9724d8395da2711be96f7bb214d90cd94"), looks := false }, kinds := [], alts := [], laidByText := true, laidKinds := [.data, .funcs], laidTests := true, laidLooks := .later }
def UnitBackCardSaid : Prop := Claim7.holds Tryd.pinned (.plain (OpenSpec.ofChange unitBackSpec)) unitBackCard

/-- THE TIED CARD OF 'newswirelaw05.UnitMonotone'. -/
def unitMonotoneCard : Claim7 := { stood := { row := unitMonotoneRow, standIns := [], harness := (true, "a7c722b547e07662060bca26ee104af9724d8395da2711be96f7bb214d90cd94"), looks := false }, kinds := [], alts := [], laidByText := true, laidKinds := [.data, .funcs], laidTests := true, laidLooks := .later }
def UnitMonotoneCardSaid : Prop := Claim7.holds Tryd.pinned (.plain (OpenSpec.ofChange unitMonotoneSpec)) unitMonotoneCard

/-- THE TIED CARD OF 'newswirelaw05.UnitSums'. -/
def unitSumsCard : Claim7 := { stood := { row := unitSumsRow, standIns := [], harness := (true, "a7c722b547e07662060bca26ee104af9724d8395da2711be96f7bb214d90cd94"), looks := false }, kinds := [], alts := [], laidByText := true, laidKinds := [.data, .funcs], laidTests := true, laidLooks := .later }
def UnitSumsCardSaid : Prop := Claim7.holds Tryd.pinned (.plain (OpenSpec.ofChange unitSumsSpec)) unitSumsCard

/-- THE TIED CARD OF 'newswirelaw05.UnitCoarser'. -/
def unitCoarserCard : Claim7 := { stood := { row := unitCoarserRow, standIns := [], harness := (true, "a7c722b547e07662060bca26ee104af9724d8395da2711be96f7bb214d90cd94"), looks := false }, kinds := [], alts := [], laidByText := true, laidKinds := [.data, .funcs], laidTests := true, laidLooks := .later }
def UnitCoarserCardSaid : Prop := Claim7.holds Tryd.pinned (.plain (OpenSpec.ofChange unitCoarserSpec)) unitCoarserCard

/-- THE SECOND FORM's CARD OF 'newswirelaw05.UnitMatchesReference'. -/
def unitMatchesReferenceUptoCard : Claim7 := { stood := { row := unitMatchesReferenceUptoRow, standIns := [], harness := (true, "a7c722b547e07662060bca26ee104af9724d8395da2711be96f7bb214d90cd94"), looks := false }, kinds := [], alts := [], laidByText := true, laidKinds := [.data, .funcs], laidTests := true, laidLooks := .later }
def UnitMatchesReferenceUptoCardSaid : Prop := Claim7.holds Tryd.pinned (.plain (OpenSpec.upto unitMatchesReferenceSpec)) unitMatchesReferenceUptoCard

/-- THE SECOND FORM's CARD OF 'newswirelaw05.UnitOutward'. -/
def unitOutwardUptoCard : Claim7 := { stood := { row := unitOutwardUptoRow, standIns := [], harness := (true, "a7c722b547e07662060bca26ee104af9724d8395da2711be96f7bb214d90cd94"), looks := false }, kinds := [], alts := [], laidByText := true, laidKinds := [.data, .funcs], laidTests := true, laidLooks := .later }
def UnitOutwardUptoCardSaid : Prop := Claim7.holds Tryd.pinned (.plain (OpenSpec.upto unitOutwardSpec)) unitOutwardUptoCard

/-- THE SECOND FORM's CARD OF 'newswirelaw05.UnitBack'. -/
def unitBackUptoCard : Claim7 := { stood := { row := unitBackUptoRow, standIns := [], harness := (true, "a7c722b547e07662060bca26ee104af9724d8395da2711be96f7bb214d90cd94"), looks := false }, kinds := [], alts := [], laidByText := true, laidKinds := [.data, .funcs], laidTests := true, laidLooks := .later }
def UnitBackUptoCardSaid : Prop := Claim7.holds Tryd.pinned (.plain (OpenSpec.upto unitBackSpec)) unitBackUptoCard

/-- THE SECOND FORM's CARD OF 'newswirelaw05.UnitMonotone'. -/
def unitMonotoneUptoCard : Claim7 := { stood := { row := unitMonotoneUptoRow, standIns := [], harness := (true, "a7c722b547e07662060bca26ee104af9724d8395da2711be96f7bb214d90cd94"), looks := false }, kinds := [], alts := [], laidByText := true, laidKinds := [.data, .funcs], laidTests := true, laidLooks := .later }
def UnitMonotoneUptoCardSaid : Prop := Claim7.holds Tryd.pinned (.plain (OpenSpec.upto unitMonotoneSpec)) unitMonotoneUptoCard

/-- THE SECOND FORM's CARD OF 'newswirelaw05.UnitSums'. -/
def unitSumsUptoCard : Claim7 := { stood := { row := unitSumsUptoRow, standIns := [], harness := (true, "a7c722b547e07662060bca26ee104af9724d8395da2711be96f7bb214d90cd94"), looks := false }, kinds := [], alts := [], laidByText := true, laidKinds := [.data, .funcs], laidTests := true, laidLooks := .later }
def UnitSumsUptoCardSaid : Prop := Claim7.holds Tryd.pinned (.plain (OpenSpec.upto unitSumsSpec)) unitSumsUptoCard

/-- THE SECOND FORM's CARD OF 'newswirelaw05.UnitCoarser'. -/
def unitCoarserUptoCard : Claim7 := { stood := { row := unitCoarserUptoRow, standIns := [], harness := (true, "a7c722b547e07662060bca26ee104af9724d8395da2711be96f7bb214d90cd94"), looks := false }, kinds := [], alts := [], laidByText := true, laidKinds := [.data, .funcs], laidTests := true, laidLooks := .later }
def UnitCoarserUptoCardSaid : Prop := Claim7.holds Tryd.pinned (.plain (OpenSpec.upto unitCoarserSpec)) unitCoarserUptoCard
end Rows
end Go.Proofs.YtblnabilodbceaaDoor
