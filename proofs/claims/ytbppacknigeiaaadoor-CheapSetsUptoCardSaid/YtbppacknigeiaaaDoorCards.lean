/-
  DERIVED. GIVEN WITH THE SEED: THE CARDS: each row of YtbppacknigeiaaaDoorRows.lean that lists a variable, with what it lists TIED to the program's text (the seventh form; the later family's looks); each row that meets fmt, with fmt's text TOLD by the authors' own Lean function (tested against real Go, not proved from fmt's source: count such statements apart). THE CARD IS WHAT COUNTS. Prove the row's statement (the work); the ties are given (YtbppacknigeiaaaDoorTie.lean); close each card by the builder's one call (the guide's Derived/Test/ToyasCard.lean, 'card_holds'). Laid BY PROGRAM, IN A SANDBOX (cutbox-door.mjs). By AI agents, Wed Nov 11 2026. No macro, syntax, notation, axiom, sorry.
-/
import Derived.Test.YtbppacknigeiaaaDoorRows
import GoSem.ClaimSeven
namespace Go.Proofs.YtbppacknigeiaaaDoor
namespace Rows

/-- THE TIED CARD OF 'colophonlaw21.CheapSets'. -/
def cheapSetsCard : Claim7 := { stood := { row := cheapSetsRow, standIns := [], harness := (true, "c2666c0077606733ebd3c1c005ce2bc74bc91e34c030e28ff5822dae7854c888"), looks := false }, kinds := [], alts := [], laidByText := true, laidKinds := [.data], laidTests := true, laidLooks := .later }
def CheapSetsCardSaid : Prop := Claim7.holds Tryd.pinned (.plain (OpenSpec.ofChange cheapSetsSpec)) cheapSetsCard

/-- THE TIED CARD OF 'colophonlaw21.CheapShort'. -/
def cheapShortCard : Claim7 := { stood := { row := cheapShortRow, standIns := [], harness := (true, "c2666c0077606733ebd3c1c005ce2bc74bc91e34c030e28ff5822dae7854c888"), looks := false }, kinds := [], alts := [], laidByText := true, laidKinds := [.data], laidTests := true, laidLooks := .later }
def CheapShortCardSaid : Prop := Claim7.holds Tryd.pinned (.plain (OpenSpec.ofChange cheapShortSpec)) cheapShortCard

/-- THE TIED CARD OF 'colophonlaw21.CheapBehind'. -/
def cheapBehindCard : Claim7 := { stood := { row := cheapBehindRow, standIns := [], harness := (true, "c2666c0077606733ebd3c1c005ce2bc74bc91e34c030e28ff5822dae7854c888"), looks := false }, kinds := [], alts := [], laidByText := true, laidKinds := [.data], laidTests := true, laidLooks := .later }
def CheapBehindCardSaid : Prop := Claim7.holds Tryd.pinned (.plain (OpenSpec.ofChange cheapBehindSpec)) cheapBehindCard

/-- THE TIED CARD OF 'colophonlaw21.CheapRise'. -/
def cheapRiseCard : Claim7 := { stood := { row := cheapRiseRow, standIns := [], harness := (true, "c2666c0077606733ebd3c1c005ce2bc74bc91e34c030e28ff5822dae7854c888"), looks := false }, kinds := [], alts := [], laidByText := true, laidKinds := [.data], laidTests := true, laidLooks := .later }
def CheapRiseCardSaid : Prop := Claim7.holds Tryd.pinned (.plain (OpenSpec.ofChange cheapRiseSpec)) cheapRiseCard

/-- THE TIED CARD OF 'colophonlaw21.CheapKnown'. -/
def cheapKnownCard : Claim7 := { stood := { row := cheapKnownRow, standIns := [], harness := (true, "c2666c0077606733ebd3c1c005ce2bc74bc91e34c030e28ff5822dae7854c888"), looks := false }, kinds := [], alts := [], laidByText := true, laidKinds := [.data], laidTests := true, laidLooks := .later }
def CheapKnownCardSaid : Prop := Claim7.holds Tryd.pinned (.plain (OpenSpec.ofChange cheapKnownSpec)) cheapKnownCard

/-- THE TIED CARD OF 'colophonlaw21.CheapLeast'. -/
def cheapLeastCard : Claim7 := { stood := { row := cheapLeastRow, standIns := [], harness := (true, "c2666c0077606733ebd3c1c005ce2bc74bc91e34c030e28ff5822dae7854c888"), looks := false }, kinds := [], alts := [], laidByText := true, laidKinds := [.data], laidTests := true, laidLooks := .later }
def CheapLeastCardSaid : Prop := Claim7.holds Tryd.pinned (.plain (OpenSpec.ofChange cheapLeastSpec)) cheapLeastCard

/-- THE TIED CARD OF 'colophonlaw21.CheapBegins'. -/
def cheapBeginsCard : Claim7 := { stood := { row := cheapBeginsRow, standIns := [], harness := (true, "c2666c0077606733ebd3c1c005ce2bc74bc91e34c030e28ff5822dae7854c888"), looks := false }, kinds := [], alts := [], laidByText := true, laidKinds := [.data], laidTests := true, laidLooks := .later }
def CheapBeginsCardSaid : Prop := Claim7.holds Tryd.pinned (.plain (OpenSpec.ofChange cheapBeginsSpec)) cheapBeginsCard

/-- THE SECOND FORM's CARD OF 'colophonlaw21.CheapSets'. -/
def cheapSetsUptoCard : Claim7 := { stood := { row := cheapSetsUptoRow, standIns := [], harness := (true, "c2666c0077606733ebd3c1c005ce2bc74bc91e34c030e28ff5822dae7854c888"), looks := false }, kinds := [], alts := [], laidByText := true, laidKinds := [.data], laidTests := true, laidLooks := .later }
def CheapSetsUptoCardSaid : Prop := Claim7.holds Tryd.pinned (.plain (OpenSpec.upto cheapSetsSpec)) cheapSetsUptoCard

/-- THE SECOND FORM's CARD OF 'colophonlaw21.CheapShort'. -/
def cheapShortUptoCard : Claim7 := { stood := { row := cheapShortUptoRow, standIns := [], harness := (true, "c2666c0077606733ebd3c1c005ce2bc74bc91e34c030e28ff5822dae7854c888"), looks := false }, kinds := [], alts := [], laidByText := true, laidKinds := [.data], laidTests := true, laidLooks := .later }
def CheapShortUptoCardSaid : Prop := Claim7.holds Tryd.pinned (.plain (OpenSpec.upto cheapShortSpec)) cheapShortUptoCard

/-- THE SECOND FORM's CARD OF 'colophonlaw21.CheapBehind'. -/
def cheapBehindUptoCard : Claim7 := { stood := { row := cheapBehindUptoRow, standIns := [], harness := (true, "c2666c0077606733ebd3c1c005ce2bc74bc91e34c030e28ff5822dae7854c888"), looks := false }, kinds := [], alts := [], laidByText := true, laidKinds := [.data], laidTests := true, laidLooks := .later }
def CheapBehindUptoCardSaid : Prop := Claim7.holds Tryd.pinned (.plain (OpenSpec.upto cheapBehindSpec)) cheapBehindUptoCard

/-- THE SECOND FORM's CARD OF 'colophonlaw21.CheapRise'. -/
def cheapRiseUptoCard : Claim7 := { stood := { row := cheapRiseUptoRow, standIns := [], harness := (true, "c2666c0077606733ebd3c1c005ce2bc74bc91e34c030e28ff5822dae7854c888"), looks := false }, kinds := [], alts := [], laidByText := true, laidKinds := [.data], laidTests := true, laidLooks := .later }
def CheapRiseUptoCardSaid : Prop := Claim7.holds Tryd.pinned (.plain (OpenSpec.upto cheapRiseSpec)) cheapRiseUptoCard

/-- THE SECOND FORM's CARD OF 'colophonlaw21.CheapKnown'. -/
def cheapKnownUptoCard : Claim7 := { stood := { row := cheapKnownUptoRow, standIns := [], harness := (true, "c2666c0077606733ebd3c1c005ce2bc74bc91e34c030e28ff5822dae7854c888"), looks := false }, kinds := [], alts := [], laidByText := true, laidKinds := [.data], laidTests := true, laidLooks := .later }
def CheapKnownUptoCardSaid : Prop := Claim7.holds Tryd.pinned (.plain (OpenSpec.upto cheapKnownSpec)) cheapKnownUptoCard

/-- THE SECOND FORM's CARD OF 'colophonlaw21.CheapLeast'. -/
def cheapLeastUptoCard : Claim7 := { stood := { row := cheapLeastUptoRow, standIns := [], harness := (true, "c2666c0077606733ebd3c1c005ce2bc74bc91e34c030e28ff5822dae7854c888"), looks := false }, kinds := [], alts := [], laidByText := true, laidKinds := [.data], laidTests := true, laidLooks := .later }
def CheapLeastUptoCardSaid : Prop := Claim7.holds Tryd.pinned (.plain (OpenSpec.upto cheapLeastSpec)) cheapLeastUptoCard

/-- THE SECOND FORM's CARD OF 'colophonlaw21.CheapBegins'. -/
def cheapBeginsUptoCard : Claim7 := { stood := { row := cheapBeginsUptoRow, standIns := [], harness := (true, "c2666c0077606733ebd3c1c005ce2bc74bc91e34c030e28ff5822dae7854c888"), looks := false }, kinds := [], alts := [], laidByText := true, laidKinds := [.data], laidTests := true, laidLooks := .later }
def CheapBeginsUptoCardSaid : Prop := Claim7.holds Tryd.pinned (.plain (OpenSpec.upto cheapBeginsSpec)) cheapBeginsUptoCard
end Rows
end Go.Proofs.YtbppacknigeiaaaDoor
