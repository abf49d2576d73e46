/-
  DERIVED. GIVEN WITH THE SEED: THE CARDS: each row of YtbadbkdpnbacnaaDoorRows.lean that lists a variable, with what it lists TIED to the program's text (the seventh form; the later family's looks); each row that meets fmt, with fmt's text TOLD by the authors' own Lean function (tested against real Go, not proved from fmt's source: count such statements apart). THE CARD IS WHAT COUNTS. Prove the row's statement (the work); the ties are given (YtbadbkdpnbacnaaDoorTie.lean); close each card by the builder's one call (the guide's Derived/Test/ToyasCard.lean, 'card_holds'). Laid BY PROGRAM, IN A SANDBOX (cutbox-door.mjs). By AI agents, Wed Nov 11 2026. No macro, syntax, notation, axiom, sorry.
-/
import Derived.Test.YtbadbkdpnbacnaaDoorRows
import GoSem.ClaimSeven
namespace Go.Proofs.YtbadbkdpnbacnaaDoor
namespace Rows

/-- THE TIED CARD OF 'rubriclaw15.OpsFits'. -/
def opsFitsCard : Claim7 := { stood := { row := opsFitsRow, standIns := [], harness := (true, "a6335e3c6fdc9e67cd156d874a1bf33355fa567675fcfb79df66c9ef16d758fb"), looks := false }, kinds := [], alts := [], laidByText := true, laidKinds := [.data, .pinned], laidTests := true, laidLooks := .later }
def OpsFitsCardSaid : Prop := Claim7.holds Tryd.pinned (.plain (OpenSpec.ofChange opsFitsSpec)) opsFitsCard

/-- THE TIED CARD OF 'rubriclaw15.OpsCut'. -/
def opsCutCard : Claim7 := { stood := { row := opsCutRow, standIns := [], harness := (true, "a6335e3c6fdc9e67cd156d874a1bf33355fa567675fcfb79df66c9ef16d758fb"), looks := false }, kinds := [], alts := [], laidByText := true, laidKinds := [.data, .pinned], laidTests := true, laidLooks := .later }
def OpsCutCardSaid : Prop := Claim7.holds Tryd.pinned (.plain (OpenSpec.ofChange opsCutSpec)) opsCutCard

/-- THE TIED CARD OF 'rubriclaw15.OpsShorter'. -/
def opsShorterCard : Claim7 := { stood := { row := opsShorterRow, standIns := [], harness := (true, "a6335e3c6fdc9e67cd156d874a1bf33355fa567675fcfb79df66c9ef16d758fb"), looks := false }, kinds := [], alts := [], laidByText := true, laidKinds := [.data, .pinned], laidTests := true, laidLooks := .later }
def OpsShorterCardSaid : Prop := Claim7.holds Tryd.pinned (.plain (OpenSpec.ofChange opsShorterSpec)) opsShorterCard

/-- THE TIED CARD OF 'rubriclaw18.CellsApart'. -/
def cellsApartCard : Claim7 := { stood := { row := cellsApartRow, standIns := [], harness := (true, "a6335e3c6fdc9e67cd156d874a1bf33355fa567675fcfb79df66c9ef16d758fb"), looks := false }, kinds := [], alts := [], laidByText := true, laidKinds := [.data, .pinned], laidTests := true, laidLooks := .later }
def CellsApartCardSaid : Prop := Claim7.holds Tryd.pinned (.plain (OpenSpec.ofChange cellsApartSpec)) cellsApartCard

/-- THE SECOND FORM's CARD OF 'rubriclaw15.OpsFits'. -/
def opsFitsUptoCard : Claim7 := { stood := { row := opsFitsUptoRow, standIns := [], harness := (true, "a6335e3c6fdc9e67cd156d874a1bf33355fa567675fcfb79df66c9ef16d758fb"), looks := false }, kinds := [], alts := [], laidByText := true, laidKinds := [.data, .pinned], laidTests := true, laidLooks := .later }
def OpsFitsUptoCardSaid : Prop := Claim7.holds Tryd.pinned (.plain (OpenSpec.upto opsFitsSpec)) opsFitsUptoCard

/-- THE SECOND FORM's CARD OF 'rubriclaw15.OpsCut'. -/
def opsCutUptoCard : Claim7 := { stood := { row := opsCutUptoRow, standIns := [], harness := (true, "a6335e3c6fdc9e67cd156d874a1bf33355fa567675fcfb79df66c9ef16d758fb"), looks := false }, kinds := [], alts := [], laidByText := true, laidKinds := [.data, .pinned], laidTests := true, laidLooks := .later }
def OpsCutUptoCardSaid : Prop := Claim7.holds Tryd.pinned (.plain (OpenSpec.upto opsCutSpec)) opsCutUptoCard

/-- THE SECOND FORM's CARD OF 'rubriclaw15.OpsShorter'. -/
def opsShorterUptoCard : Claim7 := { stood := { row := opsShorterUptoRow, standIns := [], harness := (true, "a6335e3c6fdc9e67cd156d874a1bf33355fa567675fcfb79df66c9ef16d758fb"), looks := false }, kinds := [], alts := [], laidByText := true, laidKinds := [.data, .pinned], laidTests := true, laidLooks := .later }
def OpsShorterUptoCardSaid : Prop := Claim7.holds Tryd.pinned (.plain (OpenSpec.upto opsShorterSpec)) opsShorterUptoCard

/-- THE SECOND FORM's CARD OF 'rubriclaw18.CellsApart'. -/
def cellsApartUptoCard : Claim7 := { stood := { row := cellsApartUptoRow, standIns := [], harness := (true, "a6335e3c6fdc9e67cd156d874a1bf33355fa567675fcfb79df66c9ef16d758fb"), looks := false }, kinds := [], alts := [], laidByText := true, laidKinds := [.data, .pinned], laidTests := true, laidLooks := .later }
def CellsApartUptoCardSaid : Prop := Claim7.holds Tryd.pinned (.plain (OpenSpec.upto cellsApartSpec)) cellsApartUptoCard
end Rows
end Go.Proofs.YtbadbkdpnbacnaaDoor
