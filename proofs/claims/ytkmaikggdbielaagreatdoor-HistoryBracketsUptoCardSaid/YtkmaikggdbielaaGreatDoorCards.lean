/-
  DERIVED. GIVEN WITH THE SEED: THE CARDS: each row of YtkmaikggdbielaaGreatDoorRows.lean that lists a variable, with what it lists TIED to the program's text (the seventh form; the later family's looks); each row that meets fmt, with fmt's text TOLD by the authors' own Lean function (tested against real Go, not proved from fmt's source: count such statements apart). THE CARD IS WHAT COUNTS. Prove the row's statement (the work); the ties are given (YtkmaikggdbielaaGreatDoorTie.lean); close each card by the builder's one call (the guide's Derived/Test/ToyasCard.lean, 'card_holds'). Laid BY PROGRAM, IN A SANDBOX (cutbox-door.mjs). By AI agents, Wed Nov 11 2026. No macro, syntax, notation, axiom, sorry.
-/
import Derived.Test.YtkmaikggdbielaaGreatDoorRows
import GoSem.ClaimSeven
namespace Go.Proofs.YtkmaikggdbielaaGreatDoor
namespace Rows

/-- THE TIED CARD OF 'rubriclaw27.HistoryBack'. -/
def historyBackCard : Claim7 := { stood := { row := historyBackRow, standIns := [], harness := (true, "f4718212d0ad33a6c8a96147c1e44f5d82a3c3aec4b92d84ca3da6073d3281b9"), looks := false }, kinds := [], alts := [], laidByText := true, laidKinds := [.data, .pinned], laidTests := true, laidLooks := .later }
def HistoryBackCardSaid : Prop := Claim7.holds Tryz.pinned (.plain (OpenSpec.ofChange historyBackSpec)) historyBackCard

/-- THE TIED CARD OF 'rubriclaw27.HistoryEmpties'. -/
def historyEmptiesCard : Claim7 := { stood := { row := historyEmptiesRow, standIns := [], harness := (true, "f4718212d0ad33a6c8a96147c1e44f5d82a3c3aec4b92d84ca3da6073d3281b9"), looks := false }, kinds := [], alts := [], laidByText := true, laidKinds := [.data, .pinned], laidTests := true, laidLooks := .later }
def HistoryEmptiesCardSaid : Prop := Claim7.holds Tryz.pinned (.plain (OpenSpec.ofChange historyEmptiesSpec)) historyEmptiesCard

/-- THE TIED CARD OF 'rubriclaw27.HistoryPlays'. -/
def historyPlaysCard : Claim7 := { stood := { row := historyPlaysRow, standIns := [], harness := (true, "f4718212d0ad33a6c8a96147c1e44f5d82a3c3aec4b92d84ca3da6073d3281b9"), looks := false }, kinds := [], alts := [], laidByText := true, laidKinds := [.data, .pinned], laidTests := true, laidLooks := .later }
def HistoryPlaysCardSaid : Prop := Claim7.holds Tryz.pinned (.plain (OpenSpec.ofChange historyPlaysSpec)) historyPlaysCard

/-- THE TIED CARD OF 'rubriclaw27.HistoryNone'. -/
def historyNoneCard : Claim7 := { stood := { row := historyNoneRow, standIns := [], harness := (true, "f4718212d0ad33a6c8a96147c1e44f5d82a3c3aec4b92d84ca3da6073d3281b9"), looks := false }, kinds := [], alts := [], laidByText := true, laidKinds := [.data, .pinned], laidTests := true, laidLooks := .later }
def HistoryNoneCardSaid : Prop := Claim7.holds Tryz.pinned (.plain (OpenSpec.ofChange historyNoneSpec)) historyNoneCard

/-- THE TIED CARD OF 'rubriclaw27.HistoryBrackets'. -/
def historyBracketsCard : Claim7 := { stood := { row := historyBracketsRow, standIns := [], harness := (true, "f4718212d0ad33a6c8a96147c1e44f5d82a3c3aec4b92d84ca3da6073d3281b9"), looks := false }, kinds := [], alts := [], laidByText := true, laidKinds := [.data, .pinned], laidTests := true, laidLooks := .later }
def HistoryBracketsCardSaid : Prop := Claim7.holds Tryz.pinned (.plain (OpenSpec.ofChange historyBracketsSpec)) historyBracketsCard

/-- THE TIED CARD OF 'rubriclaw27.HistoryMost'. -/
def historyMostCard : Claim7 := { stood := { row := historyMostRow, standIns := [], harness := (true, "f4718212d0ad33a6c8a96147c1e44f5d82a3c3aec4b92d84ca3da6073d3281b9"), looks := false }, kinds := [], alts := [], laidByText := true, laidKinds := [.data, .pinned], laidTests := true, laidLooks := .later }
def HistoryMostCardSaid : Prop := Claim7.holds Tryz.pinned (.plain (OpenSpec.ofChange historyMostSpec)) historyMostCard

/-- THE SECOND FORM's CARD OF 'rubriclaw27.HistoryBack'. -/
def historyBackUptoCard : Claim7 := { stood := { row := historyBackUptoRow, standIns := [], harness := (true, "f4718212d0ad33a6c8a96147c1e44f5d82a3c3aec4b92d84ca3da6073d3281b9"), looks := false }, kinds := [], alts := [], laidByText := true, laidKinds := [.data, .pinned], laidTests := true, laidLooks := .later }
def HistoryBackUptoCardSaid : Prop := Claim7.holds Tryz.pinned (.plain (OpenSpec.upto historyBackSpec)) historyBackUptoCard

/-- THE SECOND FORM's CARD OF 'rubriclaw27.HistoryEmpties'. -/
def historyEmptiesUptoCard : Claim7 := { stood := { row := historyEmptiesUptoRow, standIns := [], harness := (true, "f4718212d0ad33a6c8a96147c1e44f5d82a3c3aec4b92d84ca3da6073d3281b9"), looks := false }, kinds := [], alts := [], laidByText := true, laidKinds := [.data, .pinned], laidTests := true, laidLooks := .later }
def HistoryEmptiesUptoCardSaid : Prop := Claim7.holds Tryz.pinned (.plain (OpenSpec.upto historyEmptiesSpec)) historyEmptiesUptoCard

/-- THE SECOND FORM's CARD OF 'rubriclaw27.HistoryPlays'. -/
def historyPlaysUptoCard : Claim7 := { stood := { row := historyPlaysUptoRow, standIns := [], harness := (true, "f4718212d0ad33a6c8a96147c1e44f5d82a3c3aec4b92d84ca3da6073d3281b9"), looks := false }, kinds := [], alts := [], laidByText := true, laidKinds := [.data, .pinned], laidTests := true, laidLooks := .later }
def HistoryPlaysUptoCardSaid : Prop := Claim7.holds Tryz.pinned (.plain (OpenSpec.upto historyPlaysSpec)) historyPlaysUptoCard

/-- THE SECOND FORM's CARD OF 'rubriclaw27.HistoryNone'. -/
def historyNoneUptoCard : Claim7 := { stood := { row := historyNoneUptoRow, standIns := [], harness := (true, "f4718212d0ad33a6c8a96147c1e44f5d82a3c3aec4b92d84ca3da6073d3281b9"), looks := false }, kinds := [], alts := [], laidByText := true, laidKinds := [.data, .pinned], laidTests := true, laidLooks := .later }
def HistoryNoneUptoCardSaid : Prop := Claim7.holds Tryz.pinned (.plain (OpenSpec.upto historyNoneSpec)) historyNoneUptoCard

/-- THE SECOND FORM's CARD OF 'rubriclaw27.HistoryBrackets'. -/
def historyBracketsUptoCard : Claim7 := { stood := { row := historyBracketsUptoRow, standIns := [], harness := (true, "f4718212d0ad33a6c8a96147c1e44f5d82a3c3aec4b92d84ca3da6073d3281b9"), looks := false }, kinds := [], alts := [], laidByText := true, laidKinds := [.data, .pinned], laidTests := true, laidLooks := .later }
def HistoryBracketsUptoCardSaid : Prop := Claim7.holds Tryz.pinned (.plain (OpenSpec.upto historyBracketsSpec)) historyBracketsUptoCard

/-- THE SECOND FORM's CARD OF 'rubriclaw27.HistoryMost'. -/
def historyMostUptoCard : Claim7 := { stood := { row := historyMostUptoRow, standIns := [], harness := (true, "f4718212d0ad33a6c8a96147c1e44f5d82a3c3aec4b92d84ca3da6073d3281b9"), looks := false }, kinds := [], alts := [], laidByText := true, laidKinds := [.data, .pinned], laidTests := true, laidLooks := .later }
def HistoryMostUptoCardSaid : Prop := Claim7.holds Tryz.pinned (.plain (OpenSpec.upto historyMostSpec)) historyMostUptoCard
end Rows
end Go.Proofs.YtkmaikggdbielaaGreatDoor
