/-
  DERIVED. GIVEN WITH THE SEED: THE CARDS: each row of YtlfnniipkdcpdaaDoorRows.lean that lists a variable, with what it lists TIED to the program's text (the seventh form; the later family's looks); each row that meets fmt, with fmt's text TOLD by the authors' own Lean function (tested against real Go, not proved from fmt's source: count such statements apart). THE CARD IS WHAT COUNTS. Prove the row's statement (the work); the ties are given (YtlfnniipkdcpdaaDoorTie.lean); close each card by the builder's one call (the guide's Derived/Test/ToyasCard.lean, 'card_holds'). Laid BY PROGRAM, IN A SANDBOX (cutbox-door.mjs). By AI agents, Wed Nov 11 2026. No macro, syntax, notation, axiom, sorry.
-/
import Derived.Test.YtlfnniipkdcpdaaDoorRows
import GoSem.ClaimSeven
namespace Go.Proofs.YtlfnniipkdcpdaaDoor
namespace Rows

/-- THE TIED CARD OF 'seedlinglaw04.EscapeTells'. -/
def escapeTellsCard : Claim7 := { stood := { row := escapeTellsRow, standIns := [], harness := (true, "12854fb3fca13f70ca214bd0fecca3ec28dfe8216971d0cfc4a2e50eba8bfd8b"), looks := true }, kinds := [], alts := [], laidByText := true, laidKinds := [.data, .data, .data, .data, .sentinel, .sentinel, .pinned], laidTests := true, laidLooks := .later }
def EscapeTellsCardSaid : Prop := Claim7.holds Tryd.pinned (.plain (OpenSpec.ofChange escapeTellsSpec)) escapeTellsCard

/-- THE TIED CARD OF 'seedlinglaw04.EscapeEnds'. -/
def escapeEndsCard : Claim7 := { stood := { row := escapeEndsRow, standIns := [], harness := (true, "12854fb3fca13f70ca214bd0fecca3ec28dfe8216971d0cfc4a2e50eba8bfd8b"), looks := true }, kinds := [], alts := [], laidByText := true, laidKinds := [.data, .data, .data, .data, .sentinel, .sentinel, .pinned], laidTests := true, laidLooks := .later }
def EscapeEndsCardSaid : Prop := Claim7.holds Tryd.pinned (.plain (OpenSpec.ofChange escapeEndsSpec)) escapeEndsCard

/-- THE TIED CARD OF 'seedlinglaw04.EscapeBack'. -/
def escapeBackCard : Claim7 := { stood := { row := escapeBackRow, standIns := [], harness := (true, "12854fb3fca13f70ca214bd0fecca3ec28dfe8216971d0cfc4a2e50eba8bfd8b"), looks := true }, kinds := [], alts := [], laidByText := true, laidKinds := [.data, .data, .data, .data, .sentinel, .sentinel, .pinned], laidTests := true, laidLooks := .later }
def EscapeBackCardSaid : Prop := Claim7.holds Tryd.pinned (.plain (OpenSpec.ofChange escapeBackSpec)) escapeBackCard

/-- THE TIED CARD OF 'seedlinglaw04.EscapeParts'. -/
def escapePartsCard : Claim7 := { stood := { row := escapePartsRow, standIns := [], harness := (true, "12854fb3fca13f70ca214bd0fecca3ec28dfe8216971d0cfc4a2e50eba8bfd8b"), looks := true }, kinds := [], alts := [], laidByText := true, laidKinds := [.data, .data, .data, .data, .sentinel, .sentinel, .pinned], laidTests := true, laidLooks := .later }
def EscapePartsCardSaid : Prop := Claim7.holds Tryd.pinned (.plain (OpenSpec.ofChange escapePartsSpec)) escapePartsCard

/-- THE SECOND FORM's CARD OF 'seedlinglaw04.EscapeTells'. -/
def escapeTellsUptoCard : Claim7 := { stood := { row := escapeTellsUptoRow, standIns := [], harness := (true, "12854fb3fca13f70ca214bd0fecca3ec28dfe8216971d0cfc4a2e50eba8bfd8b"), looks := true }, kinds := [], alts := [], laidByText := true, laidKinds := [.data, .data, .data, .data, .sentinel, .sentinel, .pinned], laidTests := true, laidLooks := .later }
def EscapeTellsUptoCardSaid : Prop := Claim7.holds Tryd.pinned (.plain (OpenSpec.upto escapeTellsSpec)) escapeTellsUptoCard

/-- THE SECOND FORM's CARD OF 'seedlinglaw04.EscapeEnds'. -/
def escapeEndsUptoCard : Claim7 := { stood := { row := escapeEndsUptoRow, standIns := [], harness := (true, "12854fb3fca13f70ca214bd0fecca3ec28dfe8216971d0cfc4a2e50eba8bfd8b"), looks := true }, kinds := [], alts := [], laidByText := true, laidKinds := [.data, .data, .data, .data, .sentinel, .sentinel, .pinned], laidTests := true, laidLooks := .later }
def EscapeEndsUptoCardSaid : Prop := Claim7.holds Tryd.pinned (.plain (OpenSpec.upto escapeEndsSpec)) escapeEndsUptoCard

/-- THE SECOND FORM's CARD OF 'seedlinglaw04.EscapeBack'. -/
def escapeBackUptoCard : Claim7 := { stood := { row := escapeBackUptoRow, standIns := [], harness := (true, "12854fb3fca13f70ca214bd0fecca3ec28dfe8216971d0cfc4a2e50eba8bfd8b"), looks := true }, kinds := [], alts := [], laidByText := true, laidKinds := [.data, .data, .data, .data, .sentinel, .sentinel, .pinned], laidTests := true, laidLooks := .later }
def EscapeBackUptoCardSaid : Prop := Claim7.holds Tryd.pinned (.plain (OpenSpec.upto escapeBackSpec)) escapeBackUptoCard

/-- THE SECOND FORM's CARD OF 'seedlinglaw04.EscapeParts'. -/
def escapePartsUptoCard : Claim7 := { stood := { row := escapePartsUptoRow, standIns := [], harness := (true, "12854fb3fca13f70ca214bd0fecca3ec28dfe8216971d0cfc4a2e50eba8bfd8b"), looks := true }, kinds := [], alts := [], laidByText := true, laidKinds := [.data, .data, .data, .data, .sentinel, .sentinel, .pinned], laidTests := true, laidLooks := .later }
def EscapePartsUptoCardSaid : Prop := Claim7.holds Tryd.pinned (.plain (OpenSpec.upto escapePartsSpec)) escapePartsUptoCard
end Rows
end Go.Proofs.YtlfnniipkdcpdaaDoor
