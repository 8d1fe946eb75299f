/-
  DERIVED. GIVEN WITH THE SEED: THE CARDS: each row of YtnfkcdnkmcifbaaGreatDoorRows.lean that lists a variable, with what it lists TIED to the program's text (the seventh form; the later family's looks); each row that meets fmt, with fmt's text TOLD by the authors' own Lean function (tested against real Go, not proved from fmt's source: count such statements apart). THE CARD IS WHAT COUNTS. Prove the row's statement (the work); the ties are given (YtnfkcdnkmcifbaaGreatDoorTie.lean); close each card by the builder's one call (the guide's Derived/Test/ToyasCard.lean, 'card_holds'). Laid BY PROGRAM, IN A SANDBOX (cutbox-door.mjs). By AI agents, Wed Nov 11 2026. No macro, syntax, notation, axiom, sorry.
-/
import Derived.Test.YtnfkcdnkmcifbaaGreatDoorRows
import GoSem.ClaimSeven
namespace Go.Proofs.YtnfkcdnkmcifbaaGreatDoor
namespace Rows

/-- THE TIED CARD OF 'seedlinglaw07.WordsTell'. -/
def wordsTellCard : Claim7 := { stood := { row := wordsTellRow, standIns := [], harness := (true, "97990d3b12c33b712ed588702d9568036d47903c56767d9c1e9d32a41dc49440"), looks := true }, kinds := [], alts := [], laidByText := true, laidKinds := [.data, .data, .data, .data, .sentinel, .sentinel, .pinned], laidTests := true, laidLooks := .later }
def WordsTellCardSaid : Prop := Claim7.holds Tryz.pinned (.plain (OpenSpec.ofChange wordsTellSpec)) wordsTellCard

/-- THE TIED CARD OF 'seedlinglaw07.WordsEnds'. -/
def wordsEndsCard : Claim7 := { stood := { row := wordsEndsRow, standIns := [], harness := (true, "97990d3b12c33b712ed588702d9568036d47903c56767d9c1e9d32a41dc49440"), looks := true }, kinds := [], alts := [], laidByText := true, laidKinds := [.data, .data, .data, .data, .sentinel, .sentinel, .pinned], laidTests := true, laidLooks := .later }
def WordsEndsCardSaid : Prop := Claim7.holds Tryz.pinned (.plain (OpenSpec.ofChange wordsEndsSpec)) wordsEndsCard

/-- THE SECOND FORM's CARD OF 'seedlinglaw07.WordsTell'. -/
def wordsTellUptoCard : Claim7 := { stood := { row := wordsTellUptoRow, standIns := [], harness := (true, "97990d3b12c33b712ed588702d9568036d47903c56767d9c1e9d32a41dc49440"), looks := true }, kinds := [], alts := [], laidByText := true, laidKinds := [.data, .data, .data, .data, .sentinel, .sentinel, .pinned], laidTests := true, laidLooks := .later }
def WordsTellUptoCardSaid : Prop := Claim7.holds Tryz.pinned (.plain (OpenSpec.upto wordsTellSpec)) wordsTellUptoCard

/-- THE SECOND FORM's CARD OF 'seedlinglaw07.WordsEnds'. -/
def wordsEndsUptoCard : Claim7 := { stood := { row := wordsEndsUptoRow, standIns := [], harness := (true, "97990d3b12c33b712ed588702d9568036d47903c56767d9c1e9d32a41dc49440"), looks := true }, kinds := [], alts := [], laidByText := true, laidKinds := [.data, .data, .data, .data, .sentinel, .sentinel, .pinned], laidTests := true, laidLooks := .later }
def WordsEndsUptoCardSaid : Prop := Claim7.holds Tryz.pinned (.plain (OpenSpec.upto wordsEndsSpec)) wordsEndsUptoCard
end Rows
end Go.Proofs.YtnfkcdnkmcifbaaGreatDoor
