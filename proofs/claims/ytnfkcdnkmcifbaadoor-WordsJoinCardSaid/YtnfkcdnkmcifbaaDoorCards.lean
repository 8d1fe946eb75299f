/-
  DERIVED. GIVEN WITH THE SEED: THE CARDS: each row of YtnfkcdnkmcifbaaDoorRows.lean that lists a variable, with what it lists TIED to the program's text (the seventh form; the later family's looks); each row that meets fmt, with fmt's text TOLD by the authors' own Lean function (tested against real Go, not proved from fmt's source: count such statements apart). THE CARD IS WHAT COUNTS. Prove the row's statement (the work); the ties are given (YtnfkcdnkmcifbaaDoorTie.lean); close each card by the builder's one call (the guide's Derived/Test/ToyasCard.lean, 'card_holds'). Laid BY PROGRAM, IN A SANDBOX (cutbox-door.mjs). By AI agents, Wed Nov 11 2026. No macro, syntax, notation, axiom, sorry.
-/
import Derived.Test.YtnfkcdnkmcifbaaDoorRows
import GoSem.ClaimSeven
namespace Go.Proofs.YtnfkcdnkmcifbaaDoor
namespace Rows

/-- THE TIED CARD OF 'seedlinglaw07.WordsBetween'. -/
def wordsBetweenCard : Claim7 := { stood := { row := wordsBetweenRow, standIns := [], harness := (true, "8c7eb43b631083a808028495ec84e6bbdc832f35be2a406de60065afb25f1a7d"), looks := true }, kinds := [], alts := [], laidByText := true, laidKinds := [.data, .data, .data, .data, .sentinel, .sentinel, .pinned], laidTests := true, laidLooks := .later }
def WordsBetweenCardSaid : Prop := Claim7.holds Tryd.pinned (.plain (OpenSpec.ofChange wordsBetweenSpec)) wordsBetweenCard

/-- THE TIED CARD OF 'seedlinglaw07.WordsJoin'. -/
def wordsJoinCard : Claim7 := { stood := { row := wordsJoinRow, standIns := [], harness := (true, "8c7eb43b631083a808028495ec84e6bbdc832f35be2a406de60065afb25f1a7d"), looks := true }, kinds := [], alts := [], laidByText := true, laidKinds := [.data, .data, .data, .data, .sentinel, .sentinel, .pinned], laidTests := true, laidLooks := .later }
def WordsJoinCardSaid : Prop := Claim7.holds Tryd.pinned (.plain (OpenSpec.ofChange wordsJoinSpec)) wordsJoinCard

/-- THE SECOND FORM's CARD OF 'seedlinglaw07.WordsBetween'. -/
def wordsBetweenUptoCard : Claim7 := { stood := { row := wordsBetweenUptoRow, standIns := [], harness := (true, "8c7eb43b631083a808028495ec84e6bbdc832f35be2a406de60065afb25f1a7d"), looks := true }, kinds := [], alts := [], laidByText := true, laidKinds := [.data, .data, .data, .data, .sentinel, .sentinel, .pinned], laidTests := true, laidLooks := .later }
def WordsBetweenUptoCardSaid : Prop := Claim7.holds Tryd.pinned (.plain (OpenSpec.upto wordsBetweenSpec)) wordsBetweenUptoCard

/-- THE SECOND FORM's CARD OF 'seedlinglaw07.WordsJoin'. -/
def wordsJoinUptoCard : Claim7 := { stood := { row := wordsJoinUptoRow, standIns := [], harness := (true, "8c7eb43b631083a808028495ec84e6bbdc832f35be2a406de60065afb25f1a7d"), looks := true }, kinds := [], alts := [], laidByText := true, laidKinds := [.data, .data, .data, .data, .sentinel, .sentinel, .pinned], laidTests := true, laidLooks := .later }
def WordsJoinUptoCardSaid : Prop := Claim7.holds Tryd.pinned (.plain (OpenSpec.upto wordsJoinSpec)) wordsJoinUptoCard
end Rows
end Go.Proofs.YtnfkcdnkmcifbaaDoor
