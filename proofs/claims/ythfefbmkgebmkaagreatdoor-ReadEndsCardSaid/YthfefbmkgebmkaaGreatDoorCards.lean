/-
  DERIVED. GIVEN WITH THE SEED: THE CARDS: each row of YthfefbmkgebmkaaGreatDoorRows.lean that lists a variable, with what it lists TIED to the program's text (the seventh form; the later family's looks); each row that meets fmt, with fmt's text TOLD by the authors' own Lean function (tested against real Go, not proved from fmt's source: count such statements apart). THE CARD IS WHAT COUNTS. Prove the row's statement (the work); the ties are given (YthfefbmkgebmkaaGreatDoorTie.lean); close each card by the builder's one call (the guide's Derived/Test/ToyasCard.lean, 'card_holds'). Laid BY PROGRAM, IN A SANDBOX (cutbox-door.mjs). By AI agents, Wed Nov 11 2026. No macro, syntax, notation, axiom, sorry.
-/
import Derived.Test.YthfefbmkgebmkaaGreatDoorRows
import GoSem.ClaimSeven
namespace Go.Proofs.YthfefbmkgebmkaaGreatDoor
namespace Rows

/-- THE TIED CARD OF 'seedlinglaw08.ReadPreorder'. -/
def readPreorderCard : Claim7 := { stood := { row := readPreorderRow, standIns := [], harness := (true, "fb7d8b97d249c95d962db8951f0211b851c075190a446fde3c879a47a93c5181"), looks := true }, kinds := [], alts := [], laidByText := true, laidKinds := [.data, .data, .data, .data, .sentinel, .sentinel, .pinned], laidTests := true, laidLooks := .later }
def ReadPreorderCardSaid : Prop := Claim7.holds Tryz.pinned (.plain (OpenSpec.ofChange readPreorderSpec)) readPreorderCard

/-- THE TIED CARD OF 'seedlinglaw08.ReadBlanks'. -/
def readBlanksCard : Claim7 := { stood := { row := readBlanksRow, standIns := [], harness := (true, "fb7d8b97d249c95d962db8951f0211b851c075190a446fde3c879a47a93c5181"), looks := true }, kinds := [], alts := [], laidByText := true, laidKinds := [.data, .data, .data, .data, .sentinel, .sentinel, .pinned], laidTests := true, laidLooks := .later }
def ReadBlanksCardSaid : Prop := Claim7.holds Tryz.pinned (.plain (OpenSpec.ofChange readBlanksSpec)) readBlanksCard

/-- THE TIED CARD OF 'seedlinglaw08.ReadTells'. -/
def readTellsCard : Claim7 := { stood := { row := readTellsRow, standIns := [], harness := (true, "fb7d8b97d249c95d962db8951f0211b851c075190a446fde3c879a47a93c5181"), looks := true }, kinds := [], alts := [], laidByText := true, laidKinds := [.data, .data, .data, .data, .sentinel, .sentinel, .pinned], laidTests := true, laidLooks := .later }
def ReadTellsCardSaid : Prop := Claim7.holds Tryz.pinned (.plain (OpenSpec.ofChange readTellsSpec)) readTellsCard

/-- THE TIED CARD OF 'seedlinglaw08.ReadEnds'. -/
def readEndsCard : Claim7 := { stood := { row := readEndsRow, standIns := [], harness := (true, "fb7d8b97d249c95d962db8951f0211b851c075190a446fde3c879a47a93c5181"), looks := true }, kinds := [], alts := [], laidByText := true, laidKinds := [.data, .data, .data, .data, .sentinel, .sentinel, .pinned], laidTests := true, laidLooks := .later }
def ReadEndsCardSaid : Prop := Claim7.holds Tryz.pinned (.plain (OpenSpec.ofChange readEndsSpec)) readEndsCard

/-- THE SECOND FORM's CARD OF 'seedlinglaw08.ReadPreorder'. -/
def readPreorderUptoCard : Claim7 := { stood := { row := readPreorderUptoRow, standIns := [], harness := (true, "fb7d8b97d249c95d962db8951f0211b851c075190a446fde3c879a47a93c5181"), looks := true }, kinds := [], alts := [], laidByText := true, laidKinds := [.data, .data, .data, .data, .sentinel, .sentinel, .pinned], laidTests := true, laidLooks := .later }
def ReadPreorderUptoCardSaid : Prop := Claim7.holds Tryz.pinned (.plain (OpenSpec.upto readPreorderSpec)) readPreorderUptoCard

/-- THE SECOND FORM's CARD OF 'seedlinglaw08.ReadBlanks'. -/
def readBlanksUptoCard : Claim7 := { stood := { row := readBlanksUptoRow, standIns := [], harness := (true, "fb7d8b97d249c95d962db8951f0211b851c075190a446fde3c879a47a93c5181"), looks := true }, kinds := [], alts := [], laidByText := true, laidKinds := [.data, .data, .data, .data, .sentinel, .sentinel, .pinned], laidTests := true, laidLooks := .later }
def ReadBlanksUptoCardSaid : Prop := Claim7.holds Tryz.pinned (.plain (OpenSpec.upto readBlanksSpec)) readBlanksUptoCard

/-- THE SECOND FORM's CARD OF 'seedlinglaw08.ReadTells'. -/
def readTellsUptoCard : Claim7 := { stood := { row := readTellsUptoRow, standIns := [], harness := (true, "fb7d8b97d249c95d962db8951f0211b851c075190a446fde3c879a47a93c5181"), looks := true }, kinds := [], alts := [], laidByText := true, laidKinds := [.data, .data, .data, .data, .sentinel, .sentinel, .pinned], laidTests := true, laidLooks := .later }
def ReadTellsUptoCardSaid : Prop := Claim7.holds Tryz.pinned (.plain (OpenSpec.upto readTellsSpec)) readTellsUptoCard

/-- THE SECOND FORM's CARD OF 'seedlinglaw08.ReadEnds'. -/
def readEndsUptoCard : Claim7 := { stood := { row := readEndsUptoRow, standIns := [], harness := (true, "fb7d8b97d249c95d962db8951f0211b851c075190a446fde3c879a47a93c5181"), looks := true }, kinds := [], alts := [], laidByText := true, laidKinds := [.data, .data, .data, .data, .sentinel, .sentinel, .pinned], laidTests := true, laidLooks := .later }
def ReadEndsUptoCardSaid : Prop := Claim7.holds Tryz.pinned (.plain (OpenSpec.upto readEndsSpec)) readEndsUptoCard
end Rows
end Go.Proofs.YthfefbmkgebmkaaGreatDoor
