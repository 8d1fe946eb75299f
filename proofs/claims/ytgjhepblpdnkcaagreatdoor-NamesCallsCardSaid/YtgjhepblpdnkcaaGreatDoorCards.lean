/-
  DERIVED. GIVEN WITH THE SEED: THE CARDS: each row of YtgjhepblpdnkcaaGreatDoorRows.lean that lists a variable, with what it lists TIED to the program's text (the seventh form; the later family's looks); each row that meets fmt, with fmt's text TOLD by the authors' own Lean function (tested against real Go, not proved from fmt's source: count such statements apart). THE CARD IS WHAT COUNTS. Prove the row's statement (the work); the ties are given (YtgjhepblpdnkcaaGreatDoorTie.lean); close each card by the builder's one call (the guide's Derived/Test/ToyasCard.lean, 'card_holds'). Laid BY PROGRAM, IN A SANDBOX (cutbox-door.mjs). By AI agents, Wed Nov 11 2026. No macro, syntax, notation, axiom, sorry.
-/
import Derived.Test.YtgjhepblpdnkcaaGreatDoorRows
import GoSem.ClaimSeven
namespace Go.Proofs.YtgjhepblpdnkcaaGreatDoor
namespace Rows

/-- THE TIED CARD OF 'seedlinglaw10.NamesTells'. -/
def namesTellsCard : Claim7 := { stood := { row := namesTellsRow, standIns := [], harness := (true, "390de7f96ac0ee71b07492ec76ccb16b9dcfc1e021ea79446eb85ed13e94e659"), looks := true }, kinds := [], alts := [], laidByText := true, laidKinds := [.data, .data, .data, .data, .sentinel, .sentinel, .pinned], laidTests := true, laidLooks := .later }
def NamesTellsCardSaid : Prop := Claim7.holds Tryz.pinned (.plain (OpenSpec.ofChange namesTellsSpec)) namesTellsCard

/-- THE TIED CARD OF 'seedlinglaw10.NamesPlain'. -/
def namesPlainCard : Claim7 := { stood := { row := namesPlainRow, standIns := [], harness := (true, "390de7f96ac0ee71b07492ec76ccb16b9dcfc1e021ea79446eb85ed13e94e659"), looks := true }, kinds := [], alts := [], laidByText := true, laidKinds := [.data, .data, .data, .data, .sentinel, .sentinel, .pinned], laidTests := true, laidLooks := .later }
def NamesPlainCardSaid : Prop := Claim7.holds Tryz.pinned (.plain (OpenSpec.ofChange namesPlainSpec)) namesPlainCard

/-- THE TIED CARD OF 'seedlinglaw10.NamesCalls'. -/
def namesCallsCard : Claim7 := { stood := { row := namesCallsRow, standIns := [], harness := (true, "390de7f96ac0ee71b07492ec76ccb16b9dcfc1e021ea79446eb85ed13e94e659"), looks := true }, kinds := [], alts := [], laidByText := true, laidKinds := [.data, .data, .data, .data, .sentinel, .sentinel, .pinned], laidTests := true, laidLooks := .later }
def NamesCallsCardSaid : Prop := Claim7.holds Tryz.pinned (.plain (OpenSpec.ofChange namesCallsSpec)) namesCallsCard

/-- THE TIED CARD OF 'seedlinglaw10.NamesEnds'. -/
def namesEndsCard : Claim7 := { stood := { row := namesEndsRow, standIns := [], harness := (true, "390de7f96ac0ee71b07492ec76ccb16b9dcfc1e021ea79446eb85ed13e94e659"), looks := true }, kinds := [], alts := [], laidByText := true, laidKinds := [.data, .data, .data, .data, .sentinel, .sentinel, .pinned], laidTests := true, laidLooks := .later }
def NamesEndsCardSaid : Prop := Claim7.holds Tryz.pinned (.plain (OpenSpec.ofChange namesEndsSpec)) namesEndsCard

/-- THE TIED CARD OF 'seedlinglaw10.NamesReach'. -/
def namesReachCard : Claim7 := { stood := { row := namesReachRow, standIns := [], harness := (true, "390de7f96ac0ee71b07492ec76ccb16b9dcfc1e021ea79446eb85ed13e94e659"), looks := true }, kinds := [], alts := [], laidByText := true, laidKinds := [.data, .data, .data, .data, .sentinel, .sentinel, .pinned], laidTests := true, laidLooks := .later }
def NamesReachCardSaid : Prop := Claim7.holds Tryz.pinned (.plain (OpenSpec.ofChange namesReachSpec)) namesReachCard

/-- THE SECOND FORM's CARD OF 'seedlinglaw10.NamesTells'. -/
def namesTellsUptoCard : Claim7 := { stood := { row := namesTellsUptoRow, standIns := [], harness := (true, "390de7f96ac0ee71b07492ec76ccb16b9dcfc1e021ea79446eb85ed13e94e659"), looks := true }, kinds := [], alts := [], laidByText := true, laidKinds := [.data, .data, .data, .data, .sentinel, .sentinel, .pinned], laidTests := true, laidLooks := .later }
def NamesTellsUptoCardSaid : Prop := Claim7.holds Tryz.pinned (.plain (OpenSpec.upto namesTellsSpec)) namesTellsUptoCard

/-- THE SECOND FORM's CARD OF 'seedlinglaw10.NamesPlain'. -/
def namesPlainUptoCard : Claim7 := { stood := { row := namesPlainUptoRow, standIns := [], harness := (true, "390de7f96ac0ee71b07492ec76ccb16b9dcfc1e021ea79446eb85ed13e94e659"), looks := true }, kinds := [], alts := [], laidByText := true, laidKinds := [.data, .data, .data, .data, .sentinel, .sentinel, .pinned], laidTests := true, laidLooks := .later }
def NamesPlainUptoCardSaid : Prop := Claim7.holds Tryz.pinned (.plain (OpenSpec.upto namesPlainSpec)) namesPlainUptoCard

/-- THE SECOND FORM's CARD OF 'seedlinglaw10.NamesCalls'. -/
def namesCallsUptoCard : Claim7 := { stood := { row := namesCallsUptoRow, standIns := [], harness := (true, "390de7f96ac0ee71b07492ec76ccb16b9dcfc1e021ea79446eb85ed13e94e659"), looks := true }, kinds := [], alts := [], laidByText := true, laidKinds := [.data, .data, .data, .data, .sentinel, .sentinel, .pinned], laidTests := true, laidLooks := .later }
def NamesCallsUptoCardSaid : Prop := Claim7.holds Tryz.pinned (.plain (OpenSpec.upto namesCallsSpec)) namesCallsUptoCard

/-- THE SECOND FORM's CARD OF 'seedlinglaw10.NamesEnds'. -/
def namesEndsUptoCard : Claim7 := { stood := { row := namesEndsUptoRow, standIns := [], harness := (true, "390de7f96ac0ee71b07492ec76ccb16b9dcfc1e021ea79446eb85ed13e94e659"), looks := true }, kinds := [], alts := [], laidByText := true, laidKinds := [.data, .data, .data, .data, .sentinel, .sentinel, .pinned], laidTests := true, laidLooks := .later }
def NamesEndsUptoCardSaid : Prop := Claim7.holds Tryz.pinned (.plain (OpenSpec.upto namesEndsSpec)) namesEndsUptoCard

/-- THE SECOND FORM's CARD OF 'seedlinglaw10.NamesReach'. -/
def namesReachUptoCard : Claim7 := { stood := { row := namesReachUptoRow, standIns := [], harness := (true, "390de7f96ac0ee71b07492ec76ccb16b9dcfc1e021ea79446eb85ed13e94e659"), looks := true }, kinds := [], alts := [], laidByText := true, laidKinds := [.data, .data, .data, .data, .sentinel, .sentinel, .pinned], laidTests := true, laidLooks := .later }
def NamesReachUptoCardSaid : Prop := Claim7.holds Tryz.pinned (.plain (OpenSpec.upto namesReachSpec)) namesReachUptoCard
end Rows
end Go.Proofs.YtgjhepblpdnkcaaGreatDoor
