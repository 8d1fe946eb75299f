/-
  No cell of these rows narrows 'for every input' (looked for: loops, veiled, ifaces, maps, wideKeys, modest, calm, conditions, laid).
  DERIVED. THE GIVEN ROWS OF THIS SEAT. 3 by the template 'for every input the law returns true; each argument reads behind the call as it read before'; 0 by the template 'total and deterministic' (their statements: YtdnkffplkleolaaGreatTotals.lean).
  GIVEN WITH THE SEED: the statements are not yours to turn. If you find one false, say at which input.
  Laid BY PROGRAM, IN A SANDBOX (cutbox-rows.mjs): the forced cells as the released guide's own fill.sh prints them over the translation 925e71e0d6300beb… (all of the seat's roots in one cut). By AI agents, Wed Nov 11 2026. No macro, syntax, notation, axiom, sorry.
-/
import Derived.Test.YtdnkffplkleolaaGreatChecked
import GoSem.Claim
import GoSem.ClaimJoined
import GoSem.ClaimMapViews
import Derived.JoinedTies
import Derived.KernelRfl
namespace Go.Proofs.YtdnkffplkleolaaGreat
/- THE CELL 'sum', in the pinned program and in every row, IS THE sha256 OF THE DUMP (.gsa) THAT YtdnkffplkleolaaGreatProg.lean LOADS. Nothing in Lean hashes anything: it is a label: what it is worth is what the hold of that sum in a sandbox is worth. -/
noncomputable def Tryz.pinned : Pinned := { name := "ytdnkffplkleolaagreat", sum := "925e71e0d6300bebac06f8731bfea85a4ee13250e6081252ec0d845427a6a137", checked := Tryz.checked }
namespace Rows
def none {H : Type} : Left H := { results := [], args := [] }

/-- 'seedlinglaw28.FordTells': WHATEVER THE INPUT: true; the input reads as it did. -/
def fordTellsSpec : ChangeSpec := { name := "fordTells", fn := fun _ => fun
  | [d1, d2, d3, d4] => { results := [.lit (.bool true)], args := [d1, d2, d3, d4] }
  | _ => none }
def fordTellsRow : OpenClaim := { program := "ytdnkffplkleolaagreat", sum := "925e71e0d6300bebac06f8731bfea85a4ee13250e6081252ec0d845427a6a137", func := "seedling/seedlinglaw28.FordTells", spec := "fordTells", unfollowed := true, recurses := true, plainKeys := false, apart := false }
def FordTellsSaid : Prop := fordTellsRow.holds Tryz.pinned (OpenSpec.ofChange fordTellsSpec)

/-- ITS FALSE NEIGHBOUR: 'it returns false'. Refute it at one input. -/
def fordTellsWrong : ChangeSpec := { name := "fordTells", fn := fun _ => fun
  | [d1, d2, d3, d4] => { results := [.lit (.bool false)], args := [d1, d2, d3, d4] }
  | _ => none }
def FordTellsWrongFalsely : Prop := fordTellsRow.holds Tryz.pinned (OpenSpec.ofChange fordTellsWrong)

/-- 'seedlinglaw28.FordSmall': WHATEVER THE INPUT: true; the input reads as it did. -/
def fordSmallSpec : ChangeSpec := { name := "fordSmall", fn := fun _ => fun
  | [] => { results := [.lit (.bool true)], args := [] }
  | _ => none }
def fordSmallRow : OpenClaim := { program := "ytdnkffplkleolaagreat", sum := "925e71e0d6300bebac06f8731bfea85a4ee13250e6081252ec0d845427a6a137", func := "seedling/seedlinglaw28.FordSmall", spec := "fordSmall", unfollowed := true, recurses := true, plainKeys := false, apart := false }
def FordSmallSaid : Prop := fordSmallRow.holds Tryz.pinned (OpenSpec.ofChange fordSmallSpec)

/-- ITS FALSE NEIGHBOUR: 'it returns false'. Refute it at one input. -/
def fordSmallWrong : ChangeSpec := { name := "fordSmall", fn := fun _ => fun
  | [] => { results := [.lit (.bool false)], args := [] }
  | _ => none }
def FordSmallWrongFalsely : Prop := fordSmallRow.holds Tryz.pinned (OpenSpec.ofChange fordSmallWrong)

/-- 'seedlinglaw28.FordLevels': WHATEVER THE INPUT: true; the input reads as it did. -/
def fordLevelsSpec : ChangeSpec := { name := "fordLevels", fn := fun _ => fun
  | [d1, d2, d3, d4, d5] => { results := [.lit (.bool true)], args := [d1, d2, d3, d4, d5] }
  | _ => none }
def fordLevelsRow : OpenClaim := { program := "ytdnkffplkleolaagreat", sum := "925e71e0d6300bebac06f8731bfea85a4ee13250e6081252ec0d845427a6a137", func := "seedling/seedlinglaw28.FordLevels", spec := "fordLevels", unfollowed := true, recurses := true, plainKeys := false, apart := false }
def FordLevelsSaid : Prop := fordLevelsRow.holds Tryz.pinned (OpenSpec.ofChange fordLevelsSpec)

/-- ITS FALSE NEIGHBOUR: 'it returns false'. Refute it at one input. -/
def fordLevelsWrong : ChangeSpec := { name := "fordLevels", fn := fun _ => fun
  | [d1, d2, d3, d4, d5] => { results := [.lit (.bool false)], args := [d1, d2, d3, d4, d5] }
  | _ => none }
def FordLevelsWrongFalsely : Prop := fordLevelsRow.holds Tryz.pinned (OpenSpec.ofChange fordLevelsWrong)

/- THE SECOND FORM. 'bulk': how many values and letters a reading holds, each counted each time it is reached (what is shared counts as often as it is met; a slice's spare places count too). A statement '..UptoSaid' is the law's where the arguments, and the package variables that the reading takes, are together of bulk at most 1048576: NARROWER than '..Said'. Prove '..Said' where nothing that the law and all that it calls make is longer than what came in: it says more and counts as full. Else prove '..UptoSaid'. A law counts once. -/
mutual
def uptoBulk {H : Type} : DataW H → Nat
  | .lit (.string bytes) => bytes.length + 1
  | .lit _ => 1
  | .nil => 1
  | .ptr d => uptoBulk d + 1
  | .slice elems spare => uptoBulkAll elems + uptoBulkAll spare + 1
  | .agg parts => uptoBulkAll parts + 1
  | .iface _ d => uptoBulk d + 1
  | .map entries => uptoBulkEntries entries + 1
  | .held _ => 1
def uptoBulkAll {H : Type} : List (DataW H) → Nat
  | [] => 0
  | d :: r => uptoBulk d + uptoBulkAll r
def uptoBulkEntries {H : Type} : List (Lit × DataW H) → Nat
  | [] => 0
  | x :: r => uptoBulkEntry x + uptoBulkEntries r
def uptoBulkEntry {H : Type} : Lit × DataW H → Nat
  | (.string bytes, d) => bytes.length + uptoBulk d + 1
  | (_, d) => uptoBulk d + 1
 end
def uptoSmall : (H : Type) → List (DataW H) → Bool := fun _ ds => decide (uptoBulkAll ds ≤ 1048576)
def OpenSpec.upto (s : _root_.Go.ChangeSpec) : _root_.Go.OpenSpec := { _root_.Go.OpenSpec.ofChange s with cond := some uptoSmall }

/-- 'seedlinglaw28.FordTells', WHERE WHAT IT READS IS OF BULK AT MOST 1048576: true; the input reads as it did. -/
def fordTellsUptoRow : OpenClaim := { program := "ytdnkffplkleolaagreat", sum := "925e71e0d6300bebac06f8731bfea85a4ee13250e6081252ec0d845427a6a137", func := "seedling/seedlinglaw28.FordTells", spec := "fordTells", unfollowed := true, recurses := true, plainKeys := false, apart := false, narrowed := true }
def FordTellsUptoSaid : Prop := fordTellsUptoRow.holds Tryz.pinned (OpenSpec.upto fordTellsSpec)

/-- 'seedlinglaw28.FordSmall', WHERE WHAT IT READS IS OF BULK AT MOST 1048576: true; the input reads as it did. -/
def fordSmallUptoRow : OpenClaim := { program := "ytdnkffplkleolaagreat", sum := "925e71e0d6300bebac06f8731bfea85a4ee13250e6081252ec0d845427a6a137", func := "seedling/seedlinglaw28.FordSmall", spec := "fordSmall", unfollowed := true, recurses := true, plainKeys := false, apart := false, narrowed := true }
def FordSmallUptoSaid : Prop := fordSmallUptoRow.holds Tryz.pinned (OpenSpec.upto fordSmallSpec)

/-- 'seedlinglaw28.FordLevels', WHERE WHAT IT READS IS OF BULK AT MOST 1048576: true; the input reads as it did. -/
def fordLevelsUptoRow : OpenClaim := { program := "ytdnkffplkleolaagreat", sum := "925e71e0d6300bebac06f8731bfea85a4ee13250e6081252ec0d845427a6a137", func := "seedling/seedlinglaw28.FordLevels", spec := "fordLevels", unfollowed := true, recurses := true, plainKeys := false, apart := false, narrowed := true }
def FordLevelsUptoSaid : Prop := fordLevelsUptoRow.holds Tryz.pinned (OpenSpec.upto fordLevelsSpec)

end Rows
end Go.Proofs.YtdnkffplkleolaaGreat
