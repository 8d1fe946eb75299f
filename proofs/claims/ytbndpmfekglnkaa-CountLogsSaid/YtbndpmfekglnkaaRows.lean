/-
  No cell of these rows narrows 'for every input' (looked for: loops, veiled, ifaces, maps, wideKeys, modest, calm, conditions, laid).
  DERIVED. THE GIVEN ROWS OF THIS SEAT. 6 by the template 'for every input the law returns true; each argument reads behind the call as it read before'; 0 by the template 'total and deterministic' (their statements: YtbndpmfekglnkaaTotals.lean).
  GIVEN WITH THE SEED: the statements are not yours to turn. If you find one false, say at which input.
  Laid BY PROGRAM, IN A SANDBOX (cutbox-rows.mjs): the forced cells as the released guide's own fill.sh prints them over the translation 85f7ed2c1e785c4a… (all of the seat's roots in one cut). By AI agents, Wed Nov 11 2026. No macro, syntax, notation, axiom, sorry.
-/
import Derived.Test.YtbndpmfekglnkaaChecked
import GoSem.Claim
import GoSem.ClaimJoined
import GoSem.ClaimMapViews
import Derived.JoinedTies
import Derived.KernelRfl
namespace Go.Proofs.Ytbndpmfekglnkaa
/- THE CELL 'sum', in the pinned program and in every row, IS THE sha256 OF THE DUMP (.gsa) THAT YtbndpmfekglnkaaProg.lean LOADS. Nothing in Lean hashes anything: it is a label: what it is worth is what the hold of that sum in a sandbox is worth. -/
noncomputable def Try.pinned : Pinned := { name := "ytbndpmfekglnkaa", sum := "85f7ed2c1e785c4a7e0f4869d9b12b82e5ef160b32dd298597f0b92d67e7a4e4", checked := Try.checked }
namespace Rows
def none {H : Type} : Left H := { results := [], args := [] }

/-- 'seedlinglaw24.CountTells': WHATEVER THE INPUT: true; the input reads as it did. -/
def countTellsSpec : ChangeSpec := { name := "countTells", fn := fun _ => fun
  | [d] => { results := [.lit (.bool true)], args := [d] }
  | _ => none }
def countTellsRow : OpenClaim := { program := "ytbndpmfekglnkaa", sum := "85f7ed2c1e785c4a7e0f4869d9b12b82e5ef160b32dd298597f0b92d67e7a4e4", func := "seedling/seedlinglaw24.CountTells", spec := "countTells", unfollowed := true, recurses := true, apart := false }
def CountTellsSaid : Prop := countTellsRow.holds Try.pinned (OpenSpec.ofChange countTellsSpec)

/-- ITS FALSE NEIGHBOUR: 'it returns false'. Refute it at one input. -/
def countTellsWrong : ChangeSpec := { name := "countTells", fn := fun _ => fun
  | [d] => { results := [.lit (.bool false)], args := [d] }
  | _ => none }
def CountTellsWrongFalsely : Prop := countTellsRow.holds Try.pinned (OpenSpec.ofChange countTellsWrong)

/-- 'seedlinglaw24.CountHistory': WHATEVER THE INPUT: true; the input reads as it did. -/
def countHistorySpec : ChangeSpec := { name := "countHistory", fn := fun _ => fun
  | [d] => { results := [.lit (.bool true)], args := [d] }
  | _ => none }
def countHistoryRow : OpenClaim := { program := "ytbndpmfekglnkaa", sum := "85f7ed2c1e785c4a7e0f4869d9b12b82e5ef160b32dd298597f0b92d67e7a4e4", func := "seedling/seedlinglaw24.CountHistory", spec := "countHistory", unfollowed := true, recurses := true, apart := false }
def CountHistorySaid : Prop := countHistoryRow.holds Try.pinned (OpenSpec.ofChange countHistorySpec)

/-- ITS FALSE NEIGHBOUR: 'it returns false'. Refute it at one input. -/
def countHistoryWrong : ChangeSpec := { name := "countHistory", fn := fun _ => fun
  | [d] => { results := [.lit (.bool false)], args := [d] }
  | _ => none }
def CountHistoryWrongFalsely : Prop := countHistoryRow.holds Try.pinned (OpenSpec.ofChange countHistoryWrong)

/-- 'seedlinglaw24.CountWithin': WHATEVER THE INPUT: true; the input reads as it did. -/
def countWithinSpec : ChangeSpec := { name := "countWithin", fn := fun _ => fun
  | [d] => { results := [.lit (.bool true)], args := [d] }
  | _ => none }
def countWithinRow : OpenClaim := { program := "ytbndpmfekglnkaa", sum := "85f7ed2c1e785c4a7e0f4869d9b12b82e5ef160b32dd298597f0b92d67e7a4e4", func := "seedling/seedlinglaw24.CountWithin", spec := "countWithin", unfollowed := true, recurses := true, apart := false }
def CountWithinSaid : Prop := countWithinRow.holds Try.pinned (OpenSpec.ofChange countWithinSpec)

/-- ITS FALSE NEIGHBOUR: 'it returns false'. Refute it at one input. -/
def countWithinWrong : ChangeSpec := { name := "countWithin", fn := fun _ => fun
  | [d] => { results := [.lit (.bool false)], args := [d] }
  | _ => none }
def CountWithinWrongFalsely : Prop := countWithinRow.holds Try.pinned (OpenSpec.ofChange countWithinWrong)

/-- 'seedlinglaw24.CountFronts': WHATEVER THE INPUT: true; the input reads as it did. -/
def countFrontsSpec : ChangeSpec := { name := "countFronts", fn := fun _ => fun
  | [d] => { results := [.lit (.bool true)], args := [d] }
  | _ => none }
def countFrontsRow : OpenClaim := { program := "ytbndpmfekglnkaa", sum := "85f7ed2c1e785c4a7e0f4869d9b12b82e5ef160b32dd298597f0b92d67e7a4e4", func := "seedling/seedlinglaw24.CountFronts", spec := "countFronts", unfollowed := true, recurses := true, apart := false }
def CountFrontsSaid : Prop := countFrontsRow.holds Try.pinned (OpenSpec.ofChange countFrontsSpec)

/-- ITS FALSE NEIGHBOUR: 'it returns false'. Refute it at one input. -/
def countFrontsWrong : ChangeSpec := { name := "countFronts", fn := fun _ => fun
  | [d] => { results := [.lit (.bool false)], args := [d] }
  | _ => none }
def CountFrontsWrongFalsely : Prop := countFrontsRow.holds Try.pinned (OpenSpec.ofChange countFrontsWrong)

/-- 'seedlinglaw24.CountLogs': WHATEVER THE INPUT: true; the input reads as it did. -/
def countLogsSpec : ChangeSpec := { name := "countLogs", fn := fun _ => fun
  | [d1, d2] => { results := [.lit (.bool true)], args := [d1, d2] }
  | _ => none }
def countLogsRow : OpenClaim := { program := "ytbndpmfekglnkaa", sum := "85f7ed2c1e785c4a7e0f4869d9b12b82e5ef160b32dd298597f0b92d67e7a4e4", func := "seedling/seedlinglaw24.CountLogs", spec := "countLogs", unfollowed := true, recurses := true, apart := false }
def CountLogsSaid : Prop := countLogsRow.holds Try.pinned (OpenSpec.ofChange countLogsSpec)

/-- ITS FALSE NEIGHBOUR: 'it returns false'. Refute it at one input. -/
def countLogsWrong : ChangeSpec := { name := "countLogs", fn := fun _ => fun
  | [d1, d2] => { results := [.lit (.bool false)], args := [d1, d2] }
  | _ => none }
def CountLogsWrongFalsely : Prop := countLogsRow.holds Try.pinned (OpenSpec.ofChange countLogsWrong)

/-- 'seedlinglaw24.CountSmall': WHATEVER THE INPUT: true; the input reads as it did. -/
def countSmallSpec : ChangeSpec := { name := "countSmall", fn := fun _ => fun
  | [] => { results := [.lit (.bool true)], args := [] }
  | _ => none }
def countSmallRow : OpenClaim := { program := "ytbndpmfekglnkaa", sum := "85f7ed2c1e785c4a7e0f4869d9b12b82e5ef160b32dd298597f0b92d67e7a4e4", func := "seedling/seedlinglaw24.CountSmall", spec := "countSmall", unfollowed := true, recurses := true, apart := false }
def CountSmallSaid : Prop := countSmallRow.holds Try.pinned (OpenSpec.ofChange countSmallSpec)

/-- ITS FALSE NEIGHBOUR: 'it returns false'. Refute it at one input. -/
def countSmallWrong : ChangeSpec := { name := "countSmall", fn := fun _ => fun
  | [] => { results := [.lit (.bool false)], args := [] }
  | _ => none }
def CountSmallWrongFalsely : Prop := countSmallRow.holds Try.pinned (OpenSpec.ofChange countSmallWrong)

/- THE SECOND FORM. 'bulk': how many values and letters a reading holds, each counted each time it is reached (what is shared counts as often as it is met; a slice's spare places count too). A statement '..UptoSaid' is the law's where the arguments, and the package variables that the reading takes, are together of bulk at most 1048576: NARROWER than '..Said'. Prove '..Said' where nothing that the law and all that it calls make is longer than what came in: it says more and counts as full. Else prove '..UptoSaid'. A law counts once. -/
mutual
def uptoBulk {H : Type} : DataW H → Nat
  | .lit (.string bytes) => bytes.length + 1
  | .lit _ => 1
  | .nil => 1
  | .ptr d => uptoBulk d + 1
  | .slice elems spare => uptoBulkAll elems + uptoBulkAll spare + 1
  | .agg parts => uptoBulkAll parts + 1
  | .iface _ d => uptoBulk d + 1
  | .map entries => uptoBulkEntries entries + 1
  | .held _ => 1
def uptoBulkAll {H : Type} : List (DataW H) → Nat
  | [] => 0
  | d :: r => uptoBulk d + uptoBulkAll r
def uptoBulkEntries {H : Type} : List (Lit × DataW H) → Nat
  | [] => 0
  | x :: r => uptoBulkEntry x + uptoBulkEntries r
def uptoBulkEntry {H : Type} : Lit × DataW H → Nat
  | (.string bytes, d) => bytes.length + uptoBulk d + 1
  | (_, d) => uptoBulk d + 1
 end
def uptoSmall : (H : Type) → List (DataW H) → Bool := fun _ ds => decide (uptoBulkAll ds ≤ 1048576)
def OpenSpec.upto (s : _root_.Go.ChangeSpec) : _root_.Go.OpenSpec := { _root_.Go.OpenSpec.ofChange s with cond := some uptoSmall }

/-- 'seedlinglaw24.CountTells', WHERE WHAT IT READS IS OF BULK AT MOST 1048576: true; the input reads as it did. -/
def countTellsUptoRow : OpenClaim := { program := "ytbndpmfekglnkaa", sum := "85f7ed2c1e785c4a7e0f4869d9b12b82e5ef160b32dd298597f0b92d67e7a4e4", func := "seedling/seedlinglaw24.CountTells", spec := "countTells", unfollowed := true, recurses := true, apart := false, narrowed := true }
def CountTellsUptoSaid : Prop := countTellsUptoRow.holds Try.pinned (OpenSpec.upto countTellsSpec)

/-- 'seedlinglaw24.CountHistory', WHERE WHAT IT READS IS OF BULK AT MOST 1048576: true; the input reads as it did. -/
def countHistoryUptoRow : OpenClaim := { program := "ytbndpmfekglnkaa", sum := "85f7ed2c1e785c4a7e0f4869d9b12b82e5ef160b32dd298597f0b92d67e7a4e4", func := "seedling/seedlinglaw24.CountHistory", spec := "countHistory", unfollowed := true, recurses := true, apart := false, narrowed := true }
def CountHistoryUptoSaid : Prop := countHistoryUptoRow.holds Try.pinned (OpenSpec.upto countHistorySpec)

/-- 'seedlinglaw24.CountWithin', WHERE WHAT IT READS IS OF BULK AT MOST 1048576: true; the input reads as it did. -/
def countWithinUptoRow : OpenClaim := { program := "ytbndpmfekglnkaa", sum := "85f7ed2c1e785c4a7e0f4869d9b12b82e5ef160b32dd298597f0b92d67e7a4e4", func := "seedling/seedlinglaw24.CountWithin", spec := "countWithin", unfollowed := true, recurses := true, apart := false, narrowed := true }
def CountWithinUptoSaid : Prop := countWithinUptoRow.holds Try.pinned (OpenSpec.upto countWithinSpec)

/-- 'seedlinglaw24.CountFronts', WHERE WHAT IT READS IS OF BULK AT MOST 1048576: true; the input reads as it did. -/
def countFrontsUptoRow : OpenClaim := { program := "ytbndpmfekglnkaa", sum := "85f7ed2c1e785c4a7e0f4869d9b12b82e5ef160b32dd298597f0b92d67e7a4e4", func := "seedling/seedlinglaw24.CountFronts", spec := "countFronts", unfollowed := true, recurses := true, apart := false, narrowed := true }
def CountFrontsUptoSaid : Prop := countFrontsUptoRow.holds Try.pinned (OpenSpec.upto countFrontsSpec)

/-- 'seedlinglaw24.CountLogs', WHERE WHAT IT READS IS OF BULK AT MOST 1048576: true; the input reads as it did. -/
def countLogsUptoRow : OpenClaim := { program := "ytbndpmfekglnkaa", sum := "85f7ed2c1e785c4a7e0f4869d9b12b82e5ef160b32dd298597f0b92d67e7a4e4", func := "seedling/seedlinglaw24.CountLogs", spec := "countLogs", unfollowed := true, recurses := true, apart := false, narrowed := true }
def CountLogsUptoSaid : Prop := countLogsUptoRow.holds Try.pinned (OpenSpec.upto countLogsSpec)

/-- 'seedlinglaw24.CountSmall', WHERE WHAT IT READS IS OF BULK AT MOST 1048576: true; the input reads as it did. -/
def countSmallUptoRow : OpenClaim := { program := "ytbndpmfekglnkaa", sum := "85f7ed2c1e785c4a7e0f4869d9b12b82e5ef160b32dd298597f0b92d67e7a4e4", func := "seedling/seedlinglaw24.CountSmall", spec := "countSmall", unfollowed := true, recurses := true, apart := false, narrowed := true }
def CountSmallUptoSaid : Prop := countSmallUptoRow.holds Try.pinned (OpenSpec.upto countSmallSpec)

end Rows
end Go.Proofs.Ytbndpmfekglnkaa
