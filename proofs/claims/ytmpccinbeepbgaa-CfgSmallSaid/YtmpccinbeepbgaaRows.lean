/-
  No cell of these rows narrows 'for every input' (looked for: loops, veiled, ifaces, maps, wideKeys, modest, calm, conditions, laid).
  DERIVED. THE GIVEN ROWS OF THIS SEAT. 5 by the template 'for every input the law returns true; each argument reads behind the call as it read before'; 0 by the template 'total and deterministic' (their statements: YtmpccinbeepbgaaTotals.lean).
  GIVEN WITH THE SEED: the statements are not yours to turn. If you find one false, say at which input.
  Laid BY PROGRAM, IN A SANDBOX (cutbox-rows.mjs): the forced cells as the released guide's own fill.sh prints them over the translation 514aad806ef0511c… (all of the seat's roots in one cut). By AI agents, Wed Nov 11 2026. No macro, syntax, notation, axiom, sorry.
-/
import Derived.Test.YtmpccinbeepbgaaChecked
import GoSem.Claim
import GoSem.ClaimJoined
import GoSem.ClaimMapViews
import Derived.JoinedTies
import Derived.KernelRfl
namespace Go.Proofs.Ytmpccinbeepbgaa
/- THE CELL 'sum', in the pinned program and in every row, IS THE sha256 OF THE DUMP (.gsa) THAT YtmpccinbeepbgaaProg.lean LOADS. Nothing in Lean hashes anything: it is a label: what it is worth is what the hold of that sum in a sandbox is worth. -/
noncomputable def Try.pinned : Pinned := { name := "ytmpccinbeepbgaa", sum := "514aad806ef0511c999ac3500727421e217772e17c7973b07e2bf077a8364f6f", checked := Try.checked }
namespace Rows
def none {H : Type} : Left H := { results := [], args := [] }

/-- 'seedlinglaw30.CfgTells': WHATEVER THE INPUT: true; the input reads as it did. -/
def cfgTellsSpec : ChangeSpec := { name := "cfgTells", fn := fun _ => fun
  | [d1, d2, d3] => { results := [.lit (.bool true)], args := [d1, d2, d3] }
  | _ => none }
def cfgTellsRow : OpenClaim := { program := "ytmpccinbeepbgaa", sum := "514aad806ef0511c999ac3500727421e217772e17c7973b07e2bf077a8364f6f", func := "seedling/seedlinglaw30.CfgTells", spec := "cfgTells", unfollowed := true, recurses := true, apart := false }
def CfgTellsSaid : Prop := cfgTellsRow.holds Try.pinned (OpenSpec.ofChange cfgTellsSpec)

/-- ITS FALSE NEIGHBOUR: 'it returns false'. Refute it at one input. -/
def cfgTellsWrong : ChangeSpec := { name := "cfgTells", fn := fun _ => fun
  | [d1, d2, d3] => { results := [.lit (.bool false)], args := [d1, d2, d3] }
  | _ => none }
def CfgTellsWrongFalsely : Prop := cfgTellsRow.holds Try.pinned (OpenSpec.ofChange cfgTellsWrong)

/-- 'seedlinglaw30.CfgSmall': WHATEVER THE INPUT: true; the input reads as it did. -/
def cfgSmallSpec : ChangeSpec := { name := "cfgSmall", fn := fun _ => fun
  | [] => { results := [.lit (.bool true)], args := [] }
  | _ => none }
def cfgSmallRow : OpenClaim := { program := "ytmpccinbeepbgaa", sum := "514aad806ef0511c999ac3500727421e217772e17c7973b07e2bf077a8364f6f", func := "seedling/seedlinglaw30.CfgSmall", spec := "cfgSmall", unfollowed := true, recurses := true, apart := false }
def CfgSmallSaid : Prop := cfgSmallRow.holds Try.pinned (OpenSpec.ofChange cfgSmallSpec)

/-- ITS FALSE NEIGHBOUR: 'it returns false'. Refute it at one input. -/
def cfgSmallWrong : ChangeSpec := { name := "cfgSmall", fn := fun _ => fun
  | [] => { results := [.lit (.bool false)], args := [] }
  | _ => none }
def CfgSmallWrongFalsely : Prop := cfgSmallRow.holds Try.pinned (OpenSpec.ofChange cfgSmallWrong)

/-- 'seedlinglaw30.CfgOne': WHATEVER THE INPUT: true; the input reads as it did. -/
def cfgOneSpec : ChangeSpec := { name := "cfgOne", fn := fun _ => fun
  | [d1, d2, d3, d4] => { results := [.lit (.bool true)], args := [d1, d2, d3, d4] }
  | _ => none }
def cfgOneRow : OpenClaim := { program := "ytmpccinbeepbgaa", sum := "514aad806ef0511c999ac3500727421e217772e17c7973b07e2bf077a8364f6f", func := "seedling/seedlinglaw30.CfgOne", spec := "cfgOne", unfollowed := true, recurses := true, apart := false }
def CfgOneSaid : Prop := cfgOneRow.holds Try.pinned (OpenSpec.ofChange cfgOneSpec)

/-- ITS FALSE NEIGHBOUR: 'it returns false'. Refute it at one input. -/
def cfgOneWrong : ChangeSpec := { name := "cfgOne", fn := fun _ => fun
  | [d1, d2, d3, d4] => { results := [.lit (.bool false)], args := [d1, d2, d3, d4] }
  | _ => none }
def CfgOneWrongFalsely : Prop := cfgOneRow.holds Try.pinned (OpenSpec.ofChange cfgOneWrong)

/-- 'seedlinglaw30.CfgFronts': WHATEVER THE INPUT: true; the input reads as it did. -/
def cfgFrontsSpec : ChangeSpec := { name := "cfgFronts", fn := fun _ => fun
  | [d1, d2, d3] => { results := [.lit (.bool true)], args := [d1, d2, d3] }
  | _ => none }
def cfgFrontsRow : OpenClaim := { program := "ytmpccinbeepbgaa", sum := "514aad806ef0511c999ac3500727421e217772e17c7973b07e2bf077a8364f6f", func := "seedling/seedlinglaw30.CfgFronts", spec := "cfgFronts", unfollowed := true, recurses := true, apart := false }
def CfgFrontsSaid : Prop := cfgFrontsRow.holds Try.pinned (OpenSpec.ofChange cfgFrontsSpec)

/-- ITS FALSE NEIGHBOUR: 'it returns false'. Refute it at one input. -/
def cfgFrontsWrong : ChangeSpec := { name := "cfgFronts", fn := fun _ => fun
  | [d1, d2, d3] => { results := [.lit (.bool false)], args := [d1, d2, d3] }
  | _ => none }
def CfgFrontsWrongFalsely : Prop := cfgFrontsRow.holds Try.pinned (OpenSpec.ofChange cfgFrontsWrong)

/-- 'seedlinglaw30.CfgTree': WHATEVER THE INPUT: true; the input reads as it did. -/
def cfgTreeSpec : ChangeSpec := { name := "cfgTree", fn := fun _ => fun
  | [d1, d2, d3, d4] => { results := [.lit (.bool true)], args := [d1, d2, d3, d4] }
  | _ => none }
def cfgTreeRow : OpenClaim := { program := "ytmpccinbeepbgaa", sum := "514aad806ef0511c999ac3500727421e217772e17c7973b07e2bf077a8364f6f", func := "seedling/seedlinglaw30.CfgTree", spec := "cfgTree", unfollowed := true, recurses := true, apart := false }
def CfgTreeSaid : Prop := cfgTreeRow.holds Try.pinned (OpenSpec.ofChange cfgTreeSpec)

/-- ITS FALSE NEIGHBOUR: 'it returns false'. Refute it at one input. -/
def cfgTreeWrong : ChangeSpec := { name := "cfgTree", fn := fun _ => fun
  | [d1, d2, d3, d4] => { results := [.lit (.bool false)], args := [d1, d2, d3, d4] }
  | _ => none }
def CfgTreeWrongFalsely : Prop := cfgTreeRow.holds Try.pinned (OpenSpec.ofChange cfgTreeWrong)

/- THE SECOND FORM. 'bulk': how many values and letters a reading holds, each counted each time it is reached (what is shared counts as often as it is met; a slice's spare places count too). A statement '..UptoSaid' is the law's where the arguments, and the package variables that the reading takes, are together of bulk at most 1048576: NARROWER than '..Said'. Prove '..Said' where nothing that the law and all that it calls make is longer than what came in: it says more and counts as full. Else prove '..UptoSaid'. A law counts once. -/
mutual
def uptoBulk {H : Type} : DataW H → Nat
  | .lit (.string bytes) => bytes.length + 1
  | .lit _ => 1
  | .nil => 1
  | .ptr d => uptoBulk d + 1
  | .slice elems spare => uptoBulkAll elems + uptoBulkAll spare + 1
  | .agg parts => uptoBulkAll parts + 1
  | .iface _ d => uptoBulk d + 1
  | .map entries => uptoBulkEntries entries + 1
  | .held _ => 1
def uptoBulkAll {H : Type} : List (DataW H) → Nat
  | [] => 0
  | d :: r => uptoBulk d + uptoBulkAll r
def uptoBulkEntries {H : Type} : List (Lit × DataW H) → Nat
  | [] => 0
  | x :: r => uptoBulkEntry x + uptoBulkEntries r
def uptoBulkEntry {H : Type} : Lit × DataW H → Nat
  | (.string bytes, d) => bytes.length + uptoBulk d + 1
  | (_, d) => uptoBulk d + 1
 end
def uptoSmall : (H : Type) → List (DataW H) → Bool := fun _ ds => decide (uptoBulkAll ds ≤ 1048576)
def OpenSpec.upto (s : _root_.Go.ChangeSpec) : _root_.Go.OpenSpec := { _root_.Go.OpenSpec.ofChange s with cond := some uptoSmall }

/-- 'seedlinglaw30.CfgTells', WHERE WHAT IT READS IS OF BULK AT MOST 1048576: true; the input reads as it did. -/
def cfgTellsUptoRow : OpenClaim := { program := "ytmpccinbeepbgaa", sum := "514aad806ef0511c999ac3500727421e217772e17c7973b07e2bf077a8364f6f", func := "seedling/seedlinglaw30.CfgTells", spec := "cfgTells", unfollowed := true, recurses := true, apart := false, narrowed := true }
def CfgTellsUptoSaid : Prop := cfgTellsUptoRow.holds Try.pinned (OpenSpec.upto cfgTellsSpec)

/-- 'seedlinglaw30.CfgSmall', WHERE WHAT IT READS IS OF BULK AT MOST 1048576: true; the input reads as it did. -/
def cfgSmallUptoRow : OpenClaim := { program := "ytmpccinbeepbgaa", sum := "514aad806ef0511c999ac3500727421e217772e17c7973b07e2bf077a8364f6f", func := "seedling/seedlinglaw30.CfgSmall", spec := "cfgSmall", unfollowed := true, recurses := true, apart := false, narrowed := true }
def CfgSmallUptoSaid : Prop := cfgSmallUptoRow.holds Try.pinned (OpenSpec.upto cfgSmallSpec)

/-- 'seedlinglaw30.CfgOne', WHERE WHAT IT READS IS OF BULK AT MOST 1048576: true; the input reads as it did. -/
def cfgOneUptoRow : OpenClaim := { program := "ytmpccinbeepbgaa", sum := "514aad806ef0511c999ac3500727421e217772e17c7973b07e2bf077a8364f6f", func := "seedling/seedlinglaw30.CfgOne", spec := "cfgOne", unfollowed := true, recurses := true, apart := false, narrowed := true }
def CfgOneUptoSaid : Prop := cfgOneUptoRow.holds Try.pinned (OpenSpec.upto cfgOneSpec)

/-- 'seedlinglaw30.CfgFronts', WHERE WHAT IT READS IS OF BULK AT MOST 1048576: true; the input reads as it did. -/
def cfgFrontsUptoRow : OpenClaim := { program := "ytmpccinbeepbgaa", sum := "514aad806ef0511c999ac3500727421e217772e17c7973b07e2bf077a8364f6f", func := "seedling/seedlinglaw30.CfgFronts", spec := "cfgFronts", unfollowed := true, recurses := true, apart := false, narrowed := true }
def CfgFrontsUptoSaid : Prop := cfgFrontsUptoRow.holds Try.pinned (OpenSpec.upto cfgFrontsSpec)

/-- 'seedlinglaw30.CfgTree', WHERE WHAT IT READS IS OF BULK AT MOST 1048576: true; the input reads as it did. -/
def cfgTreeUptoRow : OpenClaim := { program := "ytmpccinbeepbgaa", sum := "514aad806ef0511c999ac3500727421e217772e17c7973b07e2bf077a8364f6f", func := "seedling/seedlinglaw30.CfgTree", spec := "cfgTree", unfollowed := true, recurses := true, apart := false, narrowed := true }
def CfgTreeUptoSaid : Prop := cfgTreeUptoRow.holds Try.pinned (OpenSpec.upto cfgTreeSpec)

end Rows
end Go.Proofs.Ytmpccinbeepbgaa
