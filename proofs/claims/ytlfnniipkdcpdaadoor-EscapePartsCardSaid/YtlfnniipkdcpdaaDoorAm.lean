/- Walks: marks. -/
import Derived.Test.YtlfnniipkdcpdaaDoorFr
import Derived.Test.YtlfnniipkdcpdaaDoorChecked
import Derived.BigQuiet
import Derived.Deep.Onto
import Derived.IntWalk
namespace Go.Proofs.YtlfnniipkdcpdaaDoor
open Go.RowKit
set_option maxRecDepth 100000

theorem hrow.setCell {w : World} {g : Nat} {cs : Array Value} {t : TypeId} (h : hrow w g cs t) (o : Nat) (v : Value) : hrow (w.setCell ⟨g, o, none⟩ v) g (cs.setIfInBounds o v) t := heap_setCell_same _ _ _ _ _ _ h.h
/-- The mark of a place in a list. -/
def mkI (k i : Int) : Int := 1000003 * (k + 7) + i
theorem mark_any (w : World) (k i : Int) (h0 : 0 ≤ k) (h1 : k ≤ 1000) (h2 : 0 ≤ i) (h3 : i ≤ 10000) :
  Calls Tryd.prog 30 #[.int .i64 k, .int .i64 i] w fun r w' => r = .returned (.int .i64 (mkI k i)) ∧ w = w' := by
 go_enter Tryd.func30, Tryd.ntmps30
 go_wp2_with fail
 go_ret
 exact ⟨rfl, rfl⟩
end Go.Proofs.YtlfnniipkdcpdaaDoor
