/- Walks: escape: places. -/
import Derived.Test.YtnfkcdnkmcifbaaDoorPa
import Derived.Test.YtnfkcdnkmcifbaaDoorChecked
import Derived.WalkKit
namespace Go.Proofs.YtnfkcdnkmcifbaaDoor
open Go.RowKit
set_option maxRecDepth 100000
set_option maxHeartbeats 2000000

/-- The signs that may not stand for themselves in a place. -/
def nmd (p : Int) : ByteArray := if p = 1 then ⟨#[92, 34]⟩ else if p = 2 then ⟨#[92, 93, 45]⟩ else ⟨#[]⟩
theorem named_any (p : Int) (w : World) : Calls Tryd.prog 48 #[.int .i64 p] w fun e w' => e = .returned (.tuple #[.string (nmd p), .bool (isPl p)]) ∧ w' = w := by
 by_cases h1 : p = 1
 ·subst h1
  go_enter Tryd.func48, Tryd.ntmps48
  go_wp2_with fail
  go_ret2
  exact ⟨rfl, rfl⟩
 ·by_cases h2 : p = 2
  ·subst h2
   go_enter Tryd.func48, Tryd.ntmps48
   go_wp2_with fail
   go_ret2
   exact ⟨rfl, rfl⟩
  ·have e1 : nmd p = ⟨#[]⟩ := by unfold nmd; rw [if_neg h1, if_neg h2]
   have e2 : isPl p = false := by unfold isPl; simp [h1, h2]
   rw [e1, e2]
   go_enter Tryd.func48, Tryd.ntmps48
   go_wp2_with fail
   go_ret2
   exact ⟨rfl, rfl⟩
end Go.Proofs.YtnfkcdnkmcifbaaDoor
