/- Walks: sets of bytes, third part; what may be an operator. -/
import Derived.Test.YtnfkcdnkmcifbaaDoorC2
namespace Go.Proofs.YtnfkcdnkmcifbaaDoor
open Go.RowKit

set_option maxRecDepth 100000 in
set_option maxHeartbeats 1000000 in
theorem orF_any (w : World) (ao : Option Addr) (cap n : Nat) (Ws : List (Nat → Nat)) (hs : Sv w ao n cap 4 (cws Ws)) (hW : ∀ W ∈ Ws, Words W) :
    Calls Tryd.prog 32 #[.slice ao n cap] w fun r w' => r = .returned (.agg (cw (orL Ws))) ∧ Below w.heap.size w w' := by
  have HSl := Lib.hid hs; clear hs
  have HZ := Lib.hid hW; clear hW
  have K2 : Hid ((Tryd.prog.info? 31).map (·.size) = some (cw (orL Ws)).size) := cw_info.1
  go_enter Tryd.func32, Tryd.ntmps32
  go_wp2_with fail
  have HB := Lib.hid ((Below.refl w.heap.size w).alloc (Nat.le_refl _) (.cells #[.int .u64 0, .int .u64 0, .int .u64 0, .int .u64 0] 31))
  have HR := Lib.hid (show hrow (w.alloc (.cells #[.int .u64 0, .int .u64 0, .int .u64 0, .int .u64 0] 31)) w.heap.size (cw noW) 31 from hrow.new _ _ _)
  revert HB HR
  generalize w.alloc (.cells #[.int .u64 0, .int .u64 0, .int .u64 0, .int .u64 0] 31) = wb
  intro HB HR
  refine (fold_any wb ao cap n Ws (HSl.out.below HB.out) HZ.out).mono ?_
  rintro e w2 ⟨rfl, hb2⟩
  have HB2 := Lib.hid hb2; clear hb2
  have HR2 := Lib.hid (HR.out.below HB2.out)
  go_wp2_with (first
    | (with_reducible refine wpList_store_row rfl 31 (.tmp 2) (.tmp 5) rfl w.heap.size (cw (orL Ws)) rfl rfl 31 _ HR2.out.h K2.out rfl (cw_one _) ?_))
  refine bodyPost_ret (results_cell_row rfl _ _ w.heap.size 31 _ _ _ rfl (setRow_heap _ _ _ _ _ _ HR2.out) Tryd.underlying31 rfl K2.out) rfl ?_
  exact ⟨rfl, below_setRow (HB.out.trans (HB2.out.mono HB.out.size)) (Nat.le_refl _) _⟩

end Go.Proofs.YtnfkcdnkmcifbaaDoor
