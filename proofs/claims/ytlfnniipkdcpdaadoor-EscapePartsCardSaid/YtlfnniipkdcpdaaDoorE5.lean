/- Walks: how many noughts 16 ends in. -/
import Derived.Test.YtlfnniipkdcpdaaDoorE1
import Derived.Test.YtlfnniipkdcpdaaDoorLater
namespace Go.Proofs.YtlfnniipkdcpdaaDoor
open Go.RowKit
set_option maxRecDepth 100000
set_option maxHeartbeats 2000000

/-- The one number of the library's table that is read. -/
def TzOk (w : World) : Prop := w.cell? ⟨5, 15, none⟩ = some (.int .u8 4)
theorem TzOk.below {w w' : World} (h : TzOk w) (hb : Below w.heap.size w w') : TzOk w' := (hb.cell (World.block_lt_of_cell? w _ h)).trans h
theorem tz64_any (w : World) (h : TzOk w) : Calls Tryd.prog 82 #[.int .u64 16] w fun e w' => e = .returned (.int .i64 4) ∧ w' = w := by
 unfold TzOk at h
 go_enter Tryd.func82, Tryd.ntmps82
 have e1 : IntKind.u64.wrap (-16) = 18446744073709551600 := by decide +kernel
 have e2 : bits BinOp.and IntKind.u64 16 18446744073709551600 = 16 := by decide +kernel
 have e3 : IntKind.u64.wrap (16 * 285870213051353865) = 4573923408821661840 := by decide +kernel
 have e4 : (4573923408821661840 : Int) / 288230376151711744 = 15 := by decide +kernel
 go_wp2_with fail
 go_ret
 exact ⟨rfl, rfl⟩
end Go.Proofs.YtlfnniipkdcpdaaDoor
