/- Walks: escape: the signs that have a letter. -/
import Derived.Test.YtnfkcdnkmcifbaaDoorE2
import Derived.Test.YtnfkcdnkmcifbaaDoorMp
import Derived.Maps.Own
import Derived.BigQuiet
namespace Go.Proofs.YtnfkcdnkmcifbaaDoor
open Go.RowKit Go.ChangeMaps
set_option maxRecDepth 100000
set_option maxHeartbeats 2000000

theorem setBlock_new (w : World) (o o' : Obj) : setBlock (w.alloc o) w.heap.size o' = w.alloc o' := by
 unfold setBlock
 show ({ w with heap := (w.heap.push o).setIfInBounds w.heap.size o' } : World) = { w with heap := w.heap.push o' }
 congr 1
 apply Array.ext
 ·simp
 ·intro i h1 h2
  rw [Array.getElem_setIfInBounds (by simpa using h1)]
  by_cases h : w.heap.size = i
  ·subst h; simp
  ·rw [if_neg h, Array.getElem_push, Array.getElem_push]
   have : i < w.heap.size := by simp at h2; omega
   rw [dif_pos this, dif_pos this]

/-- The letters, as the map has them. -/
def shE : Array MapEntry := #[⟨.int .u8 10, .int .u8 110, 0⟩, ⟨.int .u8 13, .int .u8 114, 1⟩, ⟨.int .u8 9, .int .u8 116, 2⟩]
theorem byte_und : Tryd.prog.underlying 5 = some (.int .u8) := by kernel_rfl
theorem short_und : Tryd.prog.underlying 106 = some (.map 5 5) := by kernel_rfl
theorem mapUp (w : World) (es : Array MapEntry) (clock : Nat) (n : Int) (v : Value) (h1 : ∀ x ∈ es.toList, ∃ a, x.key = .int .u8 a) (h2 : ∀ x ∈ es.toList, x.key ≠ .int .u8 n) :
  (Instr.mapUpdate 106 (.map (some w.heap.size)) (.int .u8 n) v).run Tryd.prog (w.alloc (.map es clock)) = .ok () (w.alloc (.map (es.push ⟨.int .u8 n, v, clock⟩) (clock + 1))) := by
 rw [run_map_new (keyInt byte_und) short_und (heap_alloc_new _ _) h1 ⟨n, rfl⟩ h2, setBlock_new]
theorem short_any (w : World) : Calls Tryd.prog 57 #[] w fun e w' => e = .returned (.map (some w.heap.size)) ∧ w' = w.alloc (.map shE 3) := by
 have hmm := @run_makeMap Tryd.prog
 have hmu := mapUp
 go_enter Tryd.func57, Tryd.ntmps57
 go_wp2_with fail
 go_ret
 exact ⟨rfl, rfl⟩
end Go.Proofs.YtnfkcdnkmcifbaaDoor
