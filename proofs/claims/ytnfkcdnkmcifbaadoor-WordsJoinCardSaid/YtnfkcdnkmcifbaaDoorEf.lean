/- Walks: escape: what stands behind a backslash. -/
import Derived.Test.YtnfkcdnkmcifbaaDoorEe
import Derived.Laws.IdiomRangeMap
import Derived.Maps.RangeRun
namespace Go.Proofs.YtnfkcdnkmcifbaaDoor
open Go.RowKit Go.ChangeMaps
set_option maxRecDepth 100000
set_option maxHeartbeats 4000000

def lett (d : UInt8) : Option (UInt8 × Nat) := if d == 110 then some (10, 2) else if d == 114 then some (13, 2) else if d == 116 then some (9, 2) else if d == 92 || d == 34 || d == 93 || d == 45 then some (d, 2) else none
def lettA (l : List UInt8) (a : Int) : Option (UInt8 × Nat) := if 0 ≤ a ∧ a < l.length then (match l.drop a.toNat with | c :: d :: _ => if c == 92 then lett d else none | _ => none) else none
theorem lettA_out {s : ByteArray} {a : Int} (h : a < 0 ∨ (s.size : Int) ≤ a) : lettA s.data.toList a = none := by
 unfold lettA
 rw [if_neg (by rw [ba_len]; omega)]
theorem lettA_last {s : ByteArray} {k : Nat} (hk : k + 1 = s.size) : lettA s.data.toList k = none := by
 unfold lettA
 rw [if_pos ⟨by omega, by rw [ba_len]; omega⟩, Int.toNat_natCast, drop_at (by omega), List.drop_eq_nil_of_le (by rw [ba_len]; omega)]
theorem lettA_in {s : ByteArray} {k : Nat} (hk : k + 1 < s.size) : lettA s.data.toList k = if s[k] == 92 then lett s[k + 1] else none := by
 unfold lettA
 rw [if_pos ⟨by omega, by rw [ba_len]; omega⟩, Int.toNat_natCast, drop_at (by omega), drop_at hk]
/-- A world that is another but for what was drawn. -/
def Sim (v w : World) : Prop := v.heap = w.heap ∧ v.os = w.os ∧ v.tape = w.tape ∧ v.output = w.output
theorem Sim.below {v w : World} (h : Sim v w) {B : Nat} {a : World} (hb : Below B a w) : Below B a v := ⟨h.2.1.trans hb.os, h.2.2.1.trans hb.tape, h.2.2.2.trans hb.output, by rw [h.1]; exact hb.size, fun k hk => by rw [h.1]; exact hb.block k hk⟩
/-- The next entry of a map that is gone through. -/
theorem next_it {P : Program} (v : World) (bm since : Nat) (seen : Array Nat) (es : Array MapEntry) (hb : v.heap[bm]? = some (.map es since)) (hold : ∀ x ∈ es.toList, x.born < since) :
  ((leftOf es seen).size = 0 ∧ ∀ ty, (Instr.next (.pointer (some ⟨v.heap.size, 0, none⟩)) false ty).run P (v.alloc (.mapIter (some bm) since seen since)) = .ok (.tuple #[.bool false]) (v.alloc (.mapIter (some bm) since seen since))) ∨
  ∃ e ∈ (leftOf es seen).toList, ∃ v' : World, Sim v' v ∧ (∀ ty, (Instr.next (.pointer (some ⟨v.heap.size, 0, none⟩)) false ty).run P (v.alloc (.mapIter (some bm) since seen since)) = .ok (.tuple #[.bool true, e.key, e.val]) (v'.alloc (.mapIter (some bm) since (seen.push e.born) since))) := by
 have hlt := lt_block hb
 have h1 : (v.alloc (.mapIter (some bm) since seen since)).heap[v.heap.size]? = some (.mapIter (some bm) since seen since) := heap_alloc_new _ _
 have h2 : (v.alloc (.mapIter (some bm) since seen since)).heap[bm]? = some (.map es since) := by rw [heap_alloc_old v _ hlt]; exact hb
 by_cases h0 : (leftOf es seen).size = 0
 ·refine .inl ⟨h0, fun ty => ?_⟩
  rcases run_next_at (P := P) (v.alloc (.mapIter (some bm) since seen since)) ty v.heap.size bm since since seen es since h1 h2 hold (Nat.le_refl _) with ⟨_, h⟩ | ⟨e, he, _⟩
  ·exact h
  ·have : (leftOf es seen).toList = [] := List.eq_nil_of_length_eq_zero (by simpa using h0)
   rw [this] at he; cases he
 ·have hty : ∀ ty ty', (Instr.next (.pointer (some ⟨v.heap.size, 0, none⟩)) false ty).run P (v.alloc (.mapIter (some bm) since seen since)) = (Instr.next (.pointer (some ⟨v.heap.size, 0, none⟩)) false ty').run P (v.alloc (.mapIter (some bm) since seen since)) := by
   intro ty ty'
   simp only [Instr.next, getObj, Sem.run_bind, Sem.run, h1, h2, Result.andThen]
  rcases run_next_at (P := P) (v.alloc (.mapIter (some bm) since seen since)) 0 v.heap.size bm since since seen es since h1 h2 hold (Nat.le_refl _) with ⟨h, _⟩ | ⟨e, he, w1, hw, hrun⟩
  ·exact absurd h h0
  ·rcases hw with rfl | rfl
   ·exact .inr ⟨e, he, v, ⟨rfl, rfl, rfl, rfl⟩, fun ty => by rw [hty ty 0, hrun, setBlock_new]⟩
   ·refine .inr ⟨e, he, v.drew, ⟨rfl, rfl, rfl, rfl⟩, fun ty => ?_⟩
    rw [hty ty 0, hrun]
    exact congrArg _ (setBlock_new v.drew _ _)
end Go.Proofs.YtnfkcdnkmcifbaaDoor
