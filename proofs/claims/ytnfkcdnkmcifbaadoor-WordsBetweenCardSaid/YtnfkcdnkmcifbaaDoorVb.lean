/- Walks: words: a range over words: what a round keeps. -/
import Derived.Test.YtnfkcdnkmcifbaaDoorVa
import Derived.Test.YtnfkcdnkmcifbaaDoorWf
import Derived.RangeFuncNested
import Derived.RangeFuncBound
import Derived.RangeFuncCalls
import Derived.RangeFuncLeaves
import Derived.Shelf.Abstract
import Derived.Shelf.RegionOpen
import Derived.WalkKit
import Derived.OwnWalkIn
import Derived.TacticsInMore
import Derived.LoopNIn
import Derived.LoopIn
namespace Go.Proofs.YtnfkcdnkmcifbaaDoor
open Go.RowKit Go.Shelf
attribute [local go_sem] Oper.semAt_some
set_option maxRecDepth 100000
set_option maxHeartbeats 1000000

/-- The variable in block b holds nothing, or a row that was laid since the loop began. -/
def BoxOk (b n₀ : Nat) (W : World) : Prop := ∃ ao n c, W.cell? ⟨b, 0, none⟩ = some (.slice ao n c) ∧ ∀ a, ao = some a → n₀ ≤ a.block ∧ a.block < W.heap.size
/-- Is k the block of the row that the variable holds? -/
def RowAt (b : Nat) (W : World) (k : Nat) : Prop := ∃ (a : Addr) (n c : Nat), W.cell? ⟨b, 0, none⟩ = some (.slice (some a) n c) ∧ a.block = k
/-- What a round keeps: all that was laid since the loop began, and the blocks of H, but the row that grows. -/
def KpW (b n₀ : Nat) (H : Nat → Prop) (W W' : World) : Prop :=
 BoxOk b n₀ W → BoxOk b n₀ W' ∧ W.heap.size ≤ W'.heap.size ∧ (∀ k, RowAt b W' k → RowAt b W k ∨ W.heap.size ≤ k) ∧
  ∀ (k : Nat) (cs : Array Value) (t : TypeId) (fr : Nat × Nat), W.heap[k]? = some (Obj.cells cs t fr) → (H k ∨ n₀ ≤ k) → ¬ RowAt b W k → W'.heap[k]? = W.heap[k]?
theorem kpW_t {b n₀ : Nat} {H : Nat → Prop} {A B C : World} (h : KpW b n₀ H A B) (k : KpW b n₀ H B C) : KpW b n₀ H A C := fun hA => by
 obtain ⟨h1, h2, h3, h4⟩ := h hA
 obtain ⟨k1, k2, k3, k4⟩ := k h1
 refine ⟨k1, Nat.le_trans h2 k2, fun j hj => ?_, fun j cs t fr hj hH hn => ?_⟩
 ·rcases k3 j hj with h | h
  ·exact h3 j h
  ·exact .inr (Nat.le_trans h2 h)
 ·have e1 := h4 j cs t fr hj hH hn
  have hlt : j < A.heap.size := (Array.getElem?_eq_some_iff.1 hj).1
  rw [k4 j cs t fr (e1.trans hj) hH (fun hr => by
   rcases h3 j hr with h | h
   ·exact hn h
   ·omega), e1]
theorem cell_cells {W : World} {k o : Nat} {v : Value} (h : W.cell? ⟨k, o, none⟩ = some v) : ∃ (cs : Array Value) (t : TypeId) (fr : Nat × Nat), W.heap[k]? = some (Obj.cells cs t fr) := by
 unfold World.cell? at h
 cases hk : W.heap[k]? with
 | none => simp [hk] at h
 | some ob => cases ob <;> simp_all
theorem kpW_b {b n₀ : Nat} {H : Nat → Prop} (W : World) (l : Nat) (o o' : Obj) (h : W.heap[l]? = some o) (hc : o.isCells = false) : KpW b n₀ H W (W.putObj l o') := fun hb => by
 have hg := grownBy_putObj' W l o'
 have hk : ∀ (k : Nat) (cs : Array Value) (t : TypeId) (fr : Nat × Nat), W.heap[k]? = some (Obj.cells cs t fr) → (W.putObj l o').heap[k]? = W.heap[k]? := fun k cs t fr hk =>
  hg.block k (Array.getElem?_eq_some_iff.1 hk).1 (fun e => by cases e; rw [hk] at h; cases h; cases hc)
 obtain ⟨ao, n, c, h1, h2⟩ := hb
 obtain ⟨cs, t, fr, hh⟩ := cell_cells h1
 have e := hk _ _ _ _ hh
 have ec : (W.putObj l o').cell? ⟨b, 0, none⟩ = W.cell? ⟨b, 0, none⟩ := by unfold World.cell?; simp only [e]
 refine ⟨⟨ao, n, c, ec.trans h1, fun a ha => ⟨(h2 a ha).1, Nat.lt_of_lt_of_le (h2 a ha).2 hg.size⟩⟩, hg.size, fun k ⟨a, n, c, hr, hk⟩ => .inl ⟨a, n, c, ec.symm.trans hr, hk⟩, fun k cs t fr hk' _ _ => hk k cs t fr hk'⟩
end Go.Proofs.YtnfkcdnkmcifbaaDoor
