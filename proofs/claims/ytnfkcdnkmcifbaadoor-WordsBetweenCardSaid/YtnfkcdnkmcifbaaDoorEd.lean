/- Walks: escape: a place in a text. -/
import Derived.Test.YtnfkcdnkmcifbaaDoorEs
namespace Go.Proofs.YtnfkcdnkmcifbaaDoor
open Go.RowKit
set_option maxRecDepth 100000
set_option maxHeartbeats 4000000

theorem byte_no (s : ByteArray) (a f : Int) (w : World) (hs : s.size ≤ 1000000) (hf0 : 0 ≤ f) (hf : f ≤ 3) (h : a < 0 ∨ (s.size : Int) - f ≤ a) : Calls Tryd.prog 55 #[.agg #[.string s, .int .i64 a], .int .i64 f] w fun e w' => e = .returned (.tuple #[.int .u8 0, .bool false]) ∧ Below w.heap.size w w' := by
 by_cases ha : a < 0
 ·clear h
  go_enter Tryd.func55, Tryd.ntmps55
  go_wp2_with fail
  go_ret2
  exact ⟨rfl, (Below.refl _ _).alloc (Nat.le_refl _) _⟩
 ·have h2 : (s.size : Int) - f ≤ a := by omega
  clear h
  go_enter Tryd.func55, Tryd.ntmps55
  go_wp2_with fail
  go_ret2
  exact ⟨rfl, (Below.refl _ _).alloc (Nat.le_refl _) _⟩
theorem byte_yes' (s : ByteArray) (k f : Nat) (w : World) (hs : s.size ≤ 1000000) (hf : f ≤ 3) (hk : k + f < s.size) : Calls Tryd.prog 55 #[.agg #[.string s, .int .i64 k], .int .i64 f] w fun e w' => e = .returned (.tuple #[.int .u8 s[k + f].toNat, .bool true]) ∧ Below w.heap.size w w' := by
 have h1 : (k : Int) < (s.size : Int) - f := by omega
 have h0 : (0 : Int) ≤ k := by omega
 have h3 : (k : Int) + f < s.size := by omega
 go_enter Tryd.func55, Tryd.ntmps55
 go_wp2_with fail
 go_ret2
 exact ⟨rfl, (Below.refl _ _).alloc (Nat.le_refl _) _⟩
theorem byte_yes (s : ByteArray) (k f : Nat) (g : Int) (w : World) (hs : s.size ≤ 1000000) (hf : f ≤ 3) (hk : k + f < s.size) (hg : g = f) : Calls Tryd.prog 55 #[.agg #[.string s, .int .i64 k], .int .i64 g] w fun e w' => e = .returned (.tuple #[.int .u8 s[k + f].toNat, .bool true]) ∧ Below w.heap.size w w' := by
 subst hg; exact byte_yes' s k f w hs hf hk
end Go.Proofs.YtnfkcdnkmcifbaaDoor
