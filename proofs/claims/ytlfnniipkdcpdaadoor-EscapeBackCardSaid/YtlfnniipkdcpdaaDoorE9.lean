/- Walks: escape: the reference's signs, a byte and bytes written. -/
import Derived.Test.YtlfnniipkdcpdaaDoorE8
namespace Go.Proofs.YtlfnniipkdcpdaaDoor
open Go.RowKit
set_option maxRecDepth 100000
set_option maxHeartbeats 4000000

theorem ris_any (p : Int) (w : World) : Calls Tryd.prog 28 #[.int .i64 p] w fun e w' => e = .returned (.bool (isPl p)) ∧ w' = w := by
 unfold isPl
 by_cases h1 : p = 1
 ·subst h1
  go_enter Tryd.func28, Tryd.ntmps28
  go_wp2_with fail
  go_ret
  exact ⟨rfl, rfl⟩
 ·have h2 : (p == 1) = false := by simpa using h1
  clear h1
  go_enter Tryd.func28, Tryd.ntmps28
  go_wp2_with fail
  go_ret
  exact ⟨by rw [h2]; simp, rfl⟩
theorem rspecial_any (p : Int) (c : UInt8) (w : World) : Calls Tryd.prog 29 #[.int .i64 p, .int .u8 c.toNat] w fun e w' => e = .returned (.bool (spec p c)) ∧ w' = w := by
 have H : Hid (spec p c = (decide ((c.toNat : Int) < 32) || decide (126 < (c.toNat : Int)) || ((c.toNat : Int) == 92) || (p == 1 && ((c.toNat : Int) == 34)) || (p == 2 && (((c.toNat : Int) == 93) || ((c.toNat : Int) == 45))))) := by
  unfold Hid spec
  have h1 := u8_all (P := fun c => ((decide (c < 32) || decide (126 < c) || c == 92) = (decide ((c.toNat : Int) < 32) || decide (126 < (c.toNat : Int)) || ((c.toNat : Int) == 92))) ∧ (c == 34) = ((c.toNat : Int) == 34) ∧ (c == 93) = ((c.toNat : Int) == 93) ∧ (c == 45) = ((c.toNat : Int) == 45)) (by decide +kernel) c
  rw [h1.1, h1.2.1, h1.2.2.1, h1.2.2.2]
 rw [H.out]; clear H
 have h0 : (0 : Int) ≤ c.toNat := by omega
 generalize (c.toNat : Int) = b at h0 ⊢
 obtain ⟨b1, e1⟩ : ∃ b1, decide (b < 32) = b1 := ⟨_, rfl⟩
 obtain ⟨b2, e2⟩ : ∃ b2, decide (126 < b) = b2 := ⟨_, rfl⟩
 obtain ⟨b3, e3⟩ : ∃ b3, (b == 92) = b3 := ⟨_, rfl⟩
 obtain ⟨b4, e4⟩ : ∃ b4, (b == 34) = b4 := ⟨_, rfl⟩
 obtain ⟨b5, e5⟩ : ∃ b5, (b == 93) = b5 := ⟨_, rfl⟩
 obtain ⟨b6, e6⟩ : ∃ b6, (b == 45) = b6 := ⟨_, rfl⟩
 obtain ⟨b7, e7⟩ : ∃ b7, (p == 1) = b7 := ⟨_, rfl⟩
 obtain ⟨b8, e8⟩ : ∃ b8, (p == 2) = b8 := ⟨_, rfl⟩
 rw [e1, e2, e3, e4, e5, e6, e7, e8]
 cases b1 <;> cases b2 <;> cases b3 <;> cases b4 <;> cases b5 <;> cases b6 <;> cases b7 <;> cases b8 <;>
 (go_enter Tryd.func29, Tryd.ntmps29
  go_wp2_with fail
  go_ret
  exact ⟨rfl, rfl⟩)
end Go.Proofs.YtlfnniipkdcpdaaDoor
