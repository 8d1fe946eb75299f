/- Walks: what the kit keeps; two lists held against each other; events; counters converted. -/
import Derived.Test.YtbndpmfekglnkaaW14
import Derived.Test.YtbndpmfekglnkaaW6
namespace Go.Proofs.Ytbndpmfekglnkaa
open Go.RowKit

set_option maxHeartbeats 800000 in
theorem kept_any (g : Nat) (ao : Option Addr) (cap : Nat) (zs : List Int) (w : World) (hl : LentAt w g zs) (hs : Sl w ao cap zs) (hbig : zs.length ≤ 100000) :
    Calls Try.prog 14 #[.slice (some ⟨g, 0, none⟩) zs.length (zs.length + 12), .slice ao zs.length cap] w fun r w' => r = .returned (.bool true) ∧ Below w.heap.size w w' := by
  obtain ⟨h1, h2⟩ := hs.bound
  have HSl := Lib.hid hs
  have HLe := Lib.hid hl
  clear hs hl
  go_enter Try.func14, Try.ntmps14
  go_wp2_with fail
  go_loopw [6] (fun i wr => ∃ k : Nat, k ≤ zs.length + 12 ∧ i = .int .i64 k ∧ Below w.heap.size w wr) (fun i _ => zs.length + 12 - (intOf i).toNat)
  case atStart => exact ⟨0, by omega, rfl, Below.refl _ _⟩
  case round =>
    obtain ⟨k, hk, rfl, hb⟩ := hrel
    have HB := Lib.hid hb; clear hb
    by_cases hlt : k < zs.length
    · obtain ⟨a, rfl, hc2⟩ := (HSl.out.below HB.out).2.2.2 k hlt
      have hc1 := (HLe.out.later HB.out).cell k (by omega)
      have hcx : (zs ++ marks 12).getD k 0 = zs.getD k 0 := by simp [List.getD_eq_getElem?_getD, List.getElem?_append_left hlt]
      rw [hcx] at hc1
      clear hcx
      generalize zs.getD k 0 = x at hc1 hc2
      have hd1 : decide ((k : Int) < (zs.length : Int)) = true := by simp; omega
      have hd2 : decide ((zs.length : Int) ≤ (k : Int)) = false := by simp; omega
      have hd3 : decide (zs.length ≤ k) = false := by simp; omega
      have hd4 : decide (k < zs.length) = true := by simp; omega
      have hin : (k : Int) < ((zs.length + 12 : Nat) : Int) := by omega
      have hin2 : (k : Int) < (zs.length : Int) := by omega
      go_wp2_with fail
      go_quiet (fail)
      go_wp2_with fail
      go_roundw
      case rel => exact ⟨k + 1, by omega, by go_num, below_drewN HB.out _⟩
      case measure => simp [intOf]; omega
    · by_cases hlt2 : k < zs.length + 12
      · have hc1 := (HLe.out.later HB.out).cell k hlt2
        have hcx : (zs ++ marks 12).getD k 0 = 8000024 + ((k : Int) - zs.length) := by
          rw [List.getD_eq_getElem?_getD, List.getElem?_append_right (by omega), ← List.getD_eq_getElem?_getD, marks_get _ _ (by omega)]; omega
        rw [hcx] at hc1
        clear hcx
        have hd1 : decide ((k : Int) < (zs.length : Int)) = false := by simp; omega
        have hd2 : decide ((zs.length : Int) ≤ (k : Int)) = true := by simp; omega
        have hd3 : decide (zs.length ≤ k) = true := by simp; omega
        have hd4 : decide (k < zs.length) = false := by simp; omega
        have hin : (k : Int) < ((zs.length + 12 : Nat) : Int) := by omega
        have hm : IntKind.i64.wrap ((k : Int) - (zs.length : Int)) = (k : Int) - (zs.length : Int) := IntWalk.i64_in _ (by omega)
        have HM : Hid (∀ w, Calls Try.prog 25 #[.int .i64 1, .int .i64 ((k : Int) - (zs.length : Int))] w fun e w' => e = .returned (.int .i64 (8000024 + ((k : Int) - zs.length))) ∧ w' = w) := fun w => (markEvent_any 1 ((k : Int) - zs.length) w (by decide) (by decide) (by omega) (by omega)).mono fun e w' ⟨h1, h2⟩ => ⟨by rw [h1]; rfl, h2.symm⟩
        go_wp2_with fail
        go_quiet ((go_at_call 25; exact Calls.quiet_of_same (HM.out _)))
        go_wp2_with fail
        go_roundw
        case rel => exact ⟨k + 1, by omega, by go_num, below_drewN HB.out _⟩
        case measure => simp [intOf]; omega
      · have hke : k = zs.length + 12 := by omega
        subst hke
        go_wp2_with fail
        go_ret
        exact ⟨rfl, HB.out⟩
end Go.Proofs.Ytbndpmfekglnkaa
