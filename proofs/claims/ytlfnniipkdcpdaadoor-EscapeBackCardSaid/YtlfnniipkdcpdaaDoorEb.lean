/- Walks: escape: the reference writes bytes; a digit's number; what it reads. -/
import Derived.Test.YtlfnniipkdcpdaaDoorEa
namespace Go.Proofs.YtlfnniipkdcpdaaDoor
open Go.RowKit
set_option maxRecDepth 100000
set_option maxHeartbeats 4000000

theorem rall_any (p : Int) (l : List UInt8) (ao : Option Addr) (n cap : Nat) (w : World) (hs : Sv w ao n cap 1 (Lib.byteCells l)) (hl : n ≤ 1000000) :
  Calls Tryd.prog 10 #[.int .i64 p, .slice ao n cap] w fun e w' => e = .returned (.string ⟨(all p l).toArray⟩) ∧ Below w.heap.size w w' := by
 have hn : n = l.length := by have := hs.len; rw [Lib.byteCells_length] at this; omega
 obtain ⟨h1, h2⟩ := hs.bound
 have HS := Lib.hid hs; have HN := Lib.hid hn; clear hs hn
 go_enter Tryd.func10, Tryd.ntmps10
 go_wp2_with fail
 go_loopw [5, 6] (fun s i wr => ∃ k : Nat, k ≤ n ∧ i = .int .i64 k ∧ s = .string ⟨(all p (l.take k)).toArray⟩ ∧ Hid (Below w.heap.size w wr)) (fun _ i _ => n - (intOf i).toNat)
 case atStart => exact ⟨0, by omega, rfl, rfl, Below.refl _ _⟩
 case round =>
  obtain ⟨k, hk, rfl, rfl, hI⟩ := hrel
  by_cases hlt : k < n
  ·obtain ⟨a, rfl, hc⟩ := (HS.out.below hI.out).by k (by have := HN.out; omega)
   have HO := Lib.hid (rone_any p (l[k]'(by have := HN.out; omega)) wr)
   have HA := Lib.hid (all_snoc p l k (by have := HN.out; omega))
   have hb1 : (all p (l.take k)).length ≤ 4000000 := by have := all_le4 p (l.take k); rw [List.length_take] at this; omega
   have hb2 := one_le4 p (l[k]'(by have := HN.out; omega))
   generalize l[k]'(by have := HN.out; omega) = c at hc HO HA hb2
   go_wp2_with fail
   refine HO.out.mono ?_
   rintro e x ⟨rfl, hb⟩
   have HB := Lib.hid (hI.out.trans (hb.mono hI.out.size)); clear hb HO
   go_wp2_with fail
   go_roundw
   case rel => exact ⟨k + 1, by omega, by go_num, by rw [HA.out]; rfl, HB⟩
   case measure => simp [intOf]; omega
  ·have HE : Hid (all p (l.take k) = all p l) := by unfold Hid; rw [List.take_of_length_le (by have := HN.out; omega)]
   go_wp2_with fail
   go_ret
   exact ⟨by rw [← HE.out]; rfl, hI.out⟩
/-- The number of a digit, as the reference has it. -/
def dgI (c : UInt8) : Int := match hexv c with | some x => x.toNat | none => -1
theorem rdigit_any (c : UInt8) (w : World) : Calls Tryd.prog 35 #[.int .u8 c.toNat] w fun e w' => e = .returned (.int .i64 (dgI c)) ∧ w' = w := by
 have h255 : (c.toNat : Int) ≤ 255 := by have := c.toNat_lt; omega
 have h0 : (0 : Int) ≤ c.toNat := by omega
 have H : Hid (dgI c = if 48 ≤ (c.toNat : Int) ∧ (c.toNat : Int) ≤ 57 then (c.toNat : Int) - 48 else if 97 ≤ (c.toNat : Int) ∧ (c.toNat : Int) ≤ 102 then (c.toNat : Int) - 87 else if 65 ≤ (c.toNat : Int) ∧ (c.toNat : Int) ≤ 70 then (c.toNat : Int) - 55 else -1) :=
  u8_all (P := fun c => dgI c = if 48 ≤ (c.toNat : Int) ∧ (c.toNat : Int) ≤ 57 then (c.toNat : Int) - 48 else if 97 ≤ (c.toNat : Int) ∧ (c.toNat : Int) ≤ 102 then (c.toNat : Int) - 87 else if 65 ≤ (c.toNat : Int) ∧ (c.toNat : Int) ≤ 70 then (c.toNat : Int) - 55 else -1) (by decide +kernel) c
 generalize (c.toNat : Int) = b at *
 go_enter Tryd.func35, Tryd.ntmps35
 go_wp2_with fail
 all_goals
  go_ret
  refine ⟨?_, rfl⟩
  rw [H.out]
  show Ending.returned (.int .i64 _) = _
  refine ret_int ?_
  repeat' split
  all_goals omega
end Go.Proofs.YtlfnniipkdcpdaaDoor
