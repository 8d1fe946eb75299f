/- Walk: EscapeTells. -/
import Derived.Test.YtlfnniipkdcpdaaDoorEl
namespace Go.Proofs.YtlfnniipkdcpdaaDoor
open Go.RowKit
set_option maxRecDepth 100000
set_option maxHeartbeats 4000000

theorem byc_of (l : List UInt8) : byc (l.map fun c => (c.toNat : Int)) = Lib.byteCells l := by simp [byc, Lib.byteCells]
/-- Bytes that were lent, read. -/
theorem lent_sv {w : World} {g n : Nat} {W M : List Int} (h : hrow w g (byc (W ++ M)).toArray 5) (hn : n = W.length) (hM : M.length = 12) (hm : n ≤ 100000) : Sv w (some ⟨g, 0, none⟩) n (n + 12) 1 (byc W) := by
 have h1 := (Sv.of_hrow h (n + 12) 1 (by unfold maxLen; omega) (by simp [byc_len]; omega)).take n (by omega)
 have e : (byc (W ++ M)).toArray.toList.take (n * 1) = byc W := by
  rw [byc_append, Nat.mul_one]
  show List.take n (byc W ++ byc M) = _
  rw [List.take_left' (by rw [byc_len]; exact hn.symm)]
 rw [e] at h1
 exact h1
theorem tells_any (p : Int) (ao : Option Addr) (n cap : Nat) (l : List UInt8) (s : ByteArray) (a : Int) (w : World) (hs : Sv w ao n cap 1 (Lib.byteCells l)) (hcp : n ≤ 140737488355328) (hm : s.size ≤ 140737488355328) (h : TzOk w) :
  Calls Tryd.prog 3 #[.int .i64 p, .slice ao n cap, .string s, .int .i64 a] w fun e w' => e = .returned (.bool true) ∧ Below w.heap.size w w' := by
 have h2 := hs.le
 have hI : (n : Int) + s.size ≤ 281474976710656 := by omega
 by_cases hc : 1000 < n + s.size
 ·have hcI : (1000 : Int) < n + s.size := by omega
  have H := Lib.hid (awake_any w h)
  clear h hs
  go_enter Tryd.func3, Tryd.ntmps3
  go_wp2_with fail
  refine H.out.mono ?_
  rintro e x ⟨rfl, hb⟩
  have B := Lib.hid hb; clear hb
  go_wp2_with fail
  go_ret
  exact ⟨rfl, B.out⟩
 ·have hcI : (n : Int) + s.size ≤ 1000 := by omega
  have hn : n ≤ 1000 := by omega
  have hs2 : s.size ≤ 1000 := by omega
  have HT := Lib.hid h
  have HS := Lib.hid hs
  have hl : l.length = n := by have := hs.len; rw [Lib.byteCells_length] at this; omega
  have HS2 : Hid (Sv w ao n cap 1 (byc (l.map fun c => (c.toNat : Int)))) := by unfold Hid; rw [byc_of]; exact hs
  have HW : Hid (n = (l.map fun c => (c.toNat : Int)).length) := by unfold Hid; rw [List.length_map]; exact hl.symm
  have HC := Lib.hid (byc_of l)
  clear h hs hl hc
  generalize (l.map fun c => (c.toNat : Int)) = W at *
  go_enter Tryd.func3, Tryd.ntmps3
  go_wp2_with fail
  refine (lentBy_any mbI markBy_any w ao n cap W HS2.out (by omega)).mono ?_
  rintro e w1 ⟨rfl, hr, hb⟩
  have B1 := Lib.hid hb
  have HR1 := Lib.hid hr
  have HV := Lib.hid (lent_sv hr HW.out (bmarks_len _ _) (by omega))
  clear hb hr
  go_wp2_with fail
  refine (eall_any p l _ n (n + 12) w1 (by rw [← HC.out]; exact HV.out) (by omega) (HT.out.below B1.out)).mono ?_
  rintro e w2 ⟨rfl, hb⟩
  have B2 := Lib.hid (B1.out.trans (hb.mono B1.out.size))
  have HR2 := Lib.hid (HR1.out.below hb)
  clear hb HR1 HV
  go_wp2_with fail
  refine (rall_any p l ao n cap w2 (HS.out.below B2.out) (by omega)).mono ?_
  rintro e w3 ⟨rfl, hb⟩
  have B3 := Lib.hid (B2.out.trans (hb.mono B2.out.size))
  have HR3 := Lib.hid (HR2.out.below hb)
  clear hb HR2
  generalize (all p l).toArray = A
  go_wp2_with fail
  refine (keptBy_any mbI markBy_any w3 _ ao n cap W HR3.out (HS2.out.below B3.out) (by omega)).mono ?_
  rintro e w4 ⟨rfl, hb⟩
  have B4 := Lib.hid (B3.out.trans (hb.mono B3.out.size))
  clear hb HR3
  go_wp2_with fail
  refine (reads_any p s a w4 (by omega)).mono ?_
  rintro e w5 ⟨rfl, hb⟩
  have B5 := Lib.hid (B4.out.trans (hb.mono B4.out.size))
  clear hb
  go_wp2_with fail
  refine (awake_any w5 (HT.out.below B5.out)).mono ?_
  rintro e w6 ⟨rfl, hb⟩
  have B6 := Lib.hid (B5.out.trans (hb.mono B5.out.size))
  clear hb
  go_wp2_with fail
  go_ret
  exact ⟨rfl, B6.out⟩
end Go.Proofs.YtlfnniipkdcpdaaDoor
