/- Walks and plain laws: T1. -/
import Derived.Test.YtnfkcdnkmcifbaaGreatDoorM15
namespace Go.Proofs.YtnfkcdnkmcifbaaGreatDoor
open Go.RowKit
set_option maxRecDepth 100000
set_option maxHeartbeats 8000000

def headA : Array Value := #[.string ⟨#[]⟩, .string ⟨#[97]⟩, .string ⟨#[97, 58]⟩, .string ⟨#[34]⟩, .string ⟨#[34, 92]⟩, .string ⟨#[91]⟩, .string ⟨#[91, 97, 45]⟩, .string ⟨#[91, 92]⟩, .string ⟨#[60]⟩, .string ⟨#[35]⟩, .string ⟨#[35, 10]⟩, .string ⟨#[34, 92, 120, 52]⟩]
theorem headA_at (i : Nat) (hi : i < 12) : ∃ h : ByteArray, headA[i]? = some (.string h) ∧ h.size ≤ 4 := by
 have : i = 0 ∨ i = 1 ∨ i = 2 ∨ i = 3 ∨ i = 4 ∨ i = 5 ∨ i = 6 ∨ i = 7 ∨ i = 8 ∨ i = 9 ∨ i = 10 ∨ i = 11 := by omega
 rcases this with rfl | rfl | rfl | rfl | rfl | rfl | rfl | rfl | rfl | rfl | rfl | rfl <;> exact ⟨_, rfl, by decide⟩
theorem conv_one (c : UInt8) (w : World) : (convert 25 9 (.slice (some ⟨w.heap.size, 0, none⟩) 1 1)).run Tryz.prog (w.alloc (.cells #[.int .u8 c.toNat] 5)) = .ok (.string (tx [c])) (w.alloc (.cells #[.int .u8 c.toNat] 5)) :=
 conv_sv _ _ 1 1 [c] (Sv.lit w 5 #[.int .u8 c.toNat] 1 1 (by unfold maxLen; omega) rfl) rfl
theorem by_info : (Tryz.prog.info? 5).map (fun i => (i.zero, i.size, i.bytes)) = some (some (.int .u8 0), 1, 1) := by kernel_rfl
theorem mk_long : ∃ Z : Array Value, Z.size = 16385 ∧ (∀ i, i < 16385 → Z[i]? = some (.int .u8 0)) ∧ ∀ wx : World, (Instr.makeSlice 25 (.int .i64 16385) (.int .i64 16385)).run Tryz.prog wx = .ok (.slice (some ⟨wx.heap.size, 0, none⟩) 16385 16385) (wx.alloc (.cells Z 5)) := by
 obtain ⟨i, hi, hz, hs, hb⟩ := info_parts by_info
 refine ⟨madeCells (Value.int .u8 0).cells 16385, by simp [madeCells], fun j hj => ?_, fun wx => ?_⟩
 ·have e : j % 1 = 0 := Nat.mod_one j
  simp [madeCells, hj, Value.cells, e]
 ·have := run_make (P := Tryz.prog) wx 25 5 i (.int .u8 0) Tryz.underlying25 hi hz .i64 .i64 16385 16385 (by decide) (by decide) (by rw [hb]; decide) (by decide)
  rw [hs] at this
  exact this
theorem skp_rep : ∀ n, skp false (List.replicate n 32) = n
 | 0 => rfl
 | n + 1 => by rw [List.replicate_succ]; simp only [skp]; rw [if_pos (by decide), skp_rep n]; omega
theorem words_rep (n : Nat) : wordsOf (List.replicate n 32) = ([⟨1, n, n, [], 0, []⟩], none) := by
 have e : nextW (List.replicate n 32) 0 = some ⟨1, n, n, [], 0, []⟩ := by
  unfold nextW
  rw [List.drop_zero, skp_rep, Nat.zero_add, List.drop_eq_nil_of_le (by simp)]
  rfl
 unfold wordsOf wordsF
 rw [e]
 rfl
/-- So many blanks in a row, as a text. -/
theorem conv_rep (w : World) (g o n : Nat) (cs : Array Value) (h : hrow w g cs 5) (hc : ∀ i, i < o + n → cs[i]? = some (.int .u8 32)) : (convert 25 9 (.slice (some ⟨g, o, none⟩) n n)).run Tryz.prog w = .ok (.string (tx (List.replicate n 32))) w := by
 have := run_convert_bytes_back (P := Tryz.prog) w 25 9 5 ⟨g, o, none⟩ n (List.replicate n 32) (by kernel_rfl) (by kernel_rfl) (by kernel_rfl) (fun j hj => by
  have e : (⟨g, o, none⟩ : Addr).add j = ⟨g, o + j, none⟩ := by unfold Addr.add; split <;> simp_all
  rw [List.length_replicate] at hj
  rw [e, h.cell, hc _ (by omega)]
  simp)
 rw [List.length_replicate] at this
 exact this
def endsI : Array Value := #[.int .i64 (-9223372036854775808), .int .i64 (-1), .int .i64 3, .int .i64 4, .int .i64 5, .int .i64 9223372036854775807]
theorem endsI_at (i : Nat) (hi : i < 6) : ∃ m : Int, endsI[i]? = some (.int .i64 m) := by
 have : i = 0 ∨ i = 1 ∨ i = 2 ∨ i = 3 ∨ i = 4 ∨ i = 5 := by omega
 rcases this with rfl | rfl | rfl | rfl | rfl | rfl <;> exact ⟨_, rfl⟩
def S46 : ByteArray := ⟨#[65, 58, 49, 48, 32, 60, 45, 32, 40, 98, 32, 47, 32, 34, 99, 92, 110, 34, 32, 91, 100, 45, 102, 92, 93, 120, 93, 41, 42, 43, 63, 32, 33, 38, 46, 32, 59, 32, 35, 32, 114, 10, 95, 57, 58, 48]⟩
def S12 : ByteArray := ⟨#[97, 58, 57, 34, 91, 93, 45, 60, 35, 92, 32, 0]⟩
theorem reads_at (s : ByteArray) (a : Int) (w : World) (hs : s.size ≤ 1000) : Calls Tryz.prog 6 #[.string s, .int .i64 a] w fun e w' => e = .returned (.bool true) ∧ Below w.heap.size w w' := reads_any s a w (by omega)
theorem ends_any (w : World) : Calls Tryz.prog 4 #[] w fun e w' => e = .returned (.bool true) ∧ Below w.heap.size w w' := by
 have HRd := Lib.hid reads_at
 have B0 := Lib.hid ((Below.refl w.heap.size w).alloc (Nat.le_refl _) (.cells #[.string ⟨#[]⟩, .string ⟨#[97]⟩, .string ⟨#[97, 58]⟩, .string ⟨#[34]⟩, .string ⟨#[34, 92]⟩, .string ⟨#[91]⟩, .string ⟨#[91, 97, 45]⟩, .string ⟨#[91, 92]⟩, .string ⟨#[60]⟩, .string ⟨#[35]⟩, .string ⟨#[35, 10]⟩, .string ⟨#[34, 92, 120, 52]⟩] 9))
 have R0 := Lib.hid (show hrow (w.alloc (.cells #[.string ⟨#[]⟩, .string ⟨#[97]⟩, .string ⟨#[97, 58]⟩, .string ⟨#[34]⟩, .string ⟨#[34, 92]⟩, .string ⟨#[91]⟩, .string ⟨#[91, 97, 45]⟩, .string ⟨#[91, 92]⟩, .string ⟨#[60]⟩, .string ⟨#[35]⟩, .string ⟨#[35, 10]⟩, .string ⟨#[34, 92, 120, 52]⟩] 9)) w.heap.size headA 9 from hrow.new _ _ _)
 go_enter Tryz.func4, Tryz.ntmps4
 go_wp2_with fail
 generalize w.alloc (.cells #[.string ⟨#[]⟩, .string ⟨#[97]⟩, .string ⟨#[97, 58]⟩, .string ⟨#[34]⟩, .string ⟨#[34, 92]⟩, .string ⟨#[91]⟩, .string ⟨#[91, 97, 45]⟩, .string ⟨#[91, 92]⟩, .string ⟨#[60]⟩, .string ⟨#[35]⟩, .string ⟨#[35, 10]⟩, .string ⟨#[34, 92, 120, 52]⟩] 9) = w0 at *
 go_loopw [2] (fun i wr => ∃ b : Nat, b ≤ 256 ∧ i = .int .i64 b ∧ Hid (hrow wr w.heap.size headA 9 ∧ Below w.heap.size w wr)) (fun i _ => 256 - (intOf i).toNat)
 case atStart => exact ⟨0, by omega, rfl, R0.out, B0.out⟩
 case round =>
  clear R0 B0
  obtain ⟨b, hb, rfl, HI⟩ := hrel
  by_cases hlt : b < 256
  ·have hbI : (b : Int) < 256 := by omega
   have hb0 : (0 : Int) ≤ b := by omega
   have HBL := Lib.hid hlt
   obtain ⟨c, hc⟩ : ∃ c : UInt8, (b : Int) = (c.toNat : Int) := ⟨UInt8.ofNat b, by rw [UInt8.toNat_ofNat']; omega⟩
   have hwr : IntKind.u8.wrap (b : Int) = (c.toNat : Int) := by rw [← hc]; simp [IntKind.wrap, IntKind.bits, IntKind.signed]; omega
   have HCv := conv_one c wr
   have R1 := Lib.hid (HI.out.1.below ((Below.refl _ wr).alloc (Nat.le_refl _) (.cells #[.int .u8 c.toNat] 5)))
   have B1 := Lib.hid (HI.out.2.alloc HI.out.2.size (.cells #[.int .u8 c.toNat] 5))
   have HOz : Hid ((tx [c]).size = 1) := tx_size [c]
   clear hc hlt HI
   go_wp2_with fail
   clear HCv hwr
   generalize tx [c] = o at *
   go_loopw [4] (fun i wr => ∃ j : Nat, j ≤ 12 ∧ i = .int .i64 j ∧ Hid (hrow wr w.heap.size headA 9 ∧ Below w.heap.size w wr)) (fun i _ => 12 - (intOf i).toNat)
   case atStart => exact ⟨0, by omega, by go_num, R1.out, B1.out⟩
   case round =>
    clear R1 B1
    obtain ⟨j, hj, rfl, HI⟩ := hrel
    by_cases hjl : j < 12
    ·have hjI : (j : Int) < 12 := by omega
     have hj0 : (0 : Int) ≤ j := by omega
     have HJL := Lib.hid hjl
     obtain ⟨h, hh, hhz⟩ := headA_at j hjl
     have k0 := (HI.out.1.cell j).trans hh
     have HHz := Lib.hid hhz
     have hc1 : ¬ 9223372036854775807 < h.size + o.size := by have := HOz.out; omega
     have hc2 : ¬ 9223372036854775807 < h.size + o.size + 3 := by have := HOz.out; omega
     have HR1 := Lib.hid (HRd.out (h ++ o) 0 wr (by rw [ByteArray.size_append]; have := HOz.out; omega))
     have HR2 := Lib.hid (fun x => HRd.out (h ++ o ++ ⟨#[49, 93, 34]⟩) 0 x (by rw [ByteArray.size_append, ByteArray.size_append]; have := HOz.out; show h.size + o.size + 3 ≤ 1000; omega))
     clear hjl hh hhz
     go_wp2_with fail
     refine HR1.out.mono ?_
     rintro e x ⟨rfl, hb⟩
     have R2 := Lib.hid (HI.out.1.below hb)
     have B2 := Lib.hid (HI.out.2.trans (hb.mono HI.out.2.size))
     have k1 := (R2.out.cell j).trans ((HI.out.1.cell j).symm.trans k0)
     clear HI hb HR1 k0
     go_wp2_with fail
     refine (HR2.out _).mono ?_
     rintro e y ⟨rfl, hb⟩
     have R3 := Lib.hid (R2.out.below hb)
     have B3 := Lib.hid (B2.out.trans (hb.mono B2.out.size))
     clear hb HR2 k1 R2 B2
     go_wp2_with fail
     go_roundw
     case rel => exact ⟨j + 1, HJL.out, by go_num, R3.out, B3.out⟩
     case measure => have := HJL.out; simp [intOf]; omega
    ·have hjI : ¬ (j : Int) < 12 := by omega
     go_wp2_with fail
     go_roundw
     case rel => exact ⟨b + 1, HBL.out, by go_num, HI.out⟩
     case measure => have := HBL.out; simp [intOf]; omega
  ·have hbI : ¬ (b : Int) < 256 := by omega
   have B1 := Lib.hid HI.out.2
   obtain rfl : b = 256 := by omega
   clear HI
   go_wp2_with fail
   generalize hS : (⟨#[65, 58, 49, 48, 32, 60, 45, 32, 40, 98, 32, 47, 32, 34, 99, 92, 110, 34, 32, 91, 100, 45, 102, 92, 93, 120, 93, 41, 42, 43, 63, 32, 33, 38, 46, 32, 59, 32, 35, 32, 114, 10, 95, 57, 58, 48]⟩ : ByteArray) = S at *
   generalize hT : (⟨#[97, 58, 57, 34, 91, 93, 45, 60, 35, 92, 32, 0]⟩ : ByteArray) = T at *
   have hSz : S.size = 46 := by rw [← hS]; rfl
   have hTz : T.size = 12 := by rw [← hT]; rfl
   clear hS hT
   go_loopw [7] (fun i wr => ∃ k : Nat, k ≤ 47 ∧ i = .int .i64 k ∧ Hid (Below w.heap.size w wr)) (fun i _ => 47 - (intOf i).toNat)
   case atStart => exact ⟨0, by omega, by go_num, B1.out⟩
   case round =>
    clear B1
    obtain ⟨k, hk, rfl, HI⟩ := hrel
    by_cases hlt : k ≤ 46
    ·have hkI : (k : Int) ≤ 46 := by omega
     have hk0 : (0 : Int) ≤ k := by omega
     have HKL := Lib.hid hlt
     have sl1 : ∀ wx, (Instr.slice 9 (.string S) none (some (.int .i64 k)) none).run Tryz.prog wx = .ok (.string (tx (S.data.toList.take k))) wx := to_run 9 Tryz.underlying9 S.data.toList k k rfl (by rw [ba_len]; omega)
     have sl2 : ∀ wx, (Instr.slice 9 (.string S) (some (.int .i64 k)) none none).run Tryz.prog wx = .ok (.string (tx (S.data.toList.drop k))) wx := from_run 9 Tryz.underlying9 S k k rfl (by omega)
     have HPz : Hid ((tx (S.data.toList.take k)).size ≤ 46) := by unfold Hid; rw [tx_size, List.length_take, ba_len]; omega
     have HQz : Hid ((tx (S.data.toList.drop k)).size ≤ 46) := by unfold Hid; rw [tx_size, List.length_drop, ba_len]; omega
     generalize tx (S.data.toList.take k) = P at *
     generalize tx (S.data.toList.drop k) = Q at *
     have HR1 := Lib.hid (HRd.out P k wr (by have := HPz.out; omega))
     have HR2 := Lib.hid (fun x => HRd.out S k x (by omega))
     clear hlt
     go_wp2_with fail
     refine HR1.out.mono ?_
     rintro e x ⟨rfl, hb⟩
     have B2 := Lib.hid (HI.out.trans (hb.mono HI.out.size))
     clear HI hb HR1
     go_wp2_with fail
     refine (HR2.out _).mono ?_
     rintro e y ⟨rfl, hb⟩
     have B3 := Lib.hid (B2.out.trans (hb.mono B2.out.size))
     clear hb HR2 B2
     go_wp2_with fail
     go_loopw [8] (fun i wr => ∃ j : Nat, j ≤ 12 ∧ i = .int .i64 j ∧ Hid (Below w.heap.size w wr)) (fun i _ => 12 - (intOf i).toNat)
     case atStart => exact ⟨0, by omega, by go_num, B3.out⟩
     case round =>
      clear B3
      obtain ⟨j, hj, rfl, HI⟩ := hrel
      by_cases hjl : j < 12
      ·have hjI : (j : Int) < 12 := by omega
       have hj0 : (0 : Int) ≤ j := by omega
       have HJL := Lib.hid hjl
       have sl3 : ∀ wx, (Instr.slice 9 (.string T) (some (.int .i64 j)) (some (.int .i64 (j + 1))) none).run Tryz.prog wx = .ok (.string (tx ((T.data.toList.drop j).take 1))) wx := mid_run 9 Tryz.underlying9 T j 1 j (j + 1) rfl (by omega) (by omega)
       have HEz : Hid ((tx ((T.data.toList.drop j).take 1)).size ≤ 1) := by unfold Hid; rw [tx_size, List.length_take]; omega
       generalize tx ((T.data.toList.drop j).take 1) = E at *
       have hc1 : ¬ 9223372036854775807 < P.size + E.size := by have := HPz.out; have := HEz.out; omega
       have hc2 : ¬ 9223372036854775807 < P.size + E.size + Q.size := by have := HPz.out; have := HEz.out; have := HQz.out; omega
       have HCx : Hid (∀ x : Later wr, Calls Tryz.prog 6 #[.string (P ++ E ++ Q), .int .i64 ((k : Int) - 1)] x.val fun e w' => e = .returned (.bool true) ∧ ∃ y : Later wr, w' = y.val) := fun x => Calls.later (HRd.out _ _ _ (by rw [ByteArray.size_append, ByteArray.size_append]; have := HPz.out; have := HEz.out; have := HQz.out; omega))
       clear hjl
       go_wp2_with fail
       refine wp_region_later (by kernel_rfl) (by kernel_rfl) ?_
       repeat (go_big_quiet_step ((go_at_call 6; with_reducible exact HCx.out _)))
       refine wpQuiet_nil ?_
       intro w8 hw8
       obtain ⟨x, rfl⟩ := hw8
       have B4 := Lib.hid (HI.out.trans (x.ok.mono HI.out.size))
       clear HI HCx sl3 hc1 hc2 HEz
       generalize x.val = wy at *
       clear x
       go_wp2_with fail
       go_roundw
       case rel => exact ⟨j + 1, HJL.out, by go_num, B4.out⟩
       case measure => have := HJL.out; simp [intOf]; omega
      ·have hjI : ¬ (j : Int) < 12 := by omega
       go_wp2_with fail
       go_roundw
       case rel => exact ⟨k + 1, by have := HKL.out; omega, by go_num, HI.out⟩
       case measure => have := HKL.out; simp [intOf]; omega
    ·have hkI : ¬ (k : Int) ≤ 46 := by omega
     obtain rfl : k = 47 := by omega
     go_wp2_with fail
     go_loopw [9, 10] (fun s i wr => ∃ (k : Nat) (lv : ByteArray), k ≤ 25 ∧ s = .string lv ∧ i = .int .i64 k ∧ Hid (lv.size = 2 + k ∧ Below w.heap.size w wr)) (fun _ i _ => 25 - (intOf i).toNat)
     case atStart => exact ⟨0, ⟨#[97, 58]⟩, by omega, rfl, by go_num, rfl, HI.out⟩
     case round =>
      clear HI
      obtain ⟨k, lv, hk, rfl, rfl, HI⟩ := hrel
      by_cases hlt : k < 25
      ·have hkI : (k : Int) < 25 := by omega
       have hk0 : (0 : Int) ≤ k := by omega
       have hm0 : (0 : Int) ≤ (k : Int) % 3 := by omega
       have hm1 : (k : Int) % 3 < 3 := by omega
       have HKL := Lib.hid hlt
       have HLz := Lib.hid HI.out.1
       obtain ⟨z, hz, hzs⟩ : ∃ z : ByteArray, (#[.string ⟨#[48]⟩, .string ⟨#[57]⟩, .string ⟨#[49]⟩] : Array Value)[k % 3]? = some (.string z) ∧ z.size = 1 := by
        have : k % 3 = 0 ∨ k % 3 = 1 ∨ k % 3 = 2 := by omega
        rcases this with h | h | h <;> rw [h] <;> exact ⟨_, rfl, rfl⟩
       have kc := ((hrow.new wr #[.string ⟨#[48]⟩, .string ⟨#[57]⟩, .string ⟨#[49]⟩] 9).cell (k % 3)).trans hz
       have HZz := Lib.hid hzs
       have B1 := Lib.hid (HI.out.2.alloc HI.out.2.size (.cells #[.string ⟨#[48]⟩, .string ⟨#[57]⟩, .string ⟨#[49]⟩] 9))
       have hc1 : ¬ 9223372036854775807 < lv.size + z.size := by have := HLz.out; omega
       have hsz : (lv ++ z).size = 3 + k := by rw [ByteArray.size_append]; have := HLz.out; omega
       have sl4 : ∀ wx, (Instr.slice 9 (.string (lv ++ z)) (some (.int .i64 2)) none none).run Tryz.prog wx = .ok (.string (tx ((lv ++ z).data.toList.drop 2))) wx := from_run 9 Tryz.underlying9 (lv ++ z) 2 2 rfl (by omega)
       have HDz : Hid ((tx ((lv ++ z).data.toList.drop 2)).size ≤ 30) := by unfold Hid; rw [tx_size, List.length_drop, ba_len]; omega
       generalize tx ((lv ++ z).data.toList.drop 2) = D at *
       have hc2 : ¬ 9223372036854775807 < 6 + D.size := by have := HDz.out; omega
       have HSz := Lib.hid hsz
       have HR1 := Lib.hid (fun x => HRd.out (lv ++ z) 0 x (by omega))
       have HR2 := Lib.hid (fun x => HRd.out (⟨#[97, 58, 48, 48, 48, 48]⟩ ++ D) 0 x (by rw [ByteArray.size_append]; have := HDz.out; show 6 + D.size ≤ 1000; omega))
       clear hlt hz hzs hsz HI
       go_wp2_with fail
       refine (HR1.out _).mono ?_
       rintro e x ⟨rfl, hb⟩
       have B2 := Lib.hid (B1.out.trans (hb.mono B1.out.size))
       clear hb HR1 B1 kc
       go_wp2_with fail
       refine (HR2.out _).mono ?_
       rintro e y ⟨rfl, hb⟩
       have B3 := Lib.hid (B2.out.trans (hb.mono B2.out.size))
       clear hb HR2 B2
       go_wp2_with fail
       go_roundw
       case rel => exact ⟨k + 1, lv ++ z, HKL.out, rfl, by go_num, by have := HSz.out; omega, B3.out⟩
       case measure => have := HKL.out; simp [intOf]; omega
      ·have hkI : ¬ (k : Int) < 25 := by omega
       obtain rfl : k = 25 := by omega
       have B1 := Lib.hid HI.out.2
       clear HI
       obtain ⟨Z, hZs, hZa, hZm⟩ := mk_long
       have HZs := Lib.hid hZs
       have HZa := Lib.hid hZa
       clear hZs hZa
       go_wp2_with fail
       have HG := Lib.hid (show w.heap.size ≤ wr.heap.size from B1.out.size)
       have HI0 : Hid (hrow (wr.alloc (.cells Z 5)) wr.heap.size Z 5 ∧ Below w.heap.size w (wr.alloc (.cells Z 5))) := ⟨hrow.new _ _ _, B1.out.alloc B1.out.size _⟩
       clear B1 hZm
       generalize wr.alloc (.cells Z 5) = wz at *
       generalize wr.heap.size = g at *
       go_loopw [12] (fun i wr => ∃ (k : Nat) (cs : Array Value), k ≤ 16385 ∧ i = .int .i64 k ∧ Hid (hrow wr g cs 5 ∧ cs.size = 16385 ∧ (∀ i, i < k → cs[i]? = some (.int .u8 32)) ∧ Below w.heap.size w wr)) (fun i _ => 16385 - (intOf i).toNat)
       case atStart => exact ⟨0, Z, Nat.zero_le _, by go_num, HI0.out.1, HZs.out, fun i hi => absurd hi (by omega), HI0.out.2⟩
       case round =>
        clear HI0
        obtain ⟨k, cs, hk, rfl, HI⟩ := hrel
        by_cases hlt : k < 16385
        ·have hkI : (k : Int) < 16385 := by omega
         have hk0 : (0 : Int) ≤ k := by omega
         have HKL := Lib.hid hlt
         obtain ⟨v, hv⟩ : ∃ v, cs[k]? = some v := ⟨_, Array.getElem?_eq_getElem (by rw [HI.out.2.1]; exact hlt)⟩
         have kc := (HI.out.1.cell k).trans hv
         have kf := HI.out.1.frozen k
         clear hlt hv hk
         go_wp2_with fail
         go_roundw
         case rel => exact ⟨k + 1, cs.setIfInBounds k (.int .u8 32), HKL.out, by go_num, hrow.setCell HI.out.1 k _, by rw [Array.size_setIfInBounds]; exact HI.out.2.1, fun i hi => by
          rw [Array.getElem?_setIfInBounds]
          by_cases h : k = i
          ·rw [if_pos h, if_pos (by rw [HI.out.2.1]; have := HKL.out; omega)]
          ·rw [if_neg h]; exact HI.out.2.2.1 i (by omega), HI.out.2.2.2.setCell (p := ⟨g, k, none⟩) HG.out _⟩
         case measure => have := HKL.out; simp [intOf]; omega
        ·have hkI : ¬ (k : Int) < 16385 := by omega
         obtain rfl : k = 16385 := by omega
         have HC1 := conv_rep wr g 1 16384 cs HI.out.1 (fun i hi => HI.out.2.2.1 i (by omega))
         have HC2 := Lib.hid (fun x (h : Below wr.heap.size wr x) => conv_rep x g 0 16385 cs (HI.out.1.below h) (fun i hi => HI.out.2.2.1 i (by omega)))
         have HW := Lib.hid (words_rep 16384)
         have B1 := Lib.hid HI.out.2.2.2
         have HL1 : Hid ((tx (List.replicate 16384 32)).size = 16384) := by unfold Hid; rw [tx_size, List.length_replicate]
         have HL2 : Hid ((tx (List.replicate 16385 32)).size = 16385) := by unfold Hid; rw [tx_size, List.length_replicate]
         have HLd : Hid ((tx (List.replicate 16384 32)).data.toList = List.replicate 16384 32) := rfl
         rw [← HLd.out] at HW
         generalize tx (List.replicate 16384 32) = L1 at *
         generalize tx (List.replicate 16385 32) = L2 at *
         clear HLd
         have HA1 := Lib.hid (fun x => all_any L1 x (by have := HL1.out; omega))
         have HA2 := Lib.hid (fun x => all_long L2 x (by have := HL2.out; omega))
         unfold AllP at HA1
         rw [HW.out] at HA1
         clear HI HW HL1 HL2 hk hlt
         go_wp2_with fail
         refine (HA1.out _).mono ?_
         rintro e x ⟨v, rfl, hO⟩
         obtain ⟨ao, cap, rfl, hS⟩ := hO.sv
         have HC3 := HC2.out x (hO.2)
         have B2 := Lib.hid (B1.out.trans (hO.2.mono B1.out.size))
         clear hO hS HA1 HC1 HC2 B1
         go_wp2_with fail
         refine (HA2.out _).mono ?_
         rintro e y ⟨rfl, hb⟩
         have hbl := hb.alloc hb.size (.cells #[.int .i64 (-9223372036854775808), .int .i64 (-1), .int .i64 3, .int .i64 4, .int .i64 5, .int .i64 9223372036854775807] 3)
         have B3 := Lib.hid (B2.out.trans (hbl.mono B2.out.size))
         have R3 := Lib.hid (show hrow (y.alloc (.cells #[.int .i64 (-9223372036854775808), .int .i64 (-1), .int .i64 3, .int .i64 4, .int .i64 5, .int .i64 9223372036854775807] 3)) y.heap.size endsI 3 from hrow.new _ _ _)
         clear hb hbl HA2 HC3 B2
         go_wp2_with fail
         generalize y.alloc (.cells #[.int .i64 (-9223372036854775808), .int .i64 (-1), .int .i64 3, .int .i64 4, .int .i64 5, .int .i64 9223372036854775807] 3) = wz at *
         generalize y.heap.size = g9 at *
         go_loopw [20] (fun i wr => ∃ k : Nat, k ≤ 6 ∧ i = .int .i64 k ∧ Hid (hrow wr g9 endsI 3 ∧ Below w.heap.size w wr)) (fun i _ => 6 - (intOf i).toNat)
         case atStart => exact ⟨0, by omega, by go_num, R3.out, B3.out⟩
         case round =>
          clear R3 B3
          obtain ⟨k, hk, rfl, HI⟩ := hrel
          by_cases hlt : k < 6
          ·have hkI : (k : Int) < 6 := by omega
           have hk0 : (0 : Int) ≤ k := by omega
           have HKL := Lib.hid hlt
           obtain ⟨m, hm⟩ := endsI_at k hlt
           have kc := (HI.out.1.cell k).trans hm
           have HR1 := Lib.hid (HRd.out ⟨#[97, 98, 32, 35]⟩ m wr (by decide))
           clear hlt hm hk
           go_wp2_with fail
           refine HR1.out.mono ?_
           rintro e z ⟨rfl, hb⟩
           have R4 := Lib.hid (HI.out.1.below hb)
           have B4 := Lib.hid (HI.out.2.trans (hb.mono HI.out.2.size))
           clear hb HR1 kc HI
           go_wp2_with fail
           go_roundw
           case rel => exact ⟨k + 1, HKL.out, by go_num, R4.out, B4.out⟩
           case measure => have := HKL.out; simp [intOf]; omega
          ·have hkI : ¬ (k : Int) < 6 := by omega
           have B4 := Lib.hid HI.out.2
           have HAw := Lib.hid (awake_any wr)
           clear HI
           go_wp2_with fail
           refine HAw.out.mono ?_
           rintro e z ⟨rfl, hb⟩
           have B5 := Lib.hid (B4.out.trans (hb.mono B4.out.size))
           go_wp2_with fail
           go_ret
           exact ⟨rfl, B5.out⟩
end Go.Proofs.YtnfkcdnkmcifbaaGreatDoor
