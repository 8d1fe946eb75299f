/- Walks: escape: texts, read. -/
import Derived.Test.YtlfnniipkdcpdaaDoorEj
namespace Go.Proofs.YtlfnniipkdcpdaaDoor
open Go.RowKit
set_option maxRecDepth 100000
set_option maxHeartbeats 4000000

theorem elemBy : Elem Tryd.prog 22 5 1 1 (.int .u8 0) := ⟨by kernel_rfl, by kernel_rfl, by decide, by decide⟩
/-- What comes of a text that is read. -/
def DecOut (p : Int) (l : List UInt8) (w : World) (e : Ending) (w' : World) : Prop :=
 ((decode p l).2.2 = true ∧ ∃ v, e = .returned (.tuple #[v, .int .i64 0, .int .i64 0]) ∧ Own w w' 5 1 v (decode p l).1.length (Lib.byteCells (decode p l).1)) ∨
 ((decode p l).2.2 = false ∧ e = .returned (.tuple #[.slice none 0 0, .int .i64 (decode p l).2.1, .int .i64 7]) ∧ Below w.heap.size w w')
theorem edec_any (p : Int) (s : ByteArray) (w : World) (hs : s.size ≤ 1000000) : Calls Tryd.prog 15 #[.int .i64 p, .string s] w (DecOut p s.data.toList w) := by
 have HBA := Lib.hid (ba_len s)
 have HR := Lib.hid (fun (k : Nat) x => read_any p s k x hs)
 go_enter Tryd.func15, Tryd.ntmps15
 go_wp2_with fail
 go_loopw [4, 5] (fun v i wr => ∃ (k : Nat) (acc : List UInt8), k ≤ s.size ∧ i = .int .i64 k ∧ acc.length ≤ k ∧ Hid (Own w wr 5 1 v acc.length (Lib.byteCells acc) ∧ decode p s.data.toList = (acc ++ (decode p (s.data.toList.drop k)).1, k + (decode p (s.data.toList.drop k)).2.1, (decode p (s.data.toList.drop k)).2.2))) (fun _ i _ => s.size - (intOf i).toNat)
 case atStart => exact ⟨0, [], by omega, rfl, by simp, Own.nil w _ _, by simp⟩
 case round =>
  obtain ⟨k, acc, hk, rfl, hac, hI⟩ := hrel
  by_cases hlt : k < s.size
  ·have hlt' : (k : Int) < s.size := by omega
   have hO := HR.out k wr
   cases hq : rdA p s.data.toList k with
   | none =>
    rw [hq] at hO
    unfold rdV at hO
    have hr : rd p (s.data.toList.drop k) = none := by
     unfold rdA at hq
     rw [if_pos ⟨by omega, by rw [HBA.out]; omega⟩, Int.toNat_natCast] at hq
     exact hq
    have HF : Hid (decode p s.data.toList = (acc, k, false)) := by
     unfold Hid
     rw [hI.out.2, decode_none (by rw [Ne, List.drop_eq_nil_iff, HBA.out]; omega) hr]
     simp
    have HO := Lib.hid hO; clear hO hq hr
    have HB := Lib.hid hI.out.1.2
    go_wp2_with fail
    refine HO.out.mono ?_
    rintro e y ⟨rfl, hb⟩
    have H2 := Lib.hid (HB.out.trans (hb.mono HB.out.size)); clear hb
    go_wp2_with fail
    go_ret3
    exact .inr (by rw [HF.out]; exact ⟨rfl, rfl, H2.out⟩)
   | some q =>
    obtain ⟨b, n⟩ := q
    rw [hq] at hO
    unfold rdV at hO
    have hr : rd p (s.data.toList.drop k) = some (b, n) := by
     unfold rdA at hq
     rw [if_pos ⟨by omega, by rw [HBA.out]; omega⟩, Int.toNat_natCast] at hq
     exact hq
    have hn := rd_len hr
    rw [List.length_drop, HBA.out] at hn
    have hkn : k + n ≤ s.size := by omega
    have hac2 : (acc ++ [b]).length ≤ k + n := by rw [List.length_append]; simp; omega
    have HF : Hid (decode p s.data.toList = ((acc ++ [b]) ++ (decode p (s.data.toList.drop (k + n))).1, (k + n) + (decode p (s.data.toList.drop (k + n))).2.1, (decode p (s.data.toList.drop (k + n))).2.2)) := by
     unfold Hid
     rw [hI.out.2, decode_some hr, List.drop_drop]
     simp [Nat.add_assoc]
    have HO := Lib.hid hO; clear hO hq hr
    have HA := Lib.hid hI.out.1
    have HAC := Lib.hid hac
    have HN := Lib.hid hn.1
    clear hac hn hI
    go_wp2_with fail
    refine HO.out.mono ?_
    rintro e y ⟨rfl, hb⟩
    have HA2 := Lib.hid (HA.out.below hb); clear hb HA HO
    go_wp2_with (at_builtin; refine wpList_app1 w _ rfl (.tmp 25) (.tmp 27) 22 5 rfl elemBy _ acc.length (Lib.byteCells acc) rfl HA2.out #[.int .u8 b.toNat] rfl rfl (by simp [Value.oneCell']) (by have := HAC.out; omega) (by have := HAC.out; unfold maxLen; omega) ?_; intro v' w8 hO8; have HO8 := Lib.hid hO8; clear hO8)
    have H8 : Hid (Own w w8 5 1 v' (acc ++ [b]).length (Lib.byteCells (acc ++ [b]))) := by
     unfold Hid
     rw [Lib.byteCells_append, List.length_append]
     exact HO8.out
    go_roundw
    case rel => exact ⟨k + n, acc ++ [b], hkn, by go_num, hac2, H8.out, HF.out⟩
    case measure => have := HN.out; simp [intOf]; omega
  ·have hge : ¬ (k : Int) < s.size := by omega
   have HF : Hid (decode p s.data.toList = (acc, k, true)) := by
    unfold Hid
    rw [hI.out.2, List.drop_eq_nil_of_le (by rw [HBA.out]; omega), decode_nil]
    simp
   have HA := Lib.hid hI.out.1
   clear hI
   go_wp2_with fail
   go_ret3
   exact .inl (by rw [HF.out]; exact ⟨rfl, _, rfl, HA.out⟩)
theorem rdec_any (p : Int) (s : ByteArray) (w : World) (hs : s.size ≤ 1000000) : Calls Tryd.prog 22 #[.int .i64 p, .string s] w (DecOut p s.data.toList w) := by
 have HBA := Lib.hid (ba_len s)
 have HR := Lib.hid (fun (k : Nat) x => rread_any p s k x hs)
 go_enter Tryd.func22, Tryd.ntmps22
 go_wp2_with fail
 go_loopw [7, 8] (fun v i wr => ∃ (k : Nat) (acc : List UInt8), k ≤ s.size ∧ i = .int .i64 k ∧ acc.length ≤ k ∧ Hid (Own w wr 5 1 v acc.length (Lib.byteCells acc) ∧ decode p s.data.toList = (acc ++ (decode p (s.data.toList.drop k)).1, k + (decode p (s.data.toList.drop k)).2.1, (decode p (s.data.toList.drop k)).2.2))) (fun _ i _ => s.size - (intOf i).toNat)
 case atStart => exact ⟨0, [], by omega, rfl, by simp, Own.nil w _ _, by simp⟩
 case round =>
  obtain ⟨k, acc, hk, rfl, hac, hI⟩ := hrel
  by_cases hlt : k < s.size
  ·have hlt' : (k : Int) < s.size := by omega
   have hO := HR.out k wr
   cases hq : rdA p s.data.toList k with
   | none =>
    rw [hq] at hO
    unfold rdV at hO
    have hr : rd p (s.data.toList.drop k) = none := by
     unfold rdA at hq
     rw [if_pos ⟨by omega, by rw [HBA.out]; omega⟩, Int.toNat_natCast] at hq
     exact hq
    have HF : Hid (decode p s.data.toList = (acc, k, false)) := by
     unfold Hid
     rw [hI.out.2, decode_none (by rw [Ne, List.drop_eq_nil_iff, HBA.out]; omega) hr]
     simp
    have HO := Lib.hid hO; clear hO hq hr
    have HB := Lib.hid hI.out.1.2
    go_wp2_with fail
    refine HO.out.mono ?_
    rintro e y ⟨rfl, hb⟩
    have H2 := Lib.hid (HB.out.trans (hb.mono HB.out.size)); clear hb
    go_wp2_with fail
    go_ret3
    exact .inr (by rw [HF.out]; exact ⟨rfl, rfl, H2.out⟩)
   | some q =>
    obtain ⟨b, n⟩ := q
    rw [hq] at hO
    unfold rdV at hO
    have hr : rd p (s.data.toList.drop k) = some (b, n) := by
     unfold rdA at hq
     rw [if_pos ⟨by omega, by rw [HBA.out]; omega⟩, Int.toNat_natCast] at hq
     exact hq
    have hn := rd_len hr
    rw [List.length_drop, HBA.out] at hn
    have hkn : k + n ≤ s.size := by omega
    have hac2 : (acc ++ [b]).length ≤ k + n := by rw [List.length_append]; simp; omega
    have HF : Hid (decode p s.data.toList = ((acc ++ [b]) ++ (decode p (s.data.toList.drop (k + n))).1, (k + n) + (decode p (s.data.toList.drop (k + n))).2.1, (decode p (s.data.toList.drop (k + n))).2.2)) := by
     unfold Hid
     rw [hI.out.2, decode_some hr, List.drop_drop]
     simp [Nat.add_assoc]
    have HO := Lib.hid hO; clear hO hq hr
    have HA := Lib.hid hI.out.1
    have HAC := Lib.hid hac
    have HN := Lib.hid hn.1
    clear hac hn hI
    go_wp2_with fail
    refine HO.out.mono ?_
    rintro e y ⟨rfl, hb⟩
    have HA2 := Lib.hid (HA.out.below hb); clear hb HA HO
    go_wp2_with (at_builtin; refine wpList_app1 w _ rfl (.tmp 27) (.tmp 29) 22 5 rfl elemBy _ acc.length (Lib.byteCells acc) rfl HA2.out #[.int .u8 b.toNat] rfl rfl (by simp [Value.oneCell']) (by have := HAC.out; omega) (by have := HAC.out; unfold maxLen; omega) ?_; intro v' w8 hO8; have HO8 := Lib.hid hO8; clear hO8)
    have H8 : Hid (Own w w8 5 1 v' (acc ++ [b]).length (Lib.byteCells (acc ++ [b]))) := by
     unfold Hid
     rw [Lib.byteCells_append, List.length_append]
     exact HO8.out
    go_roundw
    case rel => exact ⟨k + n, acc ++ [b], hkn, by go_num, hac2, H8.out, HF.out⟩
    case measure => have := HN.out; simp [intOf]; omega
  ·have hge : ¬ (k : Int) < s.size := by omega
   have HF : Hid (decode p s.data.toList = (acc, k, true)) := by
    unfold Hid
    rw [hI.out.2, List.drop_eq_nil_of_le (by rw [HBA.out]; omega), decode_nil]
    simp
   have HA := Lib.hid hI.out.1
   clear hI
   go_wp2_with fail
   go_ret3
   exact .inl (by rw [HF.out]; exact ⟨rfl, _, rfl, HA.out⟩)

theorem same_any (w : World) (ao bo : Option Addr) (n ac bc : Nat) (l : List UInt8) (ha : Sv w ao n ac 1 (Lib.byteCells l)) (hb : Sv w bo n bc 1 (Lib.byteCells l)) :
  Calls Tryd.prog 16 #[.slice ao n ac, .slice bo n bc] w fun r w' => r = .returned (.bool true) ∧ Below w.heap.size w w' := by
 obtain ⟨h1, h2⟩ := ha.bound
 obtain ⟨h3, h4⟩ := hb.bound
 have hl : l.length = n := by have := ha.len; rw [Lib.byteCells_length] at this; omega
 have HA := Lib.hid ha; have HB := Lib.hid hb; have HL := Lib.hid hl
 clear ha hb hl
 go_enter Tryd.func16, Tryd.ntmps16
 go_wp2_with fail
 go_loopw [5] (fun i wr => ∃ k : Nat, k ≤ n ∧ i = .int .i64 k ∧ Hid (Below w.heap.size w wr)) (fun i _ => n - (intOf i).toNat)
 case atStart => exact ⟨0, by omega, rfl, Below.refl _ _⟩
 case round =>
  obtain ⟨k, hk, rfl, HBr⟩ := hrel
  by_cases hlt : k < n
  ·have hlt' : (k : Int) < n := by omega
   have hkl : k < l.length := by have := HL.out; omega
   obtain ⟨a, rfl, a0⟩ := (HA.out.below HBr.out).by k hkl
   obtain ⟨b, rfl, b0⟩ := (HB.out.below HBr.out).by k hkl
   generalize l[k] = x at *
   clear hkl
   go_wp2_with fail
   go_quiet (fail)
   go_wp2_with fail
   go_roundw
   case rel => exact ⟨k + 1, by omega, by go_num, belowN HBr.out _⟩
   case measure => simp [intOf]; omega
  ·have hge : (n : Int) ≤ k := by omega
   go_wp2_with fail
   go_ret
   exact ⟨rfl, HBr.out⟩
end Go.Proofs.YtlfnniipkdcpdaaDoor
