/- Walk: EscapeBack. -/
import Derived.Test.YtlfnniipkdcpdaaDoorEm
import Derived.Test.YtlfnniipkdcpdaaDoorPb
namespace Go.Proofs.YtlfnniipkdcpdaaDoor
open Go.RowKit
set_option maxRecDepth 100000
set_option maxHeartbeats 4000000

theorem back_false (ao : Option Addr) (n cap : Nat) (l : List UInt8) (s : ByteArray) (w : World) (hs : Sv w ao n cap 1 (Lib.byteCells l)) (hcp : n ≤ 140737488355328) (hm : s.size ≤ 140737488355328) (h : TzOk w) :
  Calls Tryd.prog 5 #[.slice ao n cap, .string s, .bool false] w fun e w' => e = .returned (.bool true) ∧ Below w.heap.size w w' := by
 have h2 := hs.le
 have hI : (n : Int) + s.size ≤ 281474976710656 := by omega
 have H := Lib.hid (awake_any w h)
 have HT := Lib.hid h
 have HS := Lib.hid hs
 have hl : l.length = n := by have := hs.len; rw [Lib.byteCells_length] at this; omega
 have HL := Lib.hid hl
 clear h hs hl
 by_cases hc : 1000 < n + s.size
 ·have hcI : (1000 : Int) < n + s.size := by omega
  go_enter Tryd.func5, Tryd.ntmps5
  go_wp2_with fail
  refine H.out.mono ?_
  rintro e x ⟨rfl, hb⟩
  have B := Lib.hid hb; clear hb
  go_wp2_with fail
  go_ret
  exact ⟨rfl, B.out⟩
 ·have hcI : (n : Int) + s.size ≤ 1000 := by omega
  have hn : n ≤ 1000 := by omega
  have hs2 : s.size ≤ 1000 := by omega
  clear hc
  go_enter Tryd.func5, Tryd.ntmps5
  go_wp2_with fail
  refine H.out.mono ?_
  rintro e x ⟨rfl, hb⟩
  have B1 := Lib.hid hb; clear hb H
  go_wp2_with fail
  refine (eall_any 1 l ao n cap x (HS.out.below B1.out) (by omega) (HT.out.below B1.out)).mono ?_
  rintro e x2 ⟨rfl, hb⟩
  have B2 := Lib.hid (B1.out.trans (hb.mono B1.out.size)); clear hb
  have HD := Lib.hid (decode_all (p := 1) rfl l)
  have HLe := Lib.hid (all_len (p := 1) rfl l)
  have HAt := Lib.hid (all_at (p := 1) (e := 34) (by simp) l)
  have HA4 : Hid ((all 1 l).length ≤ 4000) := by have := all_le4 1 l; have := HL.out; unfold Hid; omega
  obtain ⟨t, htt⟩ : ∃ t : ByteArray, t = ⟨(all 1 l).toArray⟩ := ⟨_, rfl⟩
  have htl : t.data.toList = all 1 l := by rw [htt]
  have hts : t.size = (all 1 l).length := by rw [htt]; simp [ByteArray.size]
  have HTs := Lib.hid hts
  rw [← htt]
  rw [← htl] at HD HAt
  clear htt htl hts
  go_wp2_with fail
  refine (edec_any 1 t x2 (by have := HA4.out; have := HTs.out; omega)).mono ?_
  rintro e x3 (⟨hd, v, rfl, hO⟩ | ⟨hd, _⟩)
  ·rw [HD.out] at hO
   simp only [] at hO
   obtain ⟨bo, bc, rfl, hS2⟩ := hO.sv
   have B3 := Lib.hid (B2.out.trans (hO.2.mono B2.out.size))
   have HS3 := HS.out.below B3.out
   rw [HL.out] at hS2 hO
   have HSm := Lib.hid (same_any x3 bo ao n bc cap l hS2 HS3)
   have hlt2 : n ≤ t.size := by have := HLe.out; have := HTs.out; have := HL.out; omega
   have hlt3 : (n : Int) ≤ t.size := by omega
   have hts4 : t.size ≤ 4000 := by have := HA4.out; have := HTs.out; omega
   clear hd hO hS2 HS3 HD
   rw [HL.out]
   go_wp2_with fail
   refine HSm.out.mono ?_
   rintro e x4 ⟨rfl, hb⟩
   have B4 := Lib.hid (B3.out.trans (hb.mono B3.out.size)); clear hb HSm
   go_wp2_with fail
   go_loop [13] (fun i => ∃ k : Nat, k ≤ t.size ∧ i = .int .i64 k) (fun i => t.size - (intOf i).toNat)
   case atStart => exact ⟨0, by omega, rfl⟩
   case round =>
    obtain ⟨k, hk, rfl⟩ := hrel
    by_cases hkt : k < t.size
    ·have hktI : (k : Int) < t.size := by omega
     have hk0 : (0 : Int) ≤ k := by omega
     have hat := HAt.out k (t[k]'hkt) (by rw [List.getElem?_eq_getElem (by rw [ba_len]; exact hkt)]; rfl)
     generalize hck : t[k]'hkt = c at hat
     have hc1 : (32 : Int) ≤ c.toNat := by have := UInt8.le_iff_toNat_le.1 hat.1; simp at this; omega
     have hc2 : (c.toNat : Int) ≤ 126 := by have := UInt8.le_iff_toNat_le.1 hat.2.1; simp at this; omega
     by_cases hce : c = 34
     ·have he1 : ((c.toNat : Int) == 34) = true := by rw [hce]; rfl
      obtain ⟨h3, h4⟩ := hat.2.2 hce
      obtain ⟨m, rfl⟩ : ∃ m, k = m + 1 := ⟨k - 1, by omega⟩
      have hmt : m < t.size := by omega
      have hmI : (m : Int) < t.size := by omega
      have hm0 : (0 : Int) ≤ m := by omega
      rw [Nat.add_sub_cancel, List.getElem?_eq_getElem (by rw [ba_len]; exact hmt)] at h4
      have h5 : t[m]'hmt = 92 := Option.some.inj h4
      clear h4 h3 hat hce
      have hmz : (((m : Int) + 1) == 0) = false := by simp; omega
      go_wp2_with fail
      go_round
      case rel => exact ⟨m + 1 + 1, by omega, by go_num⟩
      case measure => simp [intOf]; omega
     ·have he1 : ((c.toNat : Int) == 34) = false := by have := mt UInt8.toNat_inj.1 hce; simp at this ⊢; omega
      clear hat hce
      go_wp2_with fail
      go_round
      case rel => exact ⟨k + 1, by omega, by go_num⟩
      case measure => simp [intOf]; omega
    ·have hge : ¬ (k : Int) < t.size := by omega
     go_wp2_with fail
     refine (edec_any 1 s x4 (by omega)).mono ?_
     rintro e x5 (⟨hd, v, rfl, hO⟩ | ⟨hd, rfl, hb⟩)
     ·have B5 := Lib.hid (B4.out.trans (hO.2.mono B4.out.size))
      have HSh := Lib.hid (decode_shorter (p := 1) rfl s.data.toList.length s.data.toList (Nat.le_refl _))
      rw [ba_len] at HSh
      have HW : Hid ((decode 1 s.data.toList).1.length ≤ 1000) := by
       have h1 := all_len (p := 1) rfl (decode 1 s.data.toList).1
       have h2 := HSh.out
       unfold Hid; omega
      generalize (decode 1 s.data.toList).1 = u at hO HSh HW
      obtain ⟨uo, uc, rfl, hSu⟩ := hO.sv
      have HSu := Lib.hid hSu
      clear hd hO hSu
      go_wp2_with fail
      refine (eall_any 1 u uo u.length uc x5 HSu.out (by have := HW.out; omega) (HT.out.below B5.out)).mono ?_
      rintro e x6 ⟨rfl, hb⟩
      have B6 := Lib.hid (B5.out.trans (hb.mono B5.out.size))
      have HSu6 := Lib.hid (HSu.out.below hb)
      clear hb
      have HDu := Lib.hid (decode_all (p := 1) rfl u)
      obtain ⟨q, hqq⟩ : ∃ q : ByteArray, q = ⟨(all 1 u).toArray⟩ := ⟨_, rfl⟩
      have hql : q.data.toList = all 1 u := by rw [hqq]
      have hqs : q.size = (all 1 u).length := by rw [hqq]; simp [ByteArray.size]
      rw [← hqq]
      rw [← hql] at HDu
      have hqle : q.size ≤ s.size := by rw [hqs]; exact HSh.out
      have hqleI : (q.size : Int) ≤ s.size := by omega
      clear hqq hql hqs HSh
      go_wp2_with fail
      refine (edec_any 1 q x6 (by omega)).mono ?_
      rintro e x7 (⟨hd, v, rfl, hO⟩ | ⟨hd, _⟩)
      ·rw [HDu.out] at hO
       simp only [] at hO
       obtain ⟨zo, zc, rfl, hSz⟩ := hO.sv
       have B7 := Lib.hid (B6.out.trans (hO.2.mono B6.out.size))
       have HSm2 := Lib.hid (same_any x7 uo zo u.length uc zc u (HSu6.out.below hO.2) hSz)
       clear hd hO hSz HDu
       go_wp2_with fail
       refine HSm2.out.mono ?_
       rintro e x8 ⟨rfl, hb⟩
       have B8 := Lib.hid (B7.out.trans (hb.mono B7.out.size)); clear hb HSm2
       go_wp2_with fail
       go_ret
       exact ⟨rfl, B8.out⟩
      ·rw [HDu.out] at hd; cases hd
     ·have B5 := Lib.hid (B4.out.trans (hb.mono B4.out.size)); clear hb
      have hlt := (decode_le 1 s.data.toList.length s.data.toList (Nat.le_refl _)).2.1 hd
      rw [ba_len] at hlt
      clear hd
      generalize (decode 1 s.data.toList).2.1 = k2 at *
      have hltI : (k2 : Int) < s.size := by omega
      have hk20 : (0 : Int) ≤ k2 := by omega
      go_wp2_with fail
      go_ret
      exact ⟨rfl, B5.out⟩
  ·rw [HD.out] at hd; cases hd
theorem back_true (ao : Option Addr) (n cap : Nat) (l : List UInt8) (s : ByteArray) (w : World) (hs : Sv w ao n cap 1 (Lib.byteCells l)) (hcp : n ≤ 140737488355328) (hm : s.size ≤ 140737488355328) (h : TzOk w) :
  Calls Tryd.prog 5 #[.slice ao n cap, .string s, .bool true] w fun e w' => e = .returned (.bool true) ∧ Below w.heap.size w w' := by
 have h2 := hs.le
 have hI : (n : Int) + s.size ≤ 281474976710656 := by omega
 have H := Lib.hid (awake_any w h)
 have HT := Lib.hid h
 have HS := Lib.hid hs
 have hl : l.length = n := by have := hs.len; rw [Lib.byteCells_length] at this; omega
 have HL := Lib.hid hl
 clear h hs hl
 by_cases hc : 1000 < n + s.size
 ·have hcI : (1000 : Int) < n + s.size := by omega
  go_enter Tryd.func5, Tryd.ntmps5
  go_wp2_with fail
  refine H.out.mono ?_
  rintro e x ⟨rfl, hb⟩
  have B := Lib.hid hb; clear hb
  go_wp2_with fail
  go_ret
  exact ⟨rfl, B.out⟩
 ·have hcI : (n : Int) + s.size ≤ 1000 := by omega
  have hn : n ≤ 1000 := by omega
  have hs2 : s.size ≤ 1000 := by omega
  clear hc
  go_enter Tryd.func5, Tryd.ntmps5
  go_wp2_with fail
  refine H.out.mono ?_
  rintro e x ⟨rfl, hb⟩
  have B1 := Lib.hid hb; clear hb H
  go_wp2_with fail
  refine (eall_any 2 l ao n cap x (HS.out.below B1.out) (by omega) (HT.out.below B1.out)).mono ?_
  rintro e x2 ⟨rfl, hb⟩
  have B2 := Lib.hid (B1.out.trans (hb.mono B1.out.size)); clear hb
  have HD := Lib.hid (decode_all (p := 2) rfl l)
  have HLe := Lib.hid (all_len (p := 2) rfl l)
  have HAt := Lib.hid (all_at (p := 2) (e := 93) (by simp) l)
  have HA4 : Hid ((all 2 l).length ≤ 4000) := by have := all_le4 2 l; have := HL.out; unfold Hid; omega
  obtain ⟨t, htt⟩ : ∃ t : ByteArray, t = ⟨(all 2 l).toArray⟩ := ⟨_, rfl⟩
  have htl : t.data.toList = all 2 l := by rw [htt]
  have hts : t.size = (all 2 l).length := by rw [htt]; simp [ByteArray.size]
  have HTs := Lib.hid hts
  rw [← htt]
  rw [← htl] at HD HAt
  clear htt htl hts
  go_wp2_with fail
  refine (edec_any 2 t x2 (by have := HA4.out; have := HTs.out; omega)).mono ?_
  rintro e x3 (⟨hd, v, rfl, hO⟩ | ⟨hd, _⟩)
  ·rw [HD.out] at hO
   simp only [] at hO
   obtain ⟨bo, bc, rfl, hS2⟩ := hO.sv
   have B3 := Lib.hid (B2.out.trans (hO.2.mono B2.out.size))
   have HS3 := HS.out.below B3.out
   rw [HL.out] at hS2 hO
   have HSm := Lib.hid (same_any x3 bo ao n bc cap l hS2 HS3)
   have hlt2 : n ≤ t.size := by have := HLe.out; have := HTs.out; have := HL.out; omega
   have hlt3 : (n : Int) ≤ t.size := by omega
   have hts4 : t.size ≤ 4000 := by have := HA4.out; have := HTs.out; omega
   clear hd hO hS2 HS3 HD
   rw [HL.out]
   go_wp2_with fail
   refine HSm.out.mono ?_
   rintro e x4 ⟨rfl, hb⟩
   have B4 := Lib.hid (B3.out.trans (hb.mono B3.out.size)); clear hb HSm
   go_wp2_with fail
   go_loop [13] (fun i => ∃ k : Nat, k ≤ t.size ∧ i = .int .i64 k) (fun i => t.size - (intOf i).toNat)
   case atStart => exact ⟨0, by omega, rfl⟩
   case round =>
    obtain ⟨k, hk, rfl⟩ := hrel
    by_cases hkt : k < t.size
    ·have hktI : (k : Int) < t.size := by omega
     have hk0 : (0 : Int) ≤ k := by omega
     have hat := HAt.out k (t[k]'hkt) (by rw [List.getElem?_eq_getElem (by rw [ba_len]; exact hkt)]; rfl)
     generalize hck : t[k]'hkt = c at hat
     have hc1 : (32 : Int) ≤ c.toNat := by have := UInt8.le_iff_toNat_le.1 hat.1; simp at this; omega
     have hc2 : (c.toNat : Int) ≤ 126 := by have := UInt8.le_iff_toNat_le.1 hat.2.1; simp at this; omega
     by_cases hce : c = 93
     ·have he1 : ((c.toNat : Int) == 93) = true := by rw [hce]; rfl
      obtain ⟨h3, h4⟩ := hat.2.2 hce
      obtain ⟨m, rfl⟩ : ∃ m, k = m + 1 := ⟨k - 1, by omega⟩
      have hmt : m < t.size := by omega
      have hmI : (m : Int) < t.size := by omega
      have hm0 : (0 : Int) ≤ m := by omega
      rw [Nat.add_sub_cancel, List.getElem?_eq_getElem (by rw [ba_len]; exact hmt)] at h4
      have h5 : t[m]'hmt = 92 := Option.some.inj h4
      clear h4 h3 hat hce
      have hmz : (((m : Int) + 1) == 0) = false := by simp; omega
      go_wp2_with fail
      go_round
      case rel => exact ⟨m + 1 + 1, by omega, by go_num⟩
      case measure => simp [intOf]; omega
     ·have he1 : ((c.toNat : Int) == 93) = false := by have := mt UInt8.toNat_inj.1 hce; simp at this ⊢; omega
      clear hat hce
      go_wp2_with fail
      go_round
      case rel => exact ⟨k + 1, by omega, by go_num⟩
      case measure => simp [intOf]; omega
    ·have hge : ¬ (k : Int) < t.size := by omega
     go_wp2_with fail
     refine (edec_any 2 s x4 (by omega)).mono ?_
     rintro e x5 (⟨hd, v, rfl, hO⟩ | ⟨hd, rfl, hb⟩)
     ·have B5 := Lib.hid (B4.out.trans (hO.2.mono B4.out.size))
      have HSh := Lib.hid (decode_shorter (p := 2) rfl s.data.toList.length s.data.toList (Nat.le_refl _))
      rw [ba_len] at HSh
      have HW : Hid ((decode 2 s.data.toList).1.length ≤ 1000) := by
       have h1 := all_len (p := 2) rfl (decode 2 s.data.toList).1
       have h2 := HSh.out
       unfold Hid; omega
      generalize (decode 2 s.data.toList).1 = u at hO HSh HW
      obtain ⟨uo, uc, rfl, hSu⟩ := hO.sv
      have HSu := Lib.hid hSu
      clear hd hO hSu
      go_wp2_with fail
      refine (eall_any 2 u uo u.length uc x5 HSu.out (by have := HW.out; omega) (HT.out.below B5.out)).mono ?_
      rintro e x6 ⟨rfl, hb⟩
      have B6 := Lib.hid (B5.out.trans (hb.mono B5.out.size))
      have HSu6 := Lib.hid (HSu.out.below hb)
      clear hb
      have HDu := Lib.hid (decode_all (p := 2) rfl u)
      obtain ⟨q, hqq⟩ : ∃ q : ByteArray, q = ⟨(all 2 u).toArray⟩ := ⟨_, rfl⟩
      have hql : q.data.toList = all 2 u := by rw [hqq]
      have hqs : q.size = (all 2 u).length := by rw [hqq]; simp [ByteArray.size]
      rw [← hqq]
      rw [← hql] at HDu
      have hqle : q.size ≤ s.size := by rw [hqs]; exact HSh.out
      have hqleI : (q.size : Int) ≤ s.size := by omega
      clear hqq hql hqs HSh
      go_wp2_with fail
      refine (edec_any 2 q x6 (by omega)).mono ?_
      rintro e x7 (⟨hd, v, rfl, hO⟩ | ⟨hd, _⟩)
      ·rw [HDu.out] at hO
       simp only [] at hO
       obtain ⟨zo, zc, rfl, hSz⟩ := hO.sv
       have B7 := Lib.hid (B6.out.trans (hO.2.mono B6.out.size))
       have HSm2 := Lib.hid (same_any x7 uo zo u.length uc zc u (HSu6.out.below hO.2) hSz)
       clear hd hO hSz HDu
       go_wp2_with fail
       refine HSm2.out.mono ?_
       rintro e x8 ⟨rfl, hb⟩
       have B8 := Lib.hid (B7.out.trans (hb.mono B7.out.size)); clear hb HSm2
       go_wp2_with fail
       go_ret
       exact ⟨rfl, B8.out⟩
      ·rw [HDu.out] at hd; cases hd
     ·have B5 := Lib.hid (B4.out.trans (hb.mono B4.out.size)); clear hb
      have hlt := (decode_le 2 s.data.toList.length s.data.toList (Nat.le_refl _)).2.1 hd
      rw [ba_len] at hlt
      clear hd
      generalize (decode 2 s.data.toList).2.1 = k2 at *
      have hltI : (k2 : Int) < s.size := by omega
      have hk20 : (0 : Int) ≤ k2 := by omega
      go_wp2_with fail
      go_ret
      exact ⟨rfl, B5.out⟩
  ·rw [HD.out] at hd; cases hd
theorem back_any (ao : Option Addr) (n cap : Nat) (l : List UInt8) (s : ByteArray) (b : Bool) (w : World) (hs : Sv w ao n cap 1 (Lib.byteCells l)) (hcp : n ≤ 140737488355328) (hm : s.size ≤ 140737488355328) (h : TzOk w) :
  Calls Tryd.prog 5 #[.slice ao n cap, .string s, .bool b] w fun e w' => e = .returned (.bool true) ∧ Below w.heap.size w w' := by
 cases b
 ·exact back_false ao n cap l s w hs hcp hm h
 ·exact back_true ao n cap l s w hs hcp hm h
end Go.Proofs.YtlfnniipkdcpdaaDoor
