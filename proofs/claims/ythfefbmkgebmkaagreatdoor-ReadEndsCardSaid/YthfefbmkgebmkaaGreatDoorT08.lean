/- Walks and plain laws: Ec S3 S4 S5. -/
import Derived.Test.YthfefbmkgebmkaaGreatDoorT07
import Derived.Test.YthfefbmkgebmkaaGreatDoorM02
import Derived.Deep.QuietTactic
import Derived.BigQuiet
import Derived.Test.YthfefbmkgebmkaaGreatDoorM07
import Derived.Laws.IdiomStrings
namespace Go.Proofs.YthfefbmkgebmkaaGreatDoor
open Go.RowKit
set_option maxRecDepth 100000
set_option maxHeartbeats 4000000

theorem rread_any (p : Int) (s : ByteArray) (a : Int) (w : World) (hs : s.size ≤ 1000000) : Calls Tryz.prog 125 #[.int .i64 p, .string s, .int .i64 a] w fun e w' => e = .returned (rdV a (rdA p s.data.toList a)) ∧ Below w.heap.size w w' := by
 have HR := Lib.hid (Below.refl w.heap.size w)
 have HN := ris_any p w
 cases hp : isPl p with
 | false =>
  have H3 := Lib.hid (rdA_no hp s.data.toList a)
  rw [hp] at HN
  clear hp
  go_enter Tryz.func125, Tryz.ntmps125
  go_wp2_with fail
  refine HN.mono ?_
  rintro e x ⟨rfl, rfl⟩
  go_wp2_with fail
  go_ret3
  exact ⟨by rw [H3.out]; rfl, HR.out⟩
 | true =>
  rw [hp] at HN
  by_cases ha : a < 0
  ·have H3 := Lib.hid (rdA_out (p := p) (s := s) (.inl ha))
   clear hp
   go_enter Tryz.func125, Tryz.ntmps125
   go_wp2_with fail
   refine HN.mono ?_
   rintro e x ⟨rfl, rfl⟩
   go_wp2_with fail
   go_ret3
   exact ⟨by rw [H3.out]; rfl, HR.out⟩
  ·by_cases ha2 : (s.size : Int) ≤ a
   ·have H3 := Lib.hid (rdA_out (p := p) (s := s) (.inr ha2))
    clear hp
    go_enter Tryz.func125, Tryz.ntmps125
    go_wp2_with fail
    refine HN.mono ?_
    rintro e x ⟨rfl, rfl⟩
    go_wp2_with fail
    go_ret3
    exact ⟨by rw [H3.out]; rfl, HR.out⟩
   ·obtain ⟨k, rfl⟩ : ∃ k : Nat, a = k := ⟨a.toNat, by omega⟩
    have hk : k < s.size := by omega
    have hk1 : (k : Int) < s.size := by omega
    have hk0 : (0 : Int) ≤ k := by omega
    clear ha ha2
    rw [rdA_in hk]
    have HB := rspecial_any p (s[k]) w
    generalize hc0 : s[k] = c at HB ⊢
    cases hsp : spec p c with
    | false =>
     rw [rd_bare hp hsp]
     rw [hsp] at HB
     clear hp hsp
     go_enter Tryz.func125, Tryz.ntmps125
     go_wp2_with fail
     refine HN.mono ?_
     rintro e x ⟨rfl, rfl⟩
     go_wp2_with fail
     refine HB.mono ?_
     rintro e x ⟨rfl, rfl⟩
     go_wp2_with fail
     go_ret3
     exact ⟨rfl, HR.out⟩
    | true =>
     rw [hsp] at HB
     by_cases hc : c = 92
     ·subst hc
      rw [rd_back hp]
      clear hp hsp
      by_cases hk2 : k + 1 < s.size
      ·have hk3 : (k : Int) + 1 < s.size := by omega
       rw [drop_at hk2]
       generalize hc1 : s[k + 1] = d
       by_cases d1 : d = 110
       ·subst d1
        go_enter Tryz.func125, Tryz.ntmps125
        go_wp2_with fail
        refine HN.mono ?_
        rintro e x ⟨rfl, rfl⟩
        go_wp2_with fail
        refine HB.mono ?_
        rintro e x ⟨rfl, rfl⟩
        go_wp2_with fail
        go_ret3
        exact ⟨rfl, HR.out⟩
       ·have f1 : ((d.toNat : Int) == 110) = false := by have := mt UInt8.toNat_inj.1 d1; simp at this ⊢; omega
        by_cases d2 : d = 114
        ·subst d2
         clear d1
         go_enter Tryz.func125, Tryz.ntmps125
         go_wp2_with fail
         refine HN.mono ?_
         rintro e x ⟨rfl, rfl⟩
         go_wp2_with fail
         refine HB.mono ?_
         rintro e x ⟨rfl, rfl⟩
         go_wp2_with fail
         go_ret3
         exact ⟨rfl, HR.out⟩
        ·have f2 : ((d.toNat : Int) == 114) = false := by have := mt UInt8.toNat_inj.1 d2; simp at this ⊢; omega
         by_cases d3 : d = 116
         ·subst d3
          clear d1 d2
          go_enter Tryz.func125, Tryz.ntmps125
          go_wp2_with fail
          refine HN.mono ?_
          rintro e x ⟨rfl, rfl⟩
          go_wp2_with fail
          refine HB.mono ?_
          rintro e x ⟨rfl, rfl⟩
          go_wp2_with fail
          go_ret3
          exact ⟨rfl, HR.out⟩
         ·have f3 : ((d.toNat : Int) == 116) = false := by have := mt UInt8.toNat_inj.1 d3; simp at this ⊢; omega
          by_cases d4 : d = 92 ∨ d = 34 ∨ d = 93 ∨ d = 45
          ·rcases d4 with rfl | rfl | rfl | rfl
           all_goals
            clear d1 d2 d3
            go_enter Tryz.func125, Tryz.ntmps125
            go_wp2_with fail
            refine HN.mono ?_
            rintro e x ⟨rfl, rfl⟩
            go_wp2_with fail
            refine HB.mono ?_
            rintro e x ⟨rfl, rfl⟩
            go_wp2_with fail
            go_ret3
            exact ⟨rfl, HR.out⟩
          ·have f4 : ((d.toNat : Int) == 92) = false := by have := mt UInt8.toNat_inj.1 (fun h => d4 (.inl h)); simp at this ⊢; omega
           have f5 : ((d.toNat : Int) == 34) = false := by have := mt UInt8.toNat_inj.1 (fun h => d4 (.inr (.inl h))); simp at this ⊢; omega
           have f6 : ((d.toNat : Int) == 93) = false := by have := mt UInt8.toNat_inj.1 (fun h => d4 (.inr (.inr (.inl h)))); simp at this ⊢; omega
           have f7 : ((d.toNat : Int) == 45) = false := by have := mt UInt8.toNat_inj.1 (fun h => d4 (.inr (.inr (.inr h)))); simp at this ⊢; omega
           by_cases d5 : d = 120
           ·subst d5
            clear d1 d2 d3 d4 f1 f2 f3 f4 f5 f6 f7
            by_cases hk4 : k + 3 < s.size
            ·have hk5 : (k : Int) + 3 < s.size := by omega
             have hk6 : k + 2 < s.size := by omega
             have hk7 : (k : Int) + 2 < s.size := by omega
             rw [drop_at hk6, drop_at (show k + 2 + 1 < s.size from hk4)]
             generalize hc2 : s[k + 2] = u
             have hc3 : s[k + 2 + 1]'hk4 = s[k + 3] := rfl
             rw [hc3]
             clear hc3
             generalize hc3 : s[k + 3] = v
             have HU := rdigit_any u w
             have HV := rdigit_any v w
             cases hu : hexv u with
             | none =>
              have H4 : Hid (esc (120 :: u :: v :: List.drop (k + 2 + 1 + 1) s.data.toList) = none) := by unfold Hid esc; simp [hu]
              have H5 : dgI u = -1 := by unfold dgI; rw [hu]
              rw [H5] at HU
              clear hu H5
              go_enter Tryz.func125, Tryz.ntmps125
              go_wp2_with fail
              refine HN.mono ?_
              rintro e x ⟨rfl, rfl⟩
              go_wp2_with fail
              refine HB.mono ?_
              rintro e x ⟨rfl, rfl⟩
              go_wp2_with fail
              refine HU.mono ?_
              rintro e x ⟨rfl, rfl⟩
              go_wp2_with fail
              go_ret3
              exact ⟨by rw [H4.out]; rfl, HR.out⟩
             | some a =>
              have H5 : dgI u = a.toNat := by unfold dgI; rw [hu]
              rw [H5] at HU
              clear H5
              have ha0 : (0 : Int) ≤ a.toNat := by omega
              cases hv : hexv v with
              | none =>
               have H4 : Hid (esc (120 :: u :: v :: List.drop (k + 2 + 1 + 1) s.data.toList) = none) := by unfold Hid esc; simp [hu, hv]
               have H5 : dgI v = -1 := by unfold dgI; rw [hv]
               rw [H5] at HV
               clear hu hv H5
               go_enter Tryz.func125, Tryz.ntmps125
               go_wp2_with fail
               refine HN.mono ?_
               rintro e x ⟨rfl, rfl⟩
               go_wp2_with fail
               refine HB.mono ?_
               rintro e x ⟨rfl, rfl⟩
               go_wp2_with fail
               refine HU.mono ?_
               rintro e x ⟨rfl, rfl⟩
               go_wp2_with fail
               refine HV.mono ?_
               rintro e x ⟨rfl, rfl⟩
               go_wp2_with fail
               go_ret3
               exact ⟨by rw [H4.out]; rfl, HR.out⟩
              | some b =>
               have H5 : dgI v = b.toNat := by unfold dgI; rw [hv]
               have H4 : Hid (esc (120 :: u :: v :: List.drop (k + 2 + 1 + 1) s.data.toList) = some (16 * a + b, 4)) := by unfold Hid esc; simp [hu, hv]
               have H7 : dgI u = a.toNat := by unfold dgI; rw [hu]
               have H8 := Lib.hid H5
               have H9 := Lib.hid H7
               rw [H5] at HV
               have hb0 : (0 : Int) ≤ b.toNat := by omega
               have HA := Lib.hid (hexv_lt hu)
               have HB2 := Lib.hid (hexv_lt hv)
               have ha1 : (a.toNat : Int) < 16 := by have := UInt8.lt_iff_toNat_lt.1 HA.out; simp at this ⊢; omega
               have hb1 : (b.toNat : Int) < 16 := by have := UInt8.lt_iff_toNat_lt.1 HB2.out; simp at this ⊢; omega
               have H6 := Lib.hid (hex_sum HA.out HB2.out)
               clear hu hv H5 H7
               go_enter Tryz.func125, Tryz.ntmps125
               go_wp2_with fail
               refine HN.mono ?_
               rintro e x ⟨rfl, rfl⟩
               go_wp2_with fail
               refine HB.mono ?_
               rintro e x ⟨rfl, rfl⟩
               go_wp2_with fail
               refine HU.mono ?_
               rintro e x ⟨rfl, rfl⟩
               go_wp2_with fail
               refine HV.mono ?_
               rintro e x ⟨rfl, rfl⟩
               go_wp2_with fail
               have H10 := H8.out
               have H11 := H9.out
               go_quiet ((go_at_call 140; exact Calls.quiet_of_same (rdigit_any _ _)))
               go_wp2_with fail
               go_ret3
               refine ⟨?_, belowN HR.out _⟩
               rw [H4.out]
               unfold rdV
               show Ending.returned (.tuple #[.int .u8 (16 * (a.toNat : Int) + b.toNat), .int .i64 ((k : Int) + 4), .bool true]) = Ending.returned (.tuple #[.int .u8 (((16 * a + b : UInt8).toNat : Nat) : Int), .int .i64 ((k : Int) + 4), .bool true])
               rw [H6.out]
            ·have H4 : Hid (esc (120 :: List.drop (k + 1 + 1) s.data.toList) = none) := by
              exact esc_x_short (by rw [List.length_drop, ba_len]; omega)
             have hk5 : ¬ (k : Int) + 3 < s.size := by omega
             go_enter Tryz.func125, Tryz.ntmps125
             go_wp2_with fail
             refine HN.mono ?_
             rintro e x ⟨rfl, rfl⟩
             go_wp2_with fail
             refine HB.mono ?_
             rintro e x ⟨rfl, rfl⟩
             go_wp2_with fail
             go_ret3
             exact ⟨by rw [H4.out]; rfl, HR.out⟩
           ·have f8 : ((d.toNat : Int) == 120) = false := by have := mt UInt8.toNat_inj.1 d5; simp at this ⊢; omega
            have H4 : Hid (esc (d :: List.drop (k + 1 + 1) s.data.toList) = none) := by
             unfold Hid esc
             have d4' : d ≠ 92 ∧ d ≠ 34 ∧ d ≠ 93 ∧ d ≠ 45 := ⟨fun h => d4 (.inl h), fun h => d4 (.inr (.inl h)), fun h => d4 (.inr (.inr (.inl h))), fun h => d4 (.inr (.inr (.inr h)))⟩
             simp [d1, d2, d3, d4', d5]
            clear d1 d2 d3 d4 d5
            go_enter Tryz.func125, Tryz.ntmps125
            go_wp2_with fail
            refine HN.mono ?_
            rintro e x ⟨rfl, rfl⟩
            go_wp2_with fail
            refine HB.mono ?_
            rintro e x ⟨rfl, rfl⟩
            go_wp2_with fail
            go_ret3
            exact ⟨by rw [H4.out]; rfl, HR.out⟩
      ·have hk3 : ¬ (k : Int) + 1 < s.size := by omega
       have H4 : Hid (esc (List.drop (k + 1) s.data.toList) = none) := by
        unfold Hid
        rw [List.drop_eq_nil_of_le (by rw [ba_len]; omega)]
        rfl
       go_enter Tryz.func125, Tryz.ntmps125
       go_wp2_with fail
       refine HN.mono ?_
       rintro e x ⟨rfl, rfl⟩
       go_wp2_with fail
       refine HB.mono ?_
       rintro e x ⟨rfl, rfl⟩
       go_wp2_with fail
       go_ret3
       exact ⟨by rw [H4.out]; rfl, HR.out⟩
     ·rw [rd_spec hp hsp hc]
      have hne : ((c.toNat : Int) == 92) = false := by have := mt UInt8.toNat_inj.1 hc; simp at this ⊢; omega
      have hne2 : ((c.toNat : Int) != 92) = true := by rw [bne, hne]; rfl
      clear hp hsp hc
      go_enter Tryz.func125, Tryz.ntmps125
      go_wp2_with fail
      refine HN.mono ?_
      rintro e x ⟨rfl, rfl⟩
      go_wp2_with fail
      refine HB.mono ?_
      rintro e x ⟨rfl, rfl⟩
      go_wp2_with fail
      go_ret3
      exact ⟨rfl, HR.out⟩
end Go.Proofs.YthfefbmkgebmkaaGreatDoor
namespace Go.Proofs.YthfefbmkgebmkaaGreatDoor
open Go.RowKit
set_option maxRecDepth 100000
set_option maxHeartbeats 4000000

theorem elemBy : Elem Tryz.prog 99 5 1 1 (.int .u8 0) := ⟨by kernel_rfl, by kernel_rfl, by decide, by decide⟩
/-- The bytes of a row as a text. -/
theorem conv_sv (w : World) (ao : Option Addr) (n cap : Nat) (l : List UInt8) (h : Sv w ao n cap 1 (Lib.byteCells l)) (hn : n = l.length) : (convert 99 9 (.slice ao n cap)).run Tryz.prog w = .ok (.string (tx l)) w := by
 subst hn
 cases ao with
 | none =>
  have h0 : l = [] := by
   have h1 := h.nn rfl
   have h2 := h.le
   exact List.eq_nil_of_length_eq_zero (by omega)
  subst h0
  rw [run_convert_bytes_string w 99 9 5 none _ cap (by kernel_rfl) (by kernel_rfl) (by kernel_rfl)]
  rfl
 | some a =>
  refine run_convert_bytes_back w _ _ 5 a cap l (by kernel_rfl) (by kernel_rfl) (by kernel_rfl) (fun j hj => ?_)
  obtain ⟨a', e, hc⟩ := h.cell j (by simp [Lib.byteCells]; exact hj)
  cases e
  rw [hc]
  simp [Lib.byteCells, hj]
def rqV (o : Option Wr) (k : Nat) : Value := match o with
 | some r => .agg (wdv r k)
 | none => .agg wd0
theorem rquoted_any (s : ByteArray) (k0 : Nat) (w : World) (hs : s.size ≤ 1000000) (hk0 : k0 < s.size) : Calls Tryz.prog 109 #[.string s, .int .i64 k0] w fun e w' => e = .returned (rqV ((qdS (s.data.toList.drop (k0 + 1))).map fun q => ⟨3, 1 + q.2, q.1, 0, []⟩) k0) ∧ Below w.heap.size w w' := by
 have HS := Lib.hid hs
 have HR := Lib.hid (fun (k : Nat) x => rread_any 1 s k x hs)
 have HK0 := Lib.hid hk0
 have hk0I : (k0 : Int) < s.size := by omega
 have hkb0 : (s.size : Int) ≤ 1000000 := by omega
 clear hs
 have hk00 : (0 : Int) ≤ k0 := by omega
 go_enter Tryz.func109, Tryz.ntmps109
 go_wp2_with fail
 have HB := Lib.hid ((Below.refl w.heap.size w).alloc (Nat.le_refl _) (.cells #[.int .i64 0, .int .i64 0, .int .i64 0, .string ⟨#[]⟩, .int .i64 0, .int .u64 0, .int .u64 0, .int .u64 0, .int .u64 0] 119))
 have HR0 := Lib.hid (show hrow (w.alloc (.cells #[.int .i64 0, .int .i64 0, .int .i64 0, .string ⟨#[]⟩, .int .i64 0, .int .u64 0, .int .u64 0, .int .u64 0, .int .u64 0] 119)) w.heap.size wd0 119 from hrow.new _ _ _)
 generalize w.alloc (.cells #[.int .i64 0, .int .i64 0, .int .i64 0, .string ⟨#[]⟩, .int .i64 0, .int .u64 0, .int .u64 0, .int .u64 0, .int .u64 0] 119) = wb at *
 clear hkb0
 go_loopw [5, 6] (fun v i wr => ∃ (k : Nat) (acc : List UInt8), k0 + 1 ≤ k ∧ k ≤ s.size ∧ i = .int .i64 k ∧ Hid (Own wb wr 5 1 v acc.length (Lib.byteCells acc) ∧ acc.length ≤ k ∧ qdS (s.data.toList.drop (k0 + 1)) = (qdS (s.data.toList.drop k)).map fun q => (acc ++ q.1, k - (k0 + 1) + q.2))) (fun _ i _ => s.size - (intOf i).toNat)
 case atStart => exact ⟨k0 + 1, [], Nat.le_refl _, hk0, by go_num, Own.nil wb _ _, by simp, by simp⟩
 case round =>
  obtain ⟨k, acc, hkk, hk, rfl, HI⟩ := hrel
  have HKK := Lib.hid hkk; clear hkk
  by_cases hlt : k < s.size
  ·have hkI : (k : Int) < s.size := by omega
   have hk1 : (0 : Int) ≤ k := by omega
   have hkb : (s.size : Int) ≤ 1000000 := by have := HS.out; omega
   obtain ⟨c, hc⟩ : ∃ c, s[k] = c := ⟨_, rfl⟩
   have HD := Lib.hid (drop_at hlt)
   rw [hc] at HD
   have HRk := Lib.hid (HR.out k)
   have HK := Lib.hid hlt
   by_cases h34 : (c.toNat : Int) = 34
   ·have hc34 : c = 34 := by have : c.toNat = 34 := by omega
                             exact UInt8.toNat_inj.1 this
    have HE : Hid (qdS (s.data.toList.drop (k0 + 1)) = some (acc, k - (k0 + 1) + 1)) := by
     unfold Hid; rw [HI.out.2.2, HD.out, hc34, qd_close]; simp
    obtain ⟨ao, cap, rfl, hsv⟩ := HI.out.1.sv
    have HCv := conv_sv wr ao _ cap acc hsv rfl
    have hge : ¬ (s.size : Int) ≤ k := by omega
    have HR1 := Lib.hid (HR0.out.below (HI.out.1.2.mono (by have := HI.out.1.2.size; exact Nat.le_refl _)))
    have HB1 := Lib.hid (HB.out.trans (HI.out.1.2.mono HB.out.size))
    have HNX : Hid ((k : Int) + 1 = k0 + (1 + (k - (k0 + 1) + 1) : Nat)) := by have := HKK.out; unfold Hid; omega
    clear hsv HRk HR
    go_wp2_with (first
     | (with_reducible refine store_rword rfl (.tmp 4) (.tmp 47) rfl w.heap.size _ _ _ _ _ _ _ _ _ rfl rfl HR1.out ?_))
    refine bodyPost_ret (results_rword rfl _ _ w.heap.size _ rfl HR1.out rfl) rfl ?_
    exact ⟨by rw [HE.out, HNX.out]; rfl, below_setRow HB1.out (Nat.le_refl _) _⟩
   ·have hc34 : c ≠ 34 := fun e => h34 (by rw [e]; rfl)
    have HO := Lib.hid (HRk.out wr)
    rw [rdA_at 1 s k hlt, HD.out] at HO
    clear HRk HR
    cases hq : rd 1 (c :: s.data.toList.drop (k + 1)) with
    | none =>
     have HE : Hid (qdS (s.data.toList.drop (k0 + 1)) = none) := by
      unfold Hid; rw [HI.out.2.2, HD.out, qd_bad hc34 hq]; rfl
     rw [hq] at HO
     unfold rdV at HO
     have HB1 := Lib.hid (HB.out.trans (HI.out.1.2.mono HB.out.size))
     have HR1 := Lib.hid (HR0.out.below HI.out.1.2)
     clear hq hc34
     go_wp2_with fail
     refine HO.out.mono ?_
     rintro e y ⟨rfl, hb⟩
     have HR2 := Lib.hid (HR1.out.below hb)
     have HB2 := Lib.hid (HB1.out.trans (hb.mono HB1.out.size))
     clear HO hb
     go_wp2_with (first
      | (with_reducible refine store_rword rfl (.tmp 4) (.tmp 31) rfl w.heap.size _ _ _ _ _ _ _ _ _ rfl rfl HR2.out ?_))
     refine bodyPost_ret (results_rword rfl _ _ w.heap.size _ rfl HR2.out rfl) rfl ?_
     exact ⟨by rw [HE.out]; rfl, below_setRow HB2.out (Nat.le_refl _) _⟩
    | some q =>
     obtain ⟨b, n⟩ := q
     have hn := rd_len hq
     rw [← HD.out, List.length_drop, ba_len] at hn
     have HN := Lib.hid hn
     have HE : Hid (qdS (s.data.toList.drop (k0 + 1)) = (qdS (s.data.toList.drop (k + n))).map fun q => ((acc ++ [b]) ++ q.1, k + n - (k0 + 1) + q.2)) := by
      unfold Hid
      rw [HI.out.2.2, HD.out, qd_step hc34 hq, ← HD.out, List.drop_drop, Option.map_map]
      congr 1
      funext q
      have := HKK.out
      simp only [Function.comp, Prod.mk.injEq, List.append_assoc, List.singleton_append, true_and]
      omega
     rw [hq] at HO
     unfold rdV at HO
     have HA := Lib.hid HI.out.1
     have HAC := Lib.hid HI.out.2.1
     clear hq hn HI hc34
     go_wp2_with fail
     refine HO.out.mono ?_
     rintro e y ⟨rfl, hb⟩
     have HA2 := Lib.hid (HA.out.below hb); clear hb HA HO
     go_wp2_with (at_builtin; refine wpList_app1 wb _ rfl (.tmp 32) (.tmp 34) 99 5 rfl elemBy _ acc.length (Lib.byteCells acc) rfl HA2.out #[.int .u8 b.toNat] rfl rfl (by simp [Value.oneCell']) (by have := HAC.out; have := HS.out; have := HK.out; omega) (by have := HAC.out; have := HS.out; have := HK.out; unfold maxLen; omega) ?_; intro v' w8 hO8; have HO8 := Lib.hid hO8; clear hO8)
     have H8 : Hid (Own wb w8 5 1 v' (acc ++ [b]).length (Lib.byteCells (acc ++ [b]))) := by
      unfold Hid
      rw [Lib.byteCells_append, List.length_append]
      exact HO8.out
     go_roundw
     case rel => exact ⟨k + n, acc ++ [b], by have := HKK.out; omega, by have := HN.out; omega, by go_num, H8.out, by have := HAC.out; have := HN.out; simp; omega, HE.out⟩
     case measure => have := HN.out; have := HK.out; simp [intOf]; omega
  ·have hkI : ¬ (k : Int) < s.size := by omega
   have hge : (s.size : Int) ≤ k := by omega
   have HE : Hid (qdS (s.data.toList.drop (k0 + 1)) = none) := by
    unfold Hid; rw [HI.out.2.2, List.drop_eq_nil_of_le (by rw [ba_len]; omega), qd_nil]; rfl
   have HR1 := Lib.hid (HR0.out.below HI.out.1.2)
   have HB1 := Lib.hid (HB.out.trans (HI.out.1.2.mono HB.out.size))
   clear HR
   go_wp2_with (first
     | (with_reducible refine store_rword rfl (.tmp 4) (.tmp 41) rfl w.heap.size _ _ _ _ _ _ _ _ _ rfl rfl HR1.out ?_))
   refine bodyPost_ret (results_rword rfl _ _ w.heap.size _ rfl HR1.out rfl) rfl ?_
   exact ⟨by rw [HE.out]; rfl, below_setRow HB1.out (Nat.le_refl _) _⟩
end Go.Proofs.YthfefbmkgebmkaaGreatDoor
namespace Go.Proofs.YthfefbmkgebmkaaGreatDoor
open Go.RowKit
set_option maxRecDepth 100000
set_option maxHeartbeats 4000000

theorem elemCl : Elem Tryz.prog 139 39 4 32 (.agg #[.int .u64 0, .int .u64 0, .int .u64 0, .int .u64 0]) := ⟨by kernel_rfl, by kernel_rfl, by decide, by decide⟩
def rgs (R : List (UInt8 × UInt8)) : List (Nat → Nat) := R.map rgW
theorem rgs_or (R : List (UInt8 × UInt8)) : orL (rgs R) = clsW R := by unfold orL rgs clsW; rw [List.foldl_map]
theorem rgs_snoc (R : List (UInt8 × UInt8)) (p : UInt8 × UInt8) : cws (rgs (R ++ [p])) = cws (rgs R) ++ (cw (rgW p)).toList := by unfold cws rgs; simp
theorem rgs_words (R : List (UInt8 × UInt8)) : ∀ W ∈ rgs R, Words W := fun W h => by obtain ⟨p, _, rfl⟩ := List.mem_map.1 h; exact rgW_words p
theorem rclassed_any (s : ByteArray) (k0 : Nat) (w : World) (hs : s.size ≤ 1000000) (hk0 : k0 < s.size) : Calls Tryz.prog 110 #[.string s, .int .i64 k0] w fun e w' => e = .returned (rqV ((cdS (s.data.toList.drop (k0 + 1))).map fun q => ⟨4, 1 + q.2, [], 0, q.1⟩) k0) ∧ Below w.heap.size w w' := by
 have HS := Lib.hid hs
 have HR := Lib.hid (fun (k : Nat) x => rread_any 2 s k x hs)
 have HK0 := Lib.hid hk0
 have hk0I : (k0 : Int) < s.size := by omega
 have hkb0 : (s.size : Int) ≤ 1000000 := by omega
 have hk00 : (0 : Int) ≤ k0 := by omega
 clear hs
 go_enter Tryz.func110, Tryz.ntmps110
 go_wp2_with fail
 have HB := Lib.hid ((Below.refl w.heap.size w).alloc (Nat.le_refl _) (.cells #[.int .i64 0, .int .i64 0, .int .i64 0, .string ⟨#[]⟩, .int .i64 0, .int .u64 0, .int .u64 0, .int .u64 0, .int .u64 0] 119))
 have HR0 := Lib.hid (show hrow (w.alloc (.cells #[.int .i64 0, .int .i64 0, .int .i64 0, .string ⟨#[]⟩, .int .i64 0, .int .u64 0, .int .u64 0, .int .u64 0, .int .u64 0] 119)) w.heap.size wd0 119 from hrow.new _ _ _)
 generalize w.alloc (.cells #[.int .i64 0, .int .i64 0, .int .i64 0, .string ⟨#[]⟩, .int .i64 0, .int .u64 0, .int .u64 0, .int .u64 0, .int .u64 0] 119) = wb at *
 clear hkb0
 go_loopw [5, 6] (fun v i wr => ∃ (k : Nat) (R : List (UInt8 × UInt8)), k0 + 1 ≤ k ∧ k ≤ s.size ∧ i = .int .i64 k ∧ Hid (Own wb wr 39 4 v R.length (cws (rgs R)) ∧ R.length ≤ k ∧ cdS (s.data.toList.drop (k0 + 1)) = (cdS (s.data.toList.drop k)).map fun q => (R ++ q.1, k - (k0 + 1) + q.2))) (fun _ i _ => s.size - (intOf i).toNat)
 case atStart => exact ⟨k0 + 1, [], Nat.le_refl _, hk0, by go_num, Own.nil wb _ _, by simp, by simp⟩
 case round =>
  obtain ⟨k, R, hkk, hk, rfl, HI⟩ := hrel
  have HKK := Lib.hid hkk; clear hkk
  by_cases hlt : k < s.size
  ·have hkI : (k : Int) < s.size := by omega
   have hk1 : (0 : Int) ≤ k := by omega
   have hkb : (s.size : Int) ≤ 1000000 := by have := HS.out; omega
   obtain ⟨c, hc⟩ : ∃ c, s[k] = c := ⟨_, rfl⟩
   have HD := Lib.hid (drop_at hlt)
   rw [hc] at HD
   have HK := Lib.hid hlt
   have HB1 := Lib.hid (HB.out.trans (HI.out.1.2.mono HB.out.size))
   have HR1 := Lib.hid (HR0.out.below HI.out.1.2)
   by_cases h93 : (c.toNat : Int) = 93
   ·have hc93 : c = 93 := by have : c.toNat = 93 := by omega
                             exact UInt8.toNat_inj.1 this
    have HE : Hid (cdS (s.data.toList.drop (k0 + 1)) = some (R, k - (k0 + 1) + 1)) := by
     unfold Hid; rw [HI.out.2.2, HD.out, hc93, cd_close]; simp
    obtain ⟨ao, cap, rfl, hsv⟩ := HI.out.1.sv
    have HOr := Lib.hid (ror_any wr ao cap R.length (rgs R) hsv (rgs_words R))
    rw [rgs_or] at HOr
    have hge : ¬ (s.size : Int) ≤ k := by omega
    have HNX : Hid ((k : Int) + 1 = k0 + (1 + (k - (k0 + 1) + 1) : Nat)) := by have := HKK.out; unfold Hid; omega
    unfold cw at HOr
    clear hsv HR
    go_wp2_with fail
    refine HOr.out.mono ?_
    rintro e y ⟨rfl, hb⟩
    have HR2 := Lib.hid (HR1.out.below hb)
    have HB2 := Lib.hid (HB1.out.trans (hb.mono HB1.out.size))
    clear hb HOr
    go_wp2_with (first
     | (with_reducible refine store_rword rfl (.tmp 4) (.tmp 77) rfl w.heap.size _ _ _ _ _ _ _ _ _ rfl rfl HR2.out ?_))
    refine bodyPost_ret (results_rword rfl _ _ w.heap.size _ rfl HR2.out rfl) rfl ?_
    exact ⟨by rw [HE.out, HNX.out]; rfl, below_setRow HB2.out (Nat.le_refl _) _⟩
   ·have hc93 : c ≠ 93 := fun e => h93 (by rw [e]; rfl)
    have HO := Lib.hid (HR.out k wr)
    rw [rdA_at 2 s k hlt, HD.out] at HO
    cases hq : rd 2 (c :: s.data.toList.drop (k + 1)) with
    | none =>
     have HE : Hid (cdS (s.data.toList.drop (k0 + 1)) = none) := by
      unfold Hid; rw [HI.out.2.2, HD.out, cd_bad hc93 hq]; rfl
     rw [hq] at HO
     unfold rdV at HO
     clear hq hc93 HR
     go_wp2_with fail
     refine HO.out.mono ?_
     rintro e y ⟨rfl, hb⟩
     have HR2 := Lib.hid (HR1.out.below hb)
     have HB2 := Lib.hid (HB1.out.trans (hb.mono HB1.out.size))
     clear HO hb
     go_wp2_with (first
      | (with_reducible refine store_rword rfl (.tmp 4) (.tmp 35) rfl w.heap.size _ _ _ _ _ _ _ _ _ rfl rfl HR2.out ?_))
     refine bodyPost_ret (results_rword rfl _ _ w.heap.size _ rfl HR2.out rfl) rfl ?_
     exact ⟨by rw [HE.out]; rfl, below_setRow HB2.out (Nat.le_refl _) _⟩
    | some q =>
     obtain ⟨b, n⟩ := q
     have hn := rd_len hq
     rw [← HD.out, List.length_drop, ba_len] at hn
     have HN := Lib.hid hn
     have hdd : (c :: s.data.toList.drop (k + 1)).drop n = s.data.toList.drop (k + n) := by rw [← HD.out, List.drop_drop]
     have HA := Lib.hid HI.out.1
     have HAC := Lib.hid HI.out.2.1
     have HI2 := Lib.hid HI.out.2.2
     rw [hq] at HO
     unfold rdV at HO
     by_cases hnx : k + n < s.size
     ·obtain ⟨d, hd⟩ : ∃ d, s[k + n] = d := ⟨_, rfl⟩
      have HD2 := Lib.hid (drop_at hnx)
      rw [hd] at HD2
      by_cases h45 : (d.toNat : Int) = 45
      ·have hd45 : d = 45 := by have : d.toNat = 45 := by omega
                                exact UInt8.toNat_inj.1 this
       have HO2 := Lib.hid (HR.out (k + n + 1) )
       rw [show ((k + n + 1 : Nat) : Int) = (k : Int) + n + 1 by omega] at HO2
       have hle := rdA_le 2 s (k + n + 1) (by omega) ((k : Int) + n + 1) (by omega)
       rw [hle] at HO2
       cases hq2 : rd 2 (s.data.toList.drop (k + n + 1)) with
       | none =>
        have HE : Hid (cdS (s.data.toList.drop (k0 + 1)) = none) := by
         unfold Hid; rw [HI2.out, HD.out, cd_bad2 hc93 hq (by rw [hdd, HD2.out, hd45]) hq2]; rfl
        rw [hq2] at HO2
        unfold rdV at HO2
        have hnI : ((k + n : Nat) : Int) < s.size := by omega
        have hn0 : (0 : Int) ≤ n := by omega
        clear hq hc93 HR hn hq2 hle hd45 hdd
        go_wp2_with fail
        refine HO.out.mono ?_
        rintro e y ⟨rfl, hb⟩
        have HR2 := Lib.hid (HR1.out.below hb)
        have HB2 := Lib.hid (HB1.out.trans (hb.mono HB1.out.size))
        clear HO hb
        go_wp2_with fail
        refine (HO2.out _).mono ?_
        rintro e z ⟨rfl, hb⟩
        have HR3 := Lib.hid (HR2.out.below hb)
        have HB3 := Lib.hid (HB2.out.trans (hb.mono HB2.out.size))
        clear HO2 hb
        go_wp2_with (first
         | (with_reducible refine store_rword rfl (.tmp 4) (.tmp 57) rfl w.heap.size _ _ _ _ _ _ _ _ _ rfl rfl HR3.out ?_))
        refine bodyPost_ret (results_rword rfl _ _ w.heap.size _ rfl HR3.out rfl) rfl ?_
        exact ⟨by rw [HE.out]; rfl, below_setRow HB3.out (Nat.le_refl _) _⟩
       | some q2 =>
        obtain ⟨b2, m⟩ := q2
        have hm := rd_len hq2
        rw [List.length_drop, ba_len] at hm
        have HN2 : Hid (k + n + 1 + m ≤ s.size) := by unfold Hid; omega
        have HE : Hid (cdS (s.data.toList.drop (k0 + 1)) = (cdS (s.data.toList.drop (k + n + 1 + m))).map fun q => ((R ++ [(b, b2)]) ++ q.1, k + n + 1 + m - (k0 + 1) + q.2)) := by
         unfold Hid
         rw [HI2.out, HD.out, cd_two hc93 hq (by rw [hdd, HD2.out, hd45]) hq2, List.drop_drop, Option.map_map]
         congr 1
         funext q
         have := HKK.out
         simp only [Function.comp, Prod.mk.injEq, List.append_assoc, List.singleton_append, true_and]
         omega
        rw [hq2] at HO2
        unfold rdV at HO2
        have hnI : ((k + n : Nat) : Int) < s.size := by omega
        have hn0 : (0 : Int) ≤ n := by omega
        have hm0 : (0 : Int) ≤ m := by omega
        have HRg := Lib.hid (fun x => rrng_any (b, b2) x)
        unfold cw at HRg
        simp only [] at HRg
        clear hq hc93 HR hn hm hq2 hle hd45 hdd
        go_wp2_with fail
        refine HO.out.mono ?_
        rintro e y ⟨rfl, hb⟩
        have HA2 := Lib.hid (HA.out.below hb)
        clear HO hb HA HR1 HB1
        go_wp2_with fail
        refine (HO2.out _).mono ?_
        rintro e y2 ⟨rfl, hb⟩
        replace HA2 := Lib.hid (HA2.out.below hb)
        clear HO2 hb
        go_wp2_with fail
        refine (HRg.out _).mono ?_
        rintro e z ⟨rfl, hb⟩
        have HA3 := Lib.hid (HA2.out.below hb); clear hb HA2 HRg
        go_wp2_with (at_builtin; refine wpList_app1 wb _ rfl (.tmp 60) (.tmp 64) 139 39 rfl elemCl _ R.length (cws (rgs R)) rfl HA3.out #[.int .u64 (rgW (b, b2) 0), .int .u64 (rgW (b, b2) 1), .int .u64 (rgW (b, b2) 2), .int .u64 (rgW (b, b2) 3)] rfl rfl (by simp [Value.oneCell']) (by have := HAC.out; have := HS.out; have := HK.out; omega) (by have := HAC.out; have := HS.out; have := HK.out; unfold maxLen; omega) ?_; intro v' w8 hO8; have HO8 := Lib.hid hO8; clear hO8)
        have H8 : Hid (Own wb w8 39 4 v' (R ++ [(b, b2)]).length (cws (rgs (R ++ [(b, b2)])))) := by
         unfold Hid
         rw [rgs_snoc, List.length_append]
         exact HO8.out
        go_roundw
        case rel => exact ⟨k + n + 1 + m, R ++ [(b, b2)], by have := HKK.out; omega, by have := HN2.out; omega, by go_num, H8.out, by have := HAC.out; have := HN.out; simp; omega, HE.out⟩
        case measure => have := HN.out; have := HK.out; simp [intOf]; omega
      ·have hd45 : d ≠ 45 := fun e => h45 (by rw [e]; rfl)
       have HN2 : Hid (k + n ≤ s.size) := by unfold Hid; omega
       have HE : Hid (cdS (s.data.toList.drop (k0 + 1)) = (cdS (s.data.toList.drop (k + n))).map fun q => ((R ++ [(b, b)]) ++ q.1, k + n - (k0 + 1) + q.2)) := by
        unfold Hid
        rw [HI2.out, HD.out, cd_one hc93 hq (by rw [hdd, HD2.out]) hd45, ← HD2.out, Option.map_map]
        congr 1
        funext q
        have := HKK.out
        simp only [Function.comp, Prod.mk.injEq, List.append_assoc, List.singleton_append, true_and]
        omega
       have hnI : ((k + n : Nat) : Int) < s.size := by omega
       have hn0 : (0 : Int) ≤ n := by omega
       have HRg := Lib.hid (fun x => rrng_any (b, b) x)
       unfold cw at HRg
       simp only [] at HRg
       clear hq hc93 HR hn hd45 hdd
       go_wp2_with fail
       refine HO.out.mono ?_
       rintro e y ⟨rfl, hb⟩
       have HA2 := Lib.hid (HA.out.below hb)
       clear HO hb HA HR1 HB1
       go_wp2_with fail
       refine (HRg.out _).mono ?_
       rintro e z ⟨rfl, hb⟩
       have HA3 := Lib.hid (HA2.out.below hb); clear hb HA2 HRg
       go_wp2_with (at_builtin; refine wpList_app1 wb _ rfl (.tmp 60) (.tmp 64) 139 39 rfl elemCl _ R.length (cws (rgs R)) rfl HA3.out #[.int .u64 (rgW (b, b) 0), .int .u64 (rgW (b, b) 1), .int .u64 (rgW (b, b) 2), .int .u64 (rgW (b, b) 3)] rfl rfl (by simp [Value.oneCell']) (by have := HAC.out; have := HS.out; have := HK.out; omega) (by have := HAC.out; have := HS.out; have := HK.out; unfold maxLen; omega) ?_; intro v' w8 hO8; have HO8 := Lib.hid hO8; clear hO8)
       have H8 : Hid (Own wb w8 39 4 v' (R ++ [(b, b)]).length (cws (rgs (R ++ [(b, b)])))) := by
        unfold Hid
        rw [rgs_snoc, List.length_append]
        exact HO8.out
       go_roundw
       case rel => exact ⟨k + n, R ++ [(b, b)], by have := HKK.out; omega, by have := HN2.out; omega, by go_num, H8.out, by have := HAC.out; have := HN.out; simp; omega, HE.out⟩
       case measure => have := HN.out; have := HK.out; simp [intOf]; omega
     ·have hnil : s.data.toList.drop (k + n) = [] := List.drop_eq_nil_of_le (by rw [ba_len]; omega)
      have HN2 : Hid (k + n ≤ s.size) := by unfold Hid; omega
      have HE : Hid (cdS (s.data.toList.drop (k0 + 1)) = (cdS (s.data.toList.drop (k + n))).map fun q => ((R ++ [(b, b)]) ++ q.1, k + n - (k0 + 1) + q.2)) := by
       unfold Hid
       rw [HI2.out, HD.out, cd_end hc93 hq (by rw [hdd, hnil]), hnil, cd_nil]; rfl
      have hnI : ¬ ((k + n : Nat) : Int) < s.size := by omega
      have hn0 : (0 : Int) ≤ n := by omega
      have HRg := Lib.hid (fun x => rrng_any (b, b) x)
      unfold cw at HRg
      simp only [] at HRg
      clear hq hc93 HR hn hnil hdd
      go_wp2_with fail
      refine HO.out.mono ?_
      rintro e y ⟨rfl, hb⟩
      have HA2 := Lib.hid (HA.out.below hb)
      clear HO hb HA HR1 HB1
      go_wp2_with fail
      refine (HRg.out _).mono ?_
      rintro e z ⟨rfl, hb⟩
      have HA3 := Lib.hid (HA2.out.below hb); clear hb HA2 HRg
      go_wp2_with (at_builtin; refine wpList_app1 wb _ rfl (.tmp 60) (.tmp 64) 139 39 rfl elemCl _ R.length (cws (rgs R)) rfl HA3.out #[.int .u64 (rgW (b, b) 0), .int .u64 (rgW (b, b) 1), .int .u64 (rgW (b, b) 2), .int .u64 (rgW (b, b) 3)] rfl rfl (by simp [Value.oneCell']) (by have := HAC.out; have := HS.out; have := HK.out; omega) (by have := HAC.out; have := HS.out; have := HK.out; unfold maxLen; omega) ?_; intro v' w8 hO8; have HO8 := Lib.hid hO8; clear hO8)
      have H8 : Hid (Own wb w8 39 4 v' (R ++ [(b, b)]).length (cws (rgs (R ++ [(b, b)])))) := by
       unfold Hid
       rw [rgs_snoc, List.length_append]
       exact HO8.out
      go_roundw
      case rel => exact ⟨k + n, R ++ [(b, b)], by have := HKK.out; omega, by have := HN2.out; omega, by go_num, H8.out, by have := HAC.out; have := HN.out; simp; omega, HE.out⟩
      case measure => have := HN.out; have := HK.out; simp [intOf]; omega
  ·have hkI : ¬ (k : Int) < s.size := by omega
   have hge : (s.size : Int) ≤ k := by omega
   have HE : Hid (cdS (s.data.toList.drop (k0 + 1)) = none) := by
    unfold Hid; rw [HI.out.2.2, List.drop_eq_nil_of_le (by rw [ba_len]; omega), cd_nil]; rfl
   have HR1 := Lib.hid (HR0.out.below HI.out.1.2)
   have HB1 := Lib.hid (HB.out.trans (HI.out.1.2.mono HB.out.size))
   clear HR
   go_wp2_with (first
     | (with_reducible refine store_rword rfl (.tmp 4) (.tmp 71) rfl w.heap.size _ _ _ _ _ _ _ _ _ rfl rfl HR1.out ?_))
   refine bodyPost_ret (results_rword rfl _ _ w.heap.size _ rfl HR1.out rfl) rfl ?_
   exact ⟨by rw [HE.out]; rfl, below_setRow HB1.out (Nat.le_refl _) _⟩
end Go.Proofs.YthfefbmkgebmkaaGreatDoor
namespace Go.Proofs.YthfefbmkgebmkaaGreatDoor
open Go.RowKit
set_option maxRecDepth 100000
set_option maxHeartbeats 4000000

theorem rword_any (s : ByteArray) (k : Nat) (w : World) (hs : s.size ≤ 1000000) (hk : k ≤ s.size) : Calls Tryz.prog 90 #[.string s, .int .i64 k] w fun e w' => e = .returned (rqV (wordR (s.data.toList.drop k)) k) ∧ Below w.heap.size w w' := by
 have HS := Lib.hid hs
 have hkb : (s.size : Int) ≤ 1000000 := by omega
 have hk0 : (0 : Int) ≤ k := by omega
 have HB := Lib.hid ((Below.refl w.heap.size w).alloc (Nat.le_refl _) (.cells #[.int .i64 0, .int .i64 0, .int .i64 0, .string ⟨#[]⟩, .int .i64 0, .int .u64 0, .int .u64 0, .int .u64 0, .int .u64 0] 119))
 have HR := Lib.hid (show hrow (w.alloc (.cells #[.int .i64 0, .int .i64 0, .int .i64 0, .string ⟨#[]⟩, .int .i64 0, .int .u64 0, .int .u64 0, .int .u64 0, .int .u64 0] 119)) w.heap.size wd0 119 from hrow.new _ _ _)
 by_cases hlt : k < s.size
 ·have hkI : (k : Int) < s.size := by omega
  have hke : ¬ (k : Int) = s.size := by omega
  obtain ⟨c, hc⟩ : ∃ c, s[k] = c := ⟨_, rfl⟩
  have HD := Lib.hid (drop_at hlt)
  rw [hc] at HD
  have HLT := Lib.hid hlt
  go_enter Tryz.func90, Tryz.ntmps90
  go_wp2_with fail
  have HB1 := Lib.hid HB.out
  have HR1 := Lib.hid HR.out
  clear HB HR
  generalize w.alloc (.cells #[.int .i64 0, .int .i64 0, .int .i64 0, .string ⟨#[]⟩, .int .i64 0, .int .u64 0, .int .u64 0, .int .u64 0, .int .u64 0] 119) = wb at *
  have HLt := Lib.hid (rlet_any c wb)
  cases hl : isLt c with
  | true =>
   rw [hl] at HLt
   have HE : Hid (wordR (s.data.toList.drop k) = some (nameW (s.data.toList.drop k))) := by unfold Hid; rw [HD.out]; simp only [wordR]; rw [if_pos hl]
   have HC := Lib.hid (rnamed_any s k wb hs hk)
   generalize nameW (s.data.toList.drop k) = r at *
   unfold wdv wdA at HC
   clear hs hl
   refine HLt.out.mono ?_
   rintro e y ⟨rfl, rfl⟩
   go_wp2_with fail
   refine HC.out.mono ?_
   rintro e y2 ⟨rfl, hb⟩
   have HR2 := Lib.hid (HR1.out.below hb)
   have HB2 := Lib.hid (HB1.out.trans (hb.mono HB1.out.size))
   clear HC hb
   go_wp2_with (first
    | (with_reducible refine store_rword rfl (.tmp 4) (.tmp 23) rfl w.heap.size _ _ _ _ _ _ _ _ _ rfl rfl HR2.out ?_))
   refine bodyPost_ret (results_rword rfl _ _ w.heap.size _ rfl HR2.out rfl) rfl ?_
   exact ⟨by rw [HE.out]; rfl, below_setRow HB2.out (Nat.le_refl _) _⟩
  | false =>
   rw [hl] at HLt
   refine HLt.out.mono ?_
   rintro e y ⟨rfl, rfl⟩
   by_cases h34 : (c.toNat : Int) = 34
   ·have hc34 : c = 34 := by have : c.toNat = 34 := by omega
                             exact UInt8.toNat_inj.1 this
    have HE : Hid (wordR (s.data.toList.drop k) = (qdS (s.data.toList.drop (k + 1))).map fun q => ⟨3, 1 + q.2, q.1, 0, []⟩) := by
     unfold Hid; rw [HD.out]; simp only [wordR]; rw [if_neg (by rw [hl]; decide), if_pos (by rw [hc34]; decide)]; rfl
    have HC := Lib.hid (rquoted_any s k y hs hlt)
    rw [← HE.out] at HC
    cases hq : wordR (s.data.toList.drop k) with
    | some r =>
     have HQ := Lib.hid hq
     rw [hq] at HC
     unfold rqV wdv wdA at HC
     simp only [] at HC
     clear hq HE
     go_wp2_with fail
     refine HC.out.mono ?_
     rintro e y ⟨rfl, hb⟩
     have HR2 := Lib.hid (HR1.out.below hb)
     have HB2 := Lib.hid (HB1.out.trans (hb.mono HB1.out.size))
     clear HC hb
     go_wp2_with (first
      | (with_reducible refine store_rword rfl (.tmp 4) (.tmp 29) rfl w.heap.size _ _ _ _ _ _ _ _ _ rfl rfl HR2.out ?_))
     refine bodyPost_ret (results_rword rfl _ _ w.heap.size _ rfl HR2.out rfl) rfl ?_
     exact ⟨by rw [HQ.out]; rfl, below_setRow HB2.out (Nat.le_refl _) _⟩
    | none =>
     have HQ := Lib.hid hq
     rw [hq] at HC
     unfold rqV wd0 wdA at HC
     simp only [] at HC
     clear hq HE
     go_wp2_with fail
     refine HC.out.mono ?_
     rintro e y ⟨rfl, hb⟩
     have HR2 := Lib.hid (HR1.out.below hb)
     have HB2 := Lib.hid (HB1.out.trans (hb.mono HB1.out.size))
     clear HC hb
     go_wp2_with (first
      | (with_reducible refine store_rword rfl (.tmp 4) (.tmp 29) rfl w.heap.size _ _ _ _ _ _ _ _ _ rfl rfl HR2.out ?_))
     refine bodyPost_ret (results_rword rfl _ _ w.heap.size _ rfl HR2.out rfl) rfl ?_
     exact ⟨by rw [HQ.out]; rfl, below_setRow HB2.out (Nat.le_refl _) _⟩
   by_cases h91 : (c.toNat : Int) = 91
   ·have hc91 : c = 91 := by have : c.toNat = 91 := by omega
                             exact UInt8.toNat_inj.1 this
    have HE : Hid (wordR (s.data.toList.drop k) = (cdS (s.data.toList.drop (k + 1))).map fun q => ⟨4, 1 + q.2, [], 0, q.1⟩) := by
     unfold Hid; rw [HD.out]; simp only [wordR]; rw [if_neg (by rw [hl]; decide), if_neg (by rw [hc91]; decide), if_pos (by rw [hc91]; decide)]; rfl
    have HC := Lib.hid (rclassed_any s k y hs hlt)
    rw [← HE.out] at HC
    cases hq : wordR (s.data.toList.drop k) with
    | some r =>
     have HQ := Lib.hid hq
     rw [hq] at HC
     unfold rqV wdv wdA at HC
     simp only [] at HC
     clear hq HE
     go_wp2_with fail
     refine HC.out.mono ?_
     rintro e y ⟨rfl, hb⟩
     have HR2 := Lib.hid (HR1.out.below hb)
     have HB2 := Lib.hid (HB1.out.trans (hb.mono HB1.out.size))
     clear HC hb
     go_wp2_with (first
      | (with_reducible refine store_rword rfl (.tmp 4) (.tmp 35) rfl w.heap.size _ _ _ _ _ _ _ _ _ rfl rfl HR2.out ?_))
     refine bodyPost_ret (results_rword rfl _ _ w.heap.size _ rfl HR2.out rfl) rfl ?_
     exact ⟨by rw [HQ.out]; rfl, below_setRow HB2.out (Nat.le_refl _) _⟩
    | none =>
     have HQ := Lib.hid hq
     rw [hq] at HC
     unfold rqV wd0 wdA at HC
     simp only [] at HC
     clear hq HE
     go_wp2_with fail
     refine HC.out.mono ?_
     rintro e y ⟨rfl, hb⟩
     have HR2 := Lib.hid (HR1.out.below hb)
     have HB2 := Lib.hid (HB1.out.trans (hb.mono HB1.out.size))
     clear HC hb
     go_wp2_with (first
      | (with_reducible refine store_rword rfl (.tmp 4) (.tmp 35) rfl w.heap.size _ _ _ _ _ _ _ _ _ rfl rfl HR2.out ?_))
     refine bodyPost_ret (results_rword rfl _ _ w.heap.size _ rfl HR2.out rfl) rfl ?_
     exact ⟨by rw [HQ.out]; rfl, below_setRow HB2.out (Nat.le_refl _) _⟩
   have hne1 : (c == 34) = false := by simp only [beq_eq_false_iff_ne]; intro e; exact h34 (by rw [e]; rfl)
   have hne2 : (c == 91) = false := by simp only [beq_eq_false_iff_ne]; intro e; exact h91 (by rw [e]; rfl)
   have HE0 : Hid (wordR (s.data.toList.drop k) = if c == 60 && (s.data.toList.drop (k + 1)).head? == some 45 then some ⟨5, 2, [60, 45], 0, []⟩ else if sgs.contains c then some ⟨5, 1, [c], 0, []⟩ else none) := by
    unfold Hid; rw [HD.out]; simp only [wordR]; rw [if_neg (by rw [hl]; decide), if_neg (by rw [hne1]; decide), if_neg (by rw [hne2]; decide)]
   have HAr : (∃ d, ∃ h : k + 1 < s.size, s[k + 1] = d ∧ (s.data.toList.drop (k + 1)).head? = some d) ∨ (¬ k + 1 < s.size ∧ (s.data.toList.drop (k + 1)).head? = none) := by
    by_cases h : k + 1 < s.size
    ·exact .inl ⟨s[k + 1], h, rfl, by rw [drop_at h]; rfl⟩
    ·exact .inr ⟨h, by rw [List.drop_eq_nil_of_le (by rw [ba_len]; omega)]; rfl⟩
   clear hne1 hne2
   by_cases h60 : (c.toNat : Int) = 60
   ·have hc60 : c = 60 := by have : c.toNat = 60 := by omega
                             exact UInt8.toNat_inj.1 this
    rcases HAr with ⟨d, h1, hd, hh⟩ | ⟨h1, hh⟩
    ·have h1I : (k : Int) + 1 < s.size := by omega
     by_cases h45 : (d.toNat : Int) = 45
     ·have hd45 : d = 45 := by have : d.toNat = 45 := by omega
                               exact UInt8.toNat_inj.1 this
      have HE : Hid (wordR (s.data.toList.drop k) = some ⟨5, 2, [60, 45], 0, []⟩) := by unfold Hid; rw [HE0.out, if_pos (by rw [hc60, hh, hd45]; decide)]
      clear HE0 hc60 hd45 hh hs hl
      go_wp2_with (first
       | (with_reducible refine store_rword rfl (.tmp 4) (.tmp 56) rfl w.heap.size _ _ _ _ _ _ _ _ _ rfl rfl HR1.out ?_))
      refine bodyPost_ret (results_rword rfl _ _ w.heap.size _ rfl HR1.out rfl) rfl ?_
      exact ⟨by rw [HE.out]; rfl, below_setRow HB1.out (Nat.le_refl _) _⟩
     ·have hd45 : (d == 45) = false := by simp only [beq_eq_false_iff_ne]; intro e; exact h45 (by rw [e]; rfl)
      have HE1 : Hid (wordR (s.data.toList.drop k) = if sgs.contains c then some ⟨5, 1, [c], 0, []⟩ else none) := by unfold Hid; rw [HE0.out, if_neg (by rw [hh]; simp only [beq_eq_false_iff_ne] at hd45; simp [hd45])]
      clear HE0 hc60 hd45 hh hs hl HLt
      go_wp2_with fail
      go_loopw [7] (fun i wr => ∃ j : Nat, j ≤ 10 ∧ i = .int .i64 j ∧ Hid ((∀ i, i < j → sgs[i]? ≠ some c) ∧ hrow wr w.heap.size wd0 119 ∧ Below w.heap.size w wr)) (fun i _ => 10 - (intOf i).toNat)
      case atStart => exact ⟨0, by omega, rfl, fun i hi => absurd hi (by omega), HR1.out, HB1.out⟩
      case round =>
       clear HR1 HB1
       obtain ⟨j, hj, rfl, HI⟩ := hrel
       have HR1 := Lib.hid HI.out.2.1
       have HB1 := Lib.hid HI.out.2.2
       by_cases hj10 : j < 10
       ·have hjI : (j : Int) < 10 := by omega
        have hj0 : (0 : Int) ≤ j := by omega
        obtain ⟨yb, hyb⟩ : ∃ yb, (⟨#[47, 40, 41, 46, 59, 42, 43, 63, 33, 38]⟩ : ByteArray)[j]'(show j < 10 from hj10) = yb := ⟨_, rfl⟩
        have hsg : sgs[j]? = some yb := by
         rw [← hyb]
         have : j = 0 ∨ j = 1 ∨ j = 2 ∨ j = 3 ∨ j = 4 ∨ j = 5 ∨ j = 6 ∨ j = 7 ∨ j = 8 ∨ j = 9 := by omega
         rcases this with rfl | rfl | rfl | rfl | rfl | rfl | rfl | rfl | rfl | rfl <;> rfl
        have HJ := Lib.hid hj10
        by_cases hyc : yb = c
        ·have HE : Hid (wordR (s.data.toList.drop k) = some ⟨5, 1, [c], 0, []⟩) := by
          unfold Hid; rw [HE1.out, if_pos]
          rw [List.contains_iff_mem]; exact hyc ▸ List.mem_of_getElem? hsg
         have hsl : ∀ wx, (Instr.slice 9 (.string ⟨#[47, 40, 41, 46, 59, 42, 43, 63, 33, 38]⟩) (some (.int .i64 j)) (some (.int .i64 (j + 1))) none).run Tryz.prog wx = .ok (.string (tx [c])) wx := fun wx => by
          rw [mid_run 9 Tryz.underlying9 ⟨#[47, 40, 41, 46, 59, 42, 43, 63, 33, 38]⟩ j 1 j (j + 1) rfl (by omega) (show j + 1 ≤ 10 from hj10) wx]
          have e : (List.drop j (ByteArray.mk #[47, 40, 41, 46, 59, 42, 43, 63, 33, 38]).data.toList).take 1 = [c] := by
           have h1 := drop_at (s := ⟨#[47, 40, 41, 46, 59, 42, 43, 63, 33, 38]⟩) (k := j) (show j < 10 from hj10)
           rw [h1, hyb, hyc]; rfl
          rw [e]
         have hyI : ((yb.toNat : Int) == (c.toNat : Int)) = true := by rw [hyc]; simp
         clear hsg hyc HI
         go_wp2_with (first
          | (with_reducible refine store_rword rfl (.tmp 4) (.tmp 76) rfl w.heap.size _ _ _ _ _ _ _ _ _ rfl rfl HR1.out ?_))
         refine bodyPost_ret (results_rword rfl _ _ w.heap.size _ rfl HR1.out rfl) rfl ?_
         exact ⟨by rw [HE.out]; rfl, below_setRow HB1.out (Nat.le_refl _) _⟩
        ·have HNo : Hid (∀ i, i < j + 1 → sgs[i]? ≠ some c) := fun i hi => by
          by_cases h : i = j
          ·subst h; rw [hsg]; intro e; exact hyc (by simpa using e)
          ·exact HI.out.1 i (by omega)
         have hyI : ((yb.toNat : Int) == (c.toNat : Int)) = false := by
          rw [beq_eq_false_iff_ne]; intro e; exact hyc (UInt8.toNat_inj.1 (by omega))
         clear hsg hyc HI
         go_wp2_with fail
         go_roundw
         case rel => exact ⟨j + 1, HJ.out, by go_num, HNo.out, HR1.out, HB1.out⟩
         case measure => have := HJ.out; simp [intOf]; omega
       ·have hjI : ¬ (j : Int) < 10 := by omega
        obtain rfl : j = 10 := by omega
        have HE : Hid (wordR (s.data.toList.drop k) = none) := by
         unfold Hid; rw [HE1.out, if_neg]
         rw [List.contains_iff_mem]; intro hm
         obtain ⟨i, hi, he⟩ := List.getElem_of_mem hm
         exact HI.out.1 i hi (by rw [List.getElem?_eq_getElem hi, he])
        clear HI
        go_wp2_with (first
         | (with_reducible refine store_rword rfl (.tmp 4) (.tmp 77) rfl w.heap.size _ _ _ _ _ _ _ _ _ rfl rfl HR1.out ?_))
        refine bodyPost_ret (results_rword rfl _ _ w.heap.size _ rfl HR1.out rfl) rfl ?_
        exact ⟨by rw [HE.out]; rfl, below_setRow HB1.out (Nat.le_refl _) _⟩
    ·have h1I : ¬ (k : Int) + 1 < s.size := by omega
     have HE1 : Hid (wordR (s.data.toList.drop k) = if sgs.contains c then some ⟨5, 1, [c], 0, []⟩ else none) := by unfold Hid; rw [HE0.out, if_neg (by rw [hh]; simp)]
     clear HE0 hc60 hh hs hl HLt
     go_wp2_with fail
     go_loopw [7] (fun i wr => ∃ j : Nat, j ≤ 10 ∧ i = .int .i64 j ∧ Hid ((∀ i, i < j → sgs[i]? ≠ some c) ∧ hrow wr w.heap.size wd0 119 ∧ Below w.heap.size w wr)) (fun i _ => 10 - (intOf i).toNat)
     case atStart => exact ⟨0, by omega, rfl, fun i hi => absurd hi (by omega), HR1.out, HB1.out⟩
     case round =>
      clear HR1 HB1
      obtain ⟨j, hj, rfl, HI⟩ := hrel
      have HR1 := Lib.hid HI.out.2.1
      have HB1 := Lib.hid HI.out.2.2
      by_cases hj10 : j < 10
      ·have hjI : (j : Int) < 10 := by omega
       have hj0 : (0 : Int) ≤ j := by omega
       obtain ⟨yb, hyb⟩ : ∃ yb, (⟨#[47, 40, 41, 46, 59, 42, 43, 63, 33, 38]⟩ : ByteArray)[j]'(show j < 10 from hj10) = yb := ⟨_, rfl⟩
       have hsg : sgs[j]? = some yb := by
        rw [← hyb]
        have : j = 0 ∨ j = 1 ∨ j = 2 ∨ j = 3 ∨ j = 4 ∨ j = 5 ∨ j = 6 ∨ j = 7 ∨ j = 8 ∨ j = 9 := by omega
        rcases this with rfl | rfl | rfl | rfl | rfl | rfl | rfl | rfl | rfl | rfl <;> rfl
       have HJ := Lib.hid hj10
       by_cases hyc : yb = c
       ·have HE : Hid (wordR (s.data.toList.drop k) = some ⟨5, 1, [c], 0, []⟩) := by
         unfold Hid; rw [HE1.out, if_pos]
         rw [List.contains_iff_mem]; exact hyc ▸ List.mem_of_getElem? hsg
        have hsl : ∀ wx, (Instr.slice 9 (.string ⟨#[47, 40, 41, 46, 59, 42, 43, 63, 33, 38]⟩) (some (.int .i64 j)) (some (.int .i64 (j + 1))) none).run Tryz.prog wx = .ok (.string (tx [c])) wx := fun wx => by
         rw [mid_run 9 Tryz.underlying9 ⟨#[47, 40, 41, 46, 59, 42, 43, 63, 33, 38]⟩ j 1 j (j + 1) rfl (by omega) (show j + 1 ≤ 10 from hj10) wx]
         have e : (List.drop j (ByteArray.mk #[47, 40, 41, 46, 59, 42, 43, 63, 33, 38]).data.toList).take 1 = [c] := by
          have h1 := drop_at (s := ⟨#[47, 40, 41, 46, 59, 42, 43, 63, 33, 38]⟩) (k := j) (show j < 10 from hj10)
          rw [h1, hyb, hyc]; rfl
         rw [e]
        have hyI : ((yb.toNat : Int) == (c.toNat : Int)) = true := by rw [hyc]; simp
        clear hsg hyc HI
        go_wp2_with (first
         | (with_reducible refine store_rword rfl (.tmp 4) (.tmp 76) rfl w.heap.size _ _ _ _ _ _ _ _ _ rfl rfl HR1.out ?_))
        refine bodyPost_ret (results_rword rfl _ _ w.heap.size _ rfl HR1.out rfl) rfl ?_
        exact ⟨by rw [HE.out]; rfl, below_setRow HB1.out (Nat.le_refl _) _⟩
       ·have HNo : Hid (∀ i, i < j + 1 → sgs[i]? ≠ some c) := fun i hi => by
         by_cases h : i = j
         ·subst h; rw [hsg]; intro e; exact hyc (by simpa using e)
         ·exact HI.out.1 i (by omega)
        have hyI : ((yb.toNat : Int) == (c.toNat : Int)) = false := by
         rw [beq_eq_false_iff_ne]; intro e; exact hyc (UInt8.toNat_inj.1 (by omega))
        clear hsg hyc HI
        go_wp2_with fail
        go_roundw
        case rel => exact ⟨j + 1, HJ.out, by go_num, HNo.out, HR1.out, HB1.out⟩
        case measure => have := HJ.out; simp [intOf]; omega
      ·have hjI : ¬ (j : Int) < 10 := by omega
       obtain rfl : j = 10 := by omega
       have HE : Hid (wordR (s.data.toList.drop k) = none) := by
        unfold Hid; rw [HE1.out, if_neg]
        rw [List.contains_iff_mem]; intro hm
        obtain ⟨i, hi, he⟩ := List.getElem_of_mem hm
        exact HI.out.1 i hi (by rw [List.getElem?_eq_getElem hi, he])
       clear HI
       go_wp2_with (first
        | (with_reducible refine store_rword rfl (.tmp 4) (.tmp 77) rfl w.heap.size _ _ _ _ _ _ _ _ _ rfl rfl HR1.out ?_))
       refine bodyPost_ret (results_rword rfl _ _ w.heap.size _ rfl HR1.out rfl) rfl ?_
       exact ⟨by rw [HE.out]; rfl, below_setRow HB1.out (Nat.le_refl _) _⟩
   ·have hc60 : (c == 60) = false := by simp only [beq_eq_false_iff_ne]; intro e; exact h60 (by rw [e]; rfl)
    have HE1 : Hid (wordR (s.data.toList.drop k) = if sgs.contains c then some ⟨5, 1, [c], 0, []⟩ else none) := by unfold Hid; rw [HE0.out, if_neg (by rw [hc60]; simp)]
    clear HE0 hc60 hs hl HLt HAr
    go_wp2_with fail
    go_loopw [7] (fun i wr => ∃ j : Nat, j ≤ 10 ∧ i = .int .i64 j ∧ Hid ((∀ i, i < j → sgs[i]? ≠ some c) ∧ hrow wr w.heap.size wd0 119 ∧ Below w.heap.size w wr)) (fun i _ => 10 - (intOf i).toNat)
    case atStart => exact ⟨0, by omega, rfl, fun i hi => absurd hi (by omega), HR1.out, HB1.out⟩
    case round =>
     clear HR1 HB1
     obtain ⟨j, hj, rfl, HI⟩ := hrel
     have HR1 := Lib.hid HI.out.2.1
     have HB1 := Lib.hid HI.out.2.2
     by_cases hj10 : j < 10
     ·have hjI : (j : Int) < 10 := by omega
      have hj0 : (0 : Int) ≤ j := by omega
      obtain ⟨yb, hyb⟩ : ∃ yb, (⟨#[47, 40, 41, 46, 59, 42, 43, 63, 33, 38]⟩ : ByteArray)[j]'(show j < 10 from hj10) = yb := ⟨_, rfl⟩
      have hsg : sgs[j]? = some yb := by
       rw [← hyb]
       have : j = 0 ∨ j = 1 ∨ j = 2 ∨ j = 3 ∨ j = 4 ∨ j = 5 ∨ j = 6 ∨ j = 7 ∨ j = 8 ∨ j = 9 := by omega
       rcases this with rfl | rfl | rfl | rfl | rfl | rfl | rfl | rfl | rfl | rfl <;> rfl
      have HJ := Lib.hid hj10
      by_cases hyc : yb = c
      ·have HE : Hid (wordR (s.data.toList.drop k) = some ⟨5, 1, [c], 0, []⟩) := by
        unfold Hid; rw [HE1.out, if_pos]
        rw [List.contains_iff_mem]; exact hyc ▸ List.mem_of_getElem? hsg
       have hsl : ∀ wx, (Instr.slice 9 (.string ⟨#[47, 40, 41, 46, 59, 42, 43, 63, 33, 38]⟩) (some (.int .i64 j)) (some (.int .i64 (j + 1))) none).run Tryz.prog wx = .ok (.string (tx [c])) wx := fun wx => by
        rw [mid_run 9 Tryz.underlying9 ⟨#[47, 40, 41, 46, 59, 42, 43, 63, 33, 38]⟩ j 1 j (j + 1) rfl (by omega) (show j + 1 ≤ 10 from hj10) wx]
        have e : (List.drop j (ByteArray.mk #[47, 40, 41, 46, 59, 42, 43, 63, 33, 38]).data.toList).take 1 = [c] := by
         have h1 := drop_at (s := ⟨#[47, 40, 41, 46, 59, 42, 43, 63, 33, 38]⟩) (k := j) (show j < 10 from hj10)
         rw [h1, hyb, hyc]; rfl
        rw [e]
       have hyI : ((yb.toNat : Int) == (c.toNat : Int)) = true := by rw [hyc]; simp
       clear hsg hyc HI
       go_wp2_with (first
        | (with_reducible refine store_rword rfl (.tmp 4) (.tmp 76) rfl w.heap.size _ _ _ _ _ _ _ _ _ rfl rfl HR1.out ?_))
       refine bodyPost_ret (results_rword rfl _ _ w.heap.size _ rfl HR1.out rfl) rfl ?_
       exact ⟨by rw [HE.out]; rfl, below_setRow HB1.out (Nat.le_refl _) _⟩
      ·have HNo : Hid (∀ i, i < j + 1 → sgs[i]? ≠ some c) := fun i hi => by
        by_cases h : i = j
        ·subst h; rw [hsg]; intro e; exact hyc (by simpa using e)
        ·exact HI.out.1 i (by omega)
       have hyI : ((yb.toNat : Int) == (c.toNat : Int)) = false := by
        rw [beq_eq_false_iff_ne]; intro e; exact hyc (UInt8.toNat_inj.1 (by omega))
       clear hsg hyc HI
       go_wp2_with fail
       go_roundw
       case rel => exact ⟨j + 1, HJ.out, by go_num, HNo.out, HR1.out, HB1.out⟩
       case measure => have := HJ.out; simp [intOf]; omega
     ·have hjI : ¬ (j : Int) < 10 := by omega
      obtain rfl : j = 10 := by omega
      have HE : Hid (wordR (s.data.toList.drop k) = none) := by
       unfold Hid; rw [HE1.out, if_neg]
       rw [List.contains_iff_mem]; intro hm
       obtain ⟨i, hi, he⟩ := List.getElem_of_mem hm
       exact HI.out.1 i hi (by rw [List.getElem?_eq_getElem hi, he])
      clear HI
      go_wp2_with (first
       | (with_reducible refine store_rword rfl (.tmp 4) (.tmp 77) rfl w.heap.size _ _ _ _ _ _ _ _ _ rfl rfl HR1.out ?_))
      refine bodyPost_ret (results_rword rfl _ _ w.heap.size _ rfl HR1.out rfl) rfl ?_
      exact ⟨by rw [HE.out]; rfl, below_setRow HB1.out (Nat.le_refl _) _⟩
 ·obtain rfl : k = s.size := by omega
  have HE : Hid (wordR (s.data.toList.drop s.size) = some ⟨1, 0, [], 0, []⟩) := by unfold Hid; rw [List.drop_eq_nil_of_le (by rw [ba_len]; exact Nat.le_refl _)]; rfl
  go_enter Tryz.func90, Tryz.ntmps90
  go_wp2_with (first
   | (with_reducible refine store_rword rfl (.tmp 4) (.tmp 14) rfl w.heap.size _ _ _ _ _ _ _ _ _ rfl rfl HR.out ?_))
  refine bodyPost_ret (results_rword rfl _ _ w.heap.size _ rfl HR.out rfl) rfl ?_
  exact ⟨by rw [HE.out]; rfl, below_setRow HB.out (Nat.le_refl _) _⟩
end Go.Proofs.YthfefbmkgebmkaaGreatDoor
