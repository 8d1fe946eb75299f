/- Walks: escape: what the reference reads. -/
import Derived.Test.YtlfnniipkdcpdaaDoorEb
import Derived.Deep.QuietTactic
import Derived.BigQuiet
namespace Go.Proofs.YtlfnniipkdcpdaaDoor
open Go.RowKit
set_option maxRecDepth 100000
set_option maxHeartbeats 4000000

/-- What is read at a place of a text. -/
def rdA (p : Int) (l : List UInt8) (a : Int) : Option (UInt8 × Nat) := if 0 ≤ a ∧ a < l.length then rd p (l.drop a.toNat) else none
/-- .. as it is handed back. -/
def rdV (a : Int) : Option (UInt8 × Nat) → Value
 | some (b, n) => .tuple #[.int .u8 b.toNat, .int .i64 (a + n), .bool true]
 | none => .tuple #[.int .u8 0, .int .i64 0, .bool false]
theorem drop_at {s : ByteArray} {k : Nat} (hk : k < s.size) : s.data.toList.drop k = s[k] :: s.data.toList.drop (k + 1) := by
 rw [List.drop_eq_getElem_cons (by simpa using hk)]; rfl
theorem rdA_in {p : Int} {s : ByteArray} {k : Nat} (hk : k < s.size) : rdA p s.data.toList (k : Int) = rd p (s[k] :: s.data.toList.drop (k + 1)) := by
 unfold rdA
 have h2 : s.data.toList.length = s.size := by simp
 rw [if_pos ⟨by omega, by omega⟩, Int.toNat_natCast, drop_at hk]
theorem rdA_out {p : Int} {s : ByteArray} {a : Int} (h : a < 0 ∨ (s.size : Int) ≤ a) : rdA p s.data.toList a = none := by
 unfold rdA
 have h2 : s.data.toList.length = s.size := by simp
 rw [if_neg (by omega)]
theorem rdA_no {p : Int} (hp : isPl p = false) (l : List UInt8) (a : Int) : rdA p l a = none := by
 unfold rdA
 split
 ·unfold rd
  split
  ·rfl
  ·rw [hp]; rfl
 ·rfl
theorem rd_bare {p : Int} (hp : isPl p = true) {c : UInt8} (hs : spec p c = false) (t : List UInt8) : rd p (c :: t) = some (c, 1) := by unfold rd; simp [hp, hs]
theorem rd_spec {p : Int} (hp : isPl p = true) {c : UInt8} (hs : spec p c = true) (hc : c ≠ 92) (t : List UInt8) : rd p (c :: t) = none := by unfold rd; simp [hp, hs, hc]
theorem rd_back {p : Int} (hp : isPl p = true) (t : List UInt8) : rd p (92 :: t) = esc t := by
 have : spec p 92 = true := by unfold spec; simp
 unfold rd; simp [hp, this]
theorem hexv_lt {c x : UInt8} (h : hexv c = some x) : x < 16 := by
 have := u8_all (P := fun c => (hexv c).all (fun x => decide (x < 16)) = true) (by decide +kernel) c
 rw [h] at this; simpa using this
theorem hex_sum {x y : UInt8} (hx : x < 16) (hy : y < 16) : (16 * (x.toNat : Int) + y.toNat) = ((16 * x + y : UInt8).toNat : Int) := by
 have h1 := UInt8.lt_iff_toNat_lt.1 hx
 have h2 := UInt8.lt_iff_toNat_lt.1 hy
 simp [UInt8.toNat_add, UInt8.toNat_mul] at *
 omega
theorem belowN {B : Nat} {a w : World} (h : Below B a w) (n : Nat) : Below B a (w.drewN n) := ⟨h.os, h.tape, h.output, h.size, h.block⟩
theorem ba_len (s : ByteArray) : s.data.toList.length = s.size := by simp
theorem esc_x_short {l : List UInt8} (h : l.length ≤ 1) : esc (120 :: l) = none := by
 match l, h with
 | [], _ => rfl
 | [x], _ => rfl
theorem rread_any (p : Int) (s : ByteArray) (a : Int) (w : World) (hs : s.size ≤ 1000000) : Calls Tryd.prog 21 #[.int .i64 p, .string s, .int .i64 a] w fun e w' => e = .returned (rdV a (rdA p s.data.toList a)) ∧ Below w.heap.size w w' := by
 have HR := Lib.hid (Below.refl w.heap.size w)
 have HN := ris_any p w
 cases hp : isPl p with
 | false =>
  have H3 := Lib.hid (rdA_no hp s.data.toList a)
  rw [hp] at HN
  clear hp
  go_enter Tryd.func21, Tryd.ntmps21
  go_wp2_with fail
  refine HN.mono ?_
  rintro e x ⟨rfl, rfl⟩
  go_wp2_with fail
  go_ret3
  exact ⟨by rw [H3.out]; rfl, HR.out⟩
 | true =>
  rw [hp] at HN
  by_cases ha : a < 0
  ·have H3 := Lib.hid (rdA_out (p := p) (s := s) (.inl ha))
   clear hp
   go_enter Tryd.func21, Tryd.ntmps21
   go_wp2_with fail
   refine HN.mono ?_
   rintro e x ⟨rfl, rfl⟩
   go_wp2_with fail
   go_ret3
   exact ⟨by rw [H3.out]; rfl, HR.out⟩
  ·by_cases ha2 : (s.size : Int) ≤ a
   ·have H3 := Lib.hid (rdA_out (p := p) (s := s) (.inr ha2))
    clear hp
    go_enter Tryd.func21, Tryd.ntmps21
    go_wp2_with fail
    refine HN.mono ?_
    rintro e x ⟨rfl, rfl⟩
    go_wp2_with fail
    go_ret3
    exact ⟨by rw [H3.out]; rfl, HR.out⟩
   ·obtain ⟨k, rfl⟩ : ∃ k : Nat, a = k := ⟨a.toNat, by omega⟩
    have hk : k < s.size := by omega
    have hk1 : (k : Int) < s.size := by omega
    have hk0 : (0 : Int) ≤ k := by omega
    clear ha ha2
    rw [rdA_in hk]
    have HB := rspecial_any p (s[k]) w
    generalize hc0 : s[k] = c at HB ⊢
    cases hsp : spec p c with
    | false =>
     rw [rd_bare hp hsp]
     rw [hsp] at HB
     clear hp hsp
     go_enter Tryd.func21, Tryd.ntmps21
     go_wp2_with fail
     refine HN.mono ?_
     rintro e x ⟨rfl, rfl⟩
     go_wp2_with fail
     refine HB.mono ?_
     rintro e x ⟨rfl, rfl⟩
     go_wp2_with fail
     go_ret3
     exact ⟨rfl, HR.out⟩
    | true =>
     rw [hsp] at HB
     by_cases hc : c = 92
     ·subst hc
      rw [rd_back hp]
      clear hp hsp
      by_cases hk2 : k + 1 < s.size
      ·have hk3 : (k : Int) + 1 < s.size := by omega
       rw [drop_at hk2]
       generalize hc1 : s[k + 1] = d
       by_cases d1 : d = 110
       ·subst d1
        go_enter Tryd.func21, Tryd.ntmps21
        go_wp2_with fail
        refine HN.mono ?_
        rintro e x ⟨rfl, rfl⟩
        go_wp2_with fail
        refine HB.mono ?_
        rintro e x ⟨rfl, rfl⟩
        go_wp2_with fail
        go_ret3
        exact ⟨rfl, HR.out⟩
       ·have f1 : ((d.toNat : Int) == 110) = false := by have := mt UInt8.toNat_inj.1 d1; simp at this ⊢; omega
        by_cases d2 : d = 114
        ·subst d2
         clear d1
         go_enter Tryd.func21, Tryd.ntmps21
         go_wp2_with fail
         refine HN.mono ?_
         rintro e x ⟨rfl, rfl⟩
         go_wp2_with fail
         refine HB.mono ?_
         rintro e x ⟨rfl, rfl⟩
         go_wp2_with fail
         go_ret3
         exact ⟨rfl, HR.out⟩
        ·have f2 : ((d.toNat : Int) == 114) = false := by have := mt UInt8.toNat_inj.1 d2; simp at this ⊢; omega
         by_cases d3 : d = 116
         ·subst d3
          clear d1 d2
          go_enter Tryd.func21, Tryd.ntmps21
          go_wp2_with fail
          refine HN.mono ?_
          rintro e x ⟨rfl, rfl⟩
          go_wp2_with fail
          refine HB.mono ?_
          rintro e x ⟨rfl, rfl⟩
          go_wp2_with fail
          go_ret3
          exact ⟨rfl, HR.out⟩
         ·have f3 : ((d.toNat : Int) == 116) = false := by have := mt UInt8.toNat_inj.1 d3; simp at this ⊢; omega
          by_cases d4 : d = 92 ∨ d = 34 ∨ d = 93 ∨ d = 45
          ·rcases d4 with rfl | rfl | rfl | rfl
           all_goals
            clear d1 d2 d3
            go_enter Tryd.func21, Tryd.ntmps21
            go_wp2_with fail
            refine HN.mono ?_
            rintro e x ⟨rfl, rfl⟩
            go_wp2_with fail
            refine HB.mono ?_
            rintro e x ⟨rfl, rfl⟩
            go_wp2_with fail
            go_ret3
            exact ⟨rfl, HR.out⟩
          ·have f4 : ((d.toNat : Int) == 92) = false := by have := mt UInt8.toNat_inj.1 (fun h => d4 (.inl h)); simp at this ⊢; omega
           have f5 : ((d.toNat : Int) == 34) = false := by have := mt UInt8.toNat_inj.1 (fun h => d4 (.inr (.inl h))); simp at this ⊢; omega
           have f6 : ((d.toNat : Int) == 93) = false := by have := mt UInt8.toNat_inj.1 (fun h => d4 (.inr (.inr (.inl h)))); simp at this ⊢; omega
           have f7 : ((d.toNat : Int) == 45) = false := by have := mt UInt8.toNat_inj.1 (fun h => d4 (.inr (.inr (.inr h)))); simp at this ⊢; omega
           by_cases d5 : d = 120
           ·subst d5
            clear d1 d2 d3 d4 f1 f2 f3 f4 f5 f6 f7
            by_cases hk4 : k + 3 < s.size
            ·have hk5 : (k : Int) + 3 < s.size := by omega
             have hk6 : k + 2 < s.size := by omega
             have hk7 : (k : Int) + 2 < s.size := by omega
             rw [drop_at hk6, drop_at (show k + 2 + 1 < s.size from hk4)]
             generalize hc2 : s[k + 2] = u
             have hc3 : s[k + 2 + 1]'hk4 = s[k + 3] := rfl
             rw [hc3]
             clear hc3
             generalize hc3 : s[k + 3] = v
             have HU := rdigit_any u w
             have HV := rdigit_any v w
             cases hu : hexv u with
             | none =>
              have H4 : Hid (esc (120 :: u :: v :: List.drop (k + 2 + 1 + 1) s.data.toList) = none) := by unfold Hid esc; simp [hu]
              have H5 : dgI u = -1 := by unfold dgI; rw [hu]
              rw [H5] at HU
              clear hu H5
              go_enter Tryd.func21, Tryd.ntmps21
              go_wp2_with fail
              refine HN.mono ?_
              rintro e x ⟨rfl, rfl⟩
              go_wp2_with fail
              refine HB.mono ?_
              rintro e x ⟨rfl, rfl⟩
              go_wp2_with fail
              refine HU.mono ?_
              rintro e x ⟨rfl, rfl⟩
              go_wp2_with fail
              go_ret3
              exact ⟨by rw [H4.out]; rfl, HR.out⟩
             | some a =>
              have H5 : dgI u = a.toNat := by unfold dgI; rw [hu]
              rw [H5] at HU
              clear H5
              have ha0 : (0 : Int) ≤ a.toNat := by omega
              cases hv : hexv v with
              | none =>
               have H4 : Hid (esc (120 :: u :: v :: List.drop (k + 2 + 1 + 1) s.data.toList) = none) := by unfold Hid esc; simp [hu, hv]
               have H5 : dgI v = -1 := by unfold dgI; rw [hv]
               rw [H5] at HV
               clear hu hv H5
               go_enter Tryd.func21, Tryd.ntmps21
               go_wp2_with fail
               refine HN.mono ?_
               rintro e x ⟨rfl, rfl⟩
               go_wp2_with fail
               refine HB.mono ?_
               rintro e x ⟨rfl, rfl⟩
               go_wp2_with fail
               refine HU.mono ?_
               rintro e x ⟨rfl, rfl⟩
               go_wp2_with fail
               refine HV.mono ?_
               rintro e x ⟨rfl, rfl⟩
               go_wp2_with fail
               go_ret3
               exact ⟨by rw [H4.out]; rfl, HR.out⟩
              | some b =>
               have H5 : dgI v = b.toNat := by unfold dgI; rw [hv]
               have H4 : Hid (esc (120 :: u :: v :: List.drop (k + 2 + 1 + 1) s.data.toList) = some (16 * a + b, 4)) := by unfold Hid esc; simp [hu, hv]
               have H7 : dgI u = a.toNat := by unfold dgI; rw [hu]
               have H8 := Lib.hid H5
               have H9 := Lib.hid H7
               rw [H5] at HV
               have hb0 : (0 : Int) ≤ b.toNat := by omega
               have HA := Lib.hid (hexv_lt hu)
               have HB2 := Lib.hid (hexv_lt hv)
               have ha1 : (a.toNat : Int) < 16 := by have := UInt8.lt_iff_toNat_lt.1 HA.out; simp at this ⊢; omega
               have hb1 : (b.toNat : Int) < 16 := by have := UInt8.lt_iff_toNat_lt.1 HB2.out; simp at this ⊢; omega
               have H6 := Lib.hid (hex_sum HA.out HB2.out)
               clear hu hv H5 H7
               go_enter Tryd.func21, Tryd.ntmps21
               go_wp2_with fail
               refine HN.mono ?_
               rintro e x ⟨rfl, rfl⟩
               go_wp2_with fail
               refine HB.mono ?_
               rintro e x ⟨rfl, rfl⟩
               go_wp2_with fail
               refine HU.mono ?_
               rintro e x ⟨rfl, rfl⟩
               go_wp2_with fail
               refine HV.mono ?_
               rintro e x ⟨rfl, rfl⟩
               go_wp2_with fail
               have H10 := H8.out
               have H11 := H9.out
               go_quiet ((go_at_call 35; exact Calls.quiet_of_same (rdigit_any _ _)))
               go_wp2_with fail
               go_ret3
               refine ⟨?_, belowN HR.out _⟩
               rw [H4.out]
               unfold rdV
               show Ending.returned (.tuple #[.int .u8 (16 * (a.toNat : Int) + b.toNat), .int .i64 ((k : Int) + 4), .bool true]) = Ending.returned (.tuple #[.int .u8 (((16 * a + b : UInt8).toNat : Nat) : Int), .int .i64 ((k : Int) + 4), .bool true])
               rw [H6.out]
            ·have H4 : Hid (esc (120 :: List.drop (k + 1 + 1) s.data.toList) = none) := by
              exact esc_x_short (by rw [List.length_drop, ba_len]; omega)
             have hk5 : ¬ (k : Int) + 3 < s.size := by omega
             go_enter Tryd.func21, Tryd.ntmps21
             go_wp2_with fail
             refine HN.mono ?_
             rintro e x ⟨rfl, rfl⟩
             go_wp2_with fail
             refine HB.mono ?_
             rintro e x ⟨rfl, rfl⟩
             go_wp2_with fail
             go_ret3
             exact ⟨by rw [H4.out]; rfl, HR.out⟩
           ·have f8 : ((d.toNat : Int) == 120) = false := by have := mt UInt8.toNat_inj.1 d5; simp at this ⊢; omega
            have H4 : Hid (esc (d :: List.drop (k + 1 + 1) s.data.toList) = none) := by
             unfold Hid esc
             have d4' : d ≠ 92 ∧ d ≠ 34 ∧ d ≠ 93 ∧ d ≠ 45 := ⟨fun h => d4 (.inl h), fun h => d4 (.inr (.inl h)), fun h => d4 (.inr (.inr (.inl h))), fun h => d4 (.inr (.inr (.inr h)))⟩
             simp [d1, d2, d3, d4', d5]
            clear d1 d2 d3 d4 d5
            go_enter Tryd.func21, Tryd.ntmps21
            go_wp2_with fail
            refine HN.mono ?_
            rintro e x ⟨rfl, rfl⟩
            go_wp2_with fail
            refine HB.mono ?_
            rintro e x ⟨rfl, rfl⟩
            go_wp2_with fail
            go_ret3
            exact ⟨by rw [H4.out]; rfl, HR.out⟩
      ·have hk3 : ¬ (k : Int) + 1 < s.size := by omega
       have H4 : Hid (esc (List.drop (k + 1) s.data.toList) = none) := by
        unfold Hid
        rw [List.drop_eq_nil_of_le (by rw [ba_len]; omega)]
        rfl
       go_enter Tryd.func21, Tryd.ntmps21
       go_wp2_with fail
       refine HN.mono ?_
       rintro e x ⟨rfl, rfl⟩
       go_wp2_with fail
       refine HB.mono ?_
       rintro e x ⟨rfl, rfl⟩
       go_wp2_with fail
       go_ret3
       exact ⟨by rw [H4.out]; rfl, HR.out⟩
     ·rw [rd_spec hp hsp hc]
      have hne : ((c.toNat : Int) == 92) = false := by have := mt UInt8.toNat_inj.1 hc; simp at this ⊢; omega
      have hne2 : ((c.toNat : Int) != 92) = true := by rw [bne, hne]; rfl
      clear hp hsp hc
      go_enter Tryd.func21, Tryd.ntmps21
      go_wp2_with fail
      refine HN.mono ?_
      rintro e x ⟨rfl, rfl⟩
      go_wp2_with fail
      refine HB.mono ?_
      rintro e x ⟨rfl, rfl⟩
      go_wp2_with fail
      go_ret3
      exact ⟨rfl, HR.out⟩
end Go.Proofs.YtlfnniipkdcpdaaDoor
