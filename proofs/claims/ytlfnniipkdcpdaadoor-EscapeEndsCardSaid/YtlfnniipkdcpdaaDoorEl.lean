/- Walks: escape: the chapter's examples; both sides read the same. -/
import Derived.Test.YtlfnniipkdcpdaaDoorEk
namespace Go.Proofs.YtlfnniipkdcpdaaDoor
open Go.RowKit
set_option maxRecDepth 100000
set_option maxHeartbeats 4000000

theorem awake_any (w : World) (h : TzOk w) : Calls Tryd.prog 7 #[] w fun e w' => e = .returned (.bool true) ∧ Below w.heap.size w w' := by
 have H0 := Lib.hid ((Below.refl _ w).alloc (Nat.le_refl _) (.cells #[.int .u8 34, .int .u8 10, .int .u8 0] 5))
 have HT := Lib.hid h; clear h
 have H1 := Lib.hid (eall_any 1 [34, 10, 0] (some ⟨w.heap.size, 0, none⟩) 3 3 (w.alloc (.cells #[.int .u8 34, .int .u8 10, .int .u8 0] 5)) (Sv.lit w 5 #[.int .u8 34, .int .u8 10, .int .u8 0] 3 1 (by unfold maxLen; omega) rfl) (by omega) (HT.out.below H0.out))
 have e1 : all 1 [34, 10, 0] = [92, 34, 92, 110, 92, 120, 48, 48] := by decide
 rw [e1] at H1
 clear e1
 have e2 : one 2 45 = [92, 45] := by decide
 have e3 : one 2 34 = [34] := by decide
 have H2 := Lib.hid (fun x hx => eone_any 2 45 x hx)
 rw [e2] at H2
 have H3 := Lib.hid (fun x hx => eone_any 2 34 x hx)
 rw [e3] at H3
 clear e2 e3
 go_enter Tryd.func7, Tryd.ntmps7
 go_wp2_with fail
 refine H1.out.mono ?_
 rintro e w1 ⟨rfl, hb⟩
 have B1 := Lib.hid (H0.out.trans (hb.mono H0.out.size)); clear hb
 go_wp2_with fail
 refine (H2.out w1 (HT.out.below B1.out)).mono ?_
 rintro e w2 ⟨rfl, hb⟩
 have B2 := Lib.hid (B1.out.trans (hb.mono B1.out.size)); clear hb
 go_wp2_with fail
 refine (H3.out w2 (HT.out.below B2.out)).mono ?_
 rintro e w3 ⟨rfl, hb⟩
 have B3 := Lib.hid (B2.out.trans (hb.mono B2.out.size)); clear hb
 go_wp2_with fail
 go_ret
 exact ⟨rfl, B3.out⟩
theorem reads_any (p : Int) (s : ByteArray) (a : Int) (w : World) (hs : s.size ≤ 1000000) : Calls Tryd.prog 12 #[.int .i64 p, .string s, .int .i64 a] w fun e w' => e = .returned (.bool true) ∧ Below w.heap.size w w' := by
 have H1 := Lib.hid (fun x => read_any p s a x hs)
 have H2 := Lib.hid (fun x => rread_any p s a x hs)
 have H3 := Lib.hid (fun x => edec_any p s x hs)
 have H4 := Lib.hid (fun x => rdec_any p s x hs)
 generalize rdA p s.data.toList a = q at H1 H2
 cases q with
 | none =>
  go_enter Tryd.func12, Tryd.ntmps12
  go_wp2_with fail
  refine (H1.out _).mono ?_
  rintro e w1 ⟨rfl, hb⟩
  have B1 := Lib.hid hb; clear hb
  unfold rdV
  go_wp2_with fail
  refine (H2.out _).mono ?_
  rintro e w2 ⟨rfl, hb⟩
  have B2 := Lib.hid (B1.out.trans (hb.mono B1.out.size)); clear hb
  unfold rdV
  go_wp2_with fail
  refine (H3.out _).mono ?_
  rintro e w3 (⟨hd, v, rfl, hO⟩ | ⟨hd, rfl, hb⟩)
  ·have HD := Lib.hid hd; clear hd
   have B3 := Lib.hid (B2.out.trans (hO.2.mono B2.out.size))
   have HO := Lib.hid hO; clear hO
   go_wp2_with fail
   refine (H4.out _).mono ?_
   rintro e w4 (⟨hd, v', rfl, hO⟩ | ⟨hd, _⟩)
   ·have B4 := Lib.hid (B3.out.trans (hO.2.mono B3.out.size))
    obtain ⟨bo, bc, rfl, hS2⟩ := hO.sv
    obtain ⟨ao, ac, rfl, hS1⟩ := (HO.out.below hO.2).sv
    have HSm := Lib.hid (same_any w4 ao bo _ ac bc _ hS1 hS2)
    clear hO hS1 hS2 hd HO HD
    generalize (decode p s.data.toList).1.length = n at *
    go_wp2_with fail
    refine HSm.out.mono ?_
    rintro e w5 ⟨rfl, hb⟩
    have B5 := Lib.hid (B4.out.trans (hb.mono B4.out.size)); clear hb
    go_wp2_with fail
    go_ret
    exact ⟨rfl, B5.out⟩
   ·rw [HD.out] at hd; cases hd
  ·have HD := Lib.hid hd; clear hd
   have B3 := Lib.hid (B2.out.trans (hb.mono B2.out.size)); clear hb
   go_wp2_with fail
   refine (H4.out _).mono ?_
   rintro e w4 (⟨hd, _⟩ | ⟨hd, rfl, hb⟩)
   ·rw [HD.out] at hd; cases hd
   ·have B4 := Lib.hid (B3.out.trans (hb.mono B3.out.size)); clear hb
    have HSm := Lib.hid (same_any w4 none none 0 0 0 [] (Sv.nil _ _) (Sv.nil _ _))
    clear hd HD
    generalize (decode p s.data.toList).2.1 = n at *
    go_wp2_with fail
    refine HSm.out.mono ?_
    rintro e w5 ⟨rfl, hb⟩
    have B5 := Lib.hid (B4.out.trans (hb.mono B4.out.size)); clear hb
    go_wp2_with fail
    go_ret
    exact ⟨rfl, B5.out⟩
 | some q =>
  obtain ⟨b, n⟩ := q
  go_enter Tryd.func12, Tryd.ntmps12
  go_wp2_with fail
  refine (H1.out _).mono ?_
  rintro e w1 ⟨rfl, hb⟩
  have B1 := Lib.hid hb; clear hb
  unfold rdV
  go_wp2_with fail
  refine (H2.out _).mono ?_
  rintro e w2 ⟨rfl, hb⟩
  have B2 := Lib.hid (B1.out.trans (hb.mono B1.out.size)); clear hb
  unfold rdV
  go_wp2_with fail
  refine (H3.out _).mono ?_
  rintro e w3 (⟨hd, v, rfl, hO⟩ | ⟨hd, rfl, hb⟩)
  ·have HD := Lib.hid hd; clear hd
   have B3 := Lib.hid (B2.out.trans (hO.2.mono B2.out.size))
   have HO := Lib.hid hO; clear hO
   go_wp2_with fail
   refine (H4.out _).mono ?_
   rintro e w4 (⟨hd, v', rfl, hO⟩ | ⟨hd, _⟩)
   ·have B4 := Lib.hid (B3.out.trans (hO.2.mono B3.out.size))
    obtain ⟨bo, bc, rfl, hS2⟩ := hO.sv
    obtain ⟨ao, ac, rfl, hS1⟩ := (HO.out.below hO.2).sv
    have HSm := Lib.hid (same_any w4 ao bo _ ac bc _ hS1 hS2)
    clear hO hS1 hS2 hd HO HD
    generalize (decode p s.data.toList).1.length = n at *
    go_wp2_with fail
    refine HSm.out.mono ?_
    rintro e w5 ⟨rfl, hb⟩
    have B5 := Lib.hid (B4.out.trans (hb.mono B4.out.size)); clear hb
    go_wp2_with fail
    go_ret
    exact ⟨rfl, B5.out⟩
   ·rw [HD.out] at hd; cases hd
  ·have HD := Lib.hid hd; clear hd
   have B3 := Lib.hid (B2.out.trans (hb.mono B2.out.size)); clear hb
   go_wp2_with fail
   refine (H4.out _).mono ?_
   rintro e w4 (⟨hd, _⟩ | ⟨hd, rfl, hb⟩)
   ·rw [HD.out] at hd; cases hd
   ·have B4 := Lib.hid (B3.out.trans (hb.mono B3.out.size)); clear hb
    have HSm := Lib.hid (same_any w4 none none 0 0 0 [] (Sv.nil _ _) (Sv.nil _ _))
    clear hd HD
    generalize (decode p s.data.toList).2.1 = n at *
    go_wp2_with fail
    refine HSm.out.mono ?_
    rintro e w5 ⟨rfl, hb⟩
    have B5 := Lib.hid (B4.out.trans (hb.mono B4.out.size)); clear hb
    go_wp2_with fail
    go_ret
    exact ⟨rfl, B5.out⟩
end Go.Proofs.YtlfnniipkdcpdaaDoor
