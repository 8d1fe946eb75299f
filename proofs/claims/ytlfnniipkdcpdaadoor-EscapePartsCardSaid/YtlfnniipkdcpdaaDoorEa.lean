/- Walks: escape: the reference writes a byte. -/
import Derived.Test.YtlfnniipkdcpdaaDoorE9
import Derived.StillTailTactics
namespace Go.Proofs.YtlfnniipkdcpdaaDoor
open Go.RowKit
set_option maxRecDepth 100000
set_option maxHeartbeats 4000000

theorem dig16_at (n : UInt8) (h : n < 16) (hi : n.toNat < (ByteArray.mk #[48, 49, 50, 51, 52, 53, 54, 55, 56, 57, 97, 98, 99, 100, 101, 102]).size) : (ByteArray.mk #[48, 49, 50, 51, 52, 53, 54, 55, 56, 57, 97, 98, 99, 100, 101, 102])[n.toNat]'hi = dig n := by
 have := u8_all (P := fun n => n < 16 → (ByteArray.mk #[48, 49, 50, 51, 52, 53, 54, 55, 56, 57, 97, 98, 99, 100, 101, 102]).data[n.toNat]? = some (dig n)) (by decide +kernel) n h
 exact (Array.getElem?_eq_some_iff.1 this).2
theorem mod16 (c : UInt8) : (c.toNat : Int).tmod 16 = ((c % 16).toNat : Int) := u8_all (P := fun c => (c.toNat : Int).tmod 16 = ((c % 16).toNat : Int)) (by decide +kernel) c
theorem conv1 (c : UInt8) (w : World) : (convert 22 9 (.slice (some ⟨w.heap.size, 0, none⟩) 1 1)).run Tryd.prog (w.alloc (.cells #[.int .u8 c.toNat] 5)) = .ok (.string ⟨#[c]⟩) (w.alloc (.cells #[.int .u8 c.toNat] 5)) :=
 conv_new w #[.int .u8 c.toNat] 5 0 [c] 1 1 rfl (fun j hj => (by
  obtain rfl : j = 0 := by simpa using hj
  rfl))
theorem conv2 (a c : UInt8) (w : World) : (convert 22 9 (.slice (some ⟨w.heap.size, 0, none⟩) 2 2)).run Tryd.prog (w.alloc (.cells #[.int .u8 a.toNat, .int .u8 c.toNat] 5)) = .ok (.string ⟨#[a, c]⟩) (w.alloc (.cells #[.int .u8 a.toNat, .int .u8 c.toNat] 5)) :=
 conv_new w #[.int .u8 a.toNat, .int .u8 c.toNat] 5 0 [a, c] 2 2 rfl (fun j hj => (by
  obtain rfl | rfl : j = 0 ∨ j = 1 := by simp at hj; omega
  ·rfl
  ·rfl))
theorem conv4 (a b c d : UInt8) (w : World) : (convert 22 9 (.slice (some ⟨w.heap.size, 0, none⟩) 4 4)).run Tryd.prog (w.alloc (.cells #[.int .u8 a.toNat, .int .u8 b.toNat, .int .u8 c.toNat, .int .u8 d.toNat] 5)) = .ok (.string ⟨#[a, b, c, d]⟩) (w.alloc (.cells #[.int .u8 a.toNat, .int .u8 b.toNat, .int .u8 c.toNat, .int .u8 d.toNat] 5)) :=
 conv_new w #[.int .u8 a.toNat, .int .u8 b.toNat, .int .u8 c.toNat, .int .u8 d.toNat] 5 0 [a, b, c, d] 4 4 rfl (fun j hj => (by
  obtain rfl | rfl | rfl | rfl : j = 0 ∨ j = 1 ∨ j = 2 ∨ j = 3 := by simp at hj; omega
  all_goals rfl))
theorem conv2b (c : UInt8) (w : World) : (convert 22 9 (.slice (some ⟨w.heap.size, 0, none⟩) 2 2)).run Tryd.prog (w.alloc (.cells #[.int .u8 92, .int .u8 c.toNat] 5)) = .ok (.string ⟨#[92, c]⟩) (w.alloc (.cells #[.int .u8 92, .int .u8 c.toNat] 5)) := conv2 92 c w
theorem conv4b (c d : UInt8) (w : World) : (convert 22 9 (.slice (some ⟨w.heap.size, 0, none⟩) 4 4)).run Tryd.prog (w.alloc (.cells #[.int .u8 92, .int .u8 120, .int .u8 c.toNat, .int .u8 d.toNat] 5)) = .ok (.string ⟨#[92, 120, c, d]⟩) (w.alloc (.cells #[.int .u8 92, .int .u8 120, .int .u8 c.toNat, .int .u8 d.toNat] 5)) := conv4 92 120 c d w
theorem wrap8 (c : UInt8) : IntKind.u8.wrap (c.toNat : Int) = c.toNat := u8_all (P := fun c => IntKind.u8.wrap (c.toNat : Int) = c.toNat) (by decide +kernel) c
theorem one_hex (p : Int) (hp : isPl p = true) (c : UInt8) (hs : spec p c = true) (h1 : c ≠ 10) (h2 : c ≠ 13) (h3 : c ≠ 9) (h4 : ¬ (32 ≤ c ∧ c ≤ 126)) : one p c = [92, 120, dig (c / 16), dig (c % 16)] := by
 unfold one
 rw [hp, hs]
 have h5 : (decide (32 ≤ c) && decide (c ≤ 126)) = false := by
  rw [Bool.eq_false_iff]; intro h; simp at h; exact h4 h
 simp [h1, h2, h3, h5]
theorem rone_any (p : Int) (c : UInt8) (w : World) : Calls Tryd.prog 14 #[.int .i64 p, .int .u8 c.toNat] w fun e w' => e = .returned (.string ⟨(one p c).toArray⟩) ∧ Below w.heap.size w w' := by
 have HB := rspecial_any p c w
 have HN := ris_any p w
 have HR := Lib.hid (Below.refl w.heap.size w)
 have h0 : (0 : Int) ≤ c.toNat := by omega
 cases hp : isPl p with
 | false =>
  have H3 : Hid (one p c = []) := by unfold Hid one; rw [hp]; rfl
  rw [hp] at HN
  clear hp HB
  go_enter Tryd.func14, Tryd.ntmps14
  go_wp2_with fail
  refine HN.mono ?_
  rintro e x ⟨rfl, rfl⟩
  go_wp2_with fail
  go_ret
  exact ⟨by rw [H3.out]; rfl, HR.out⟩
 | true =>
  rw [hp] at HN
  cases hs : spec p c with
  | false =>
   have H3 : Hid (one p c = [c]) := by unfold Hid one; rw [hp, hs]; rfl
   rw [hs] at HB
   clear hp hs
   have hcv := conv1 c w
   go_enter Tryd.func14, Tryd.ntmps14
   go_wp2_with fail
   refine HN.mono ?_
   rintro e x ⟨rfl, rfl⟩
   go_wp2_with fail
   refine HB.mono ?_
   rintro e x ⟨rfl, rfl⟩
   go_wp2_with fail
   go_ret
   exact ⟨by rw [H3.out]; rfl, HR.out.alloc (Nat.le_refl _) _⟩
  | true =>
   rw [hs] at HB
   by_cases h1 : c = 10
   ·subst h1
    have H3 : Hid (one p 10 = [92, 110]) := by rcases spec_alt p hp with rfl | rfl <;> rfl
    clear hp hs
    go_enter Tryd.func14, Tryd.ntmps14
    go_wp2_with fail
    refine HN.mono ?_
    rintro e x ⟨rfl, rfl⟩
    go_wp2_with fail
    refine HB.mono ?_
    rintro e x ⟨rfl, rfl⟩
    go_wp2_with fail
    go_ret
    exact ⟨by rw [H3.out]; rfl, HR.out⟩
   ·by_cases h2 : c = 13
    ·subst h2
     have H3 : Hid (one p 13 = [92, 114]) := by rcases spec_alt p hp with rfl | rfl <;> rfl
     clear hp hs h1
     go_enter Tryd.func14, Tryd.ntmps14
     go_wp2_with fail
     refine HN.mono ?_
     rintro e x ⟨rfl, rfl⟩
     go_wp2_with fail
     refine HB.mono ?_
     rintro e x ⟨rfl, rfl⟩
     go_wp2_with fail
     go_ret
     exact ⟨by rw [H3.out]; rfl, HR.out⟩
    ·by_cases h3 : c = 9
     ·subst h3
      have H3 : Hid (one p 9 = [92, 116]) := by rcases spec_alt p hp with rfl | rfl <;> rfl
      clear hp hs h1 h2
      go_enter Tryd.func14, Tryd.ntmps14
      go_wp2_with fail
      refine HN.mono ?_
      rintro e x ⟨rfl, rfl⟩
      go_wp2_with fail
      refine HB.mono ?_
      rintro e x ⟨rfl, rfl⟩
      go_wp2_with fail
      go_ret
      exact ⟨by rw [H3.out]; rfl, HR.out⟩
     ·have e1 : ((c.toNat : Int) == 10) = false := by have := mt UInt8.toNat_inj.1 h1; simp at this ⊢; omega
      have e2 : ((c.toNat : Int) == 13) = false := by have := mt UInt8.toNat_inj.1 h2; simp at this ⊢; omega
      have e3 : ((c.toNat : Int) == 9) = false := by have := mt UInt8.toNat_inj.1 h3; simp at this ⊢; omega
      by_cases hc : 32 ≤ c ∧ c ≤ 126
      ·have H3 : Hid (one p c = [92, c]) := by
        unfold Hid one
        rw [hp, hs]
        simp [h1, h2, h3, hc.1, hc.2]
       have g1 : (32 : Int) ≤ c.toNat := by have := UInt8.le_iff_toNat_le.1 hc.1; simp at this; omega
       have g2 : (c.toNat : Int) ≤ 126 := by have := UInt8.le_iff_toNat_le.1 hc.2; simp at this; omega
       have hcv := conv2b c w
       clear hp hs h1 h2 h3 hc
       go_enter Tryd.func14, Tryd.ntmps14
       go_wp2_with fail
       refine HN.mono ?_
       rintro e x ⟨rfl, rfl⟩
       go_wp2_with fail
       refine HB.mono ?_
       rintro e x ⟨rfl, rfl⟩
       go_wp2_with fail
       go_ret
       exact ⟨by rw [H3.out]; rfl, HR.out.alloc (Nat.le_refl _) _⟩
      ·have H3 := Lib.hid (one_hex p hp c hs h1 h2 h3 hc)
       have HC := Lib.hid (show ((32 : Int) ≤ c.toNat) ∧ ((c.toNat : Int) ≤ 126) → False from fun h => hc ⟨by rw [UInt8.le_iff_toNat_le]; simp; omega, by rw [UInt8.le_iff_toNat_le]; simp; omega⟩)
       have ha := div16 c
       have hb := mod16 c
       have hq : c / 16 < 16 := u8_all (P := fun c => c / 16 < 16) (by decide +kernel) c
       have hr : c % 16 < 16 := u8_all (P := fun c => c % 16 < 16) (by decide +kernel) c
       have hd := dig16_at _ hq
       have hd2 := dig16_at _ hr
       have q0 : (0 : Int) ≤ (c / 16).toNat := by omega
       have q1 : ((c / 16).toNat : Int) < 16 := by have := UInt8.lt_iff_toNat_lt.1 hq; simp at this ⊢; omega
       have r0 : (0 : Int) ≤ (c % 16).toNat := by omega
       have r1 : ((c % 16).toNat : Int) < 16 := by have := UInt8.lt_iff_toNat_lt.1 hr; simp at this ⊢; omega
       have HX := Lib.hid (fun x => conv4b (dig (c / 16)) (dig (c % 16)) x)
       have Hw1 := Lib.hid (wrap8 (c / 16))
       have Hw2 := Lib.hid (wrap8 (c % 16))
       have Ha := Lib.hid ha
       have Hb := Lib.hid hb
       clear hp hs h1 h2 h3 hc ha hb hq hr
       generalize c / 16 = q at *
       generalize c % 16 = r at *
       by_cases g1 : (32 : Int) ≤ c.toNat
       ·have g2 : ¬ (c.toNat : Int) ≤ 126 := fun h => HC.out ⟨g1, h⟩
        go_enter Tryd.func14, Tryd.ntmps14
        go_wp2_with fail
        refine HN.mono ?_
        rintro e x ⟨rfl, rfl⟩
        go_wp2_with fail
        refine HB.mono ?_
        rintro e x ⟨rfl, rfl⟩
        go_wp2_with fail
        have ha := Ha.out
        have hb := Hb.out
        have hw1 := Hw1.out
        have hw2 := Hw2.out
        go_still_tail 8, (by kernel_rfl)
        change wpList _ _ _ _ _ x.drew
        have HR2 := Lib.hid (HR.out.drew)
        have HM := Lib.hid (show x.heap.size ≤ x.drew.heap.size from Nat.le_refl _)
        clear ha hb HR HN HB
        have hcv := HX.out x.drew
        generalize hx0 : x.heap.size = g at HR2 HM ⊢
        have HG := Lib.hid hx0; clear hx0
        generalize x.drew = y at *
        go_wp2_with fail
        go_ret
        exact ⟨by rw [H3.out]; rfl, by rw [HG.out]; exact HR2.out.alloc HM.out _⟩
       ·go_enter Tryd.func14, Tryd.ntmps14
        go_wp2_with fail
        refine HN.mono ?_
        rintro e x ⟨rfl, rfl⟩
        go_wp2_with fail
        refine HB.mono ?_
        rintro e x ⟨rfl, rfl⟩
        go_wp2_with fail
        have ha := Ha.out
        have hb := Hb.out
        have hw1 := Hw1.out
        have hw2 := Hw2.out
        go_still_tail 8, (by kernel_rfl)
        change wpList _ _ _ _ _ x.drew
        have HR2 := Lib.hid (HR.out.drew)
        have HM := Lib.hid (show x.heap.size ≤ x.drew.heap.size from Nat.le_refl _)
        clear ha hb HR HN HB
        have hcv := HX.out x.drew
        generalize hx0 : x.heap.size = g at HR2 HM ⊢
        have HG := Lib.hid hx0; clear hx0
        generalize x.drew = y at *
        go_wp2_with fail
        go_ret
        exact ⟨by rw [H3.out]; rfl, by rw [HG.out]; exact HR2.out.alloc HM.out _⟩
end Go.Proofs.YtlfnniipkdcpdaaDoor
