/- Walks: escape: a byte, written. -/
import Derived.Test.YtlfnniipkdcpdaaDoorE6
import Derived.Test.YtlfnniipkdcpdaaDoorE4
namespace Go.Proofs.YtlfnniipkdcpdaaDoor
open Go.RowKit Go.ChangeMaps
set_option maxRecDepth 100000
set_option maxHeartbeats 4000000

theorem sh_yes (c : UInt8) : shB c.toNat = true → one 1 c = [92, UInt8.ofNat (shV c.toNat).toNat] ∧ one 2 c = [92, UInt8.ofNat (shV c.toNat).toNat] ∧ spec 1 c = true ∧ spec 2 c = true ∧ shV c.toNat = (UInt8.ofNat (shV c.toNat).toNat).toNat :=
 u8_all (P := fun c => shB c.toNat = true → one 1 c = [92, UInt8.ofNat (shV c.toNat).toNat] ∧ one 2 c = [92, UInt8.ofNat (shV c.toNat).toNat] ∧ spec 1 c = true ∧ spec 2 c = true ∧ shV c.toNat = (UInt8.ofNat (shV c.toNat).toNat).toNat) (by decide +kernel) c
theorem sh_no (c : UInt8) : shB c.toNat = false → spec 1 c = true → one 1 c = if 32 ≤ c ∧ c ≤ 126 then [92, c] else [92, 120] ++ List.replicate (2 - (hexs c).length) 48 ++ hexs c :=
 u8_all (P := fun c => shB c.toNat = false → spec 1 c = true → one 1 c = if 32 ≤ c ∧ c ≤ 126 then [92, c] else [92, 120] ++ List.replicate (2 - (hexs c).length) 48 ++ hexs c) (by decide +kernel) c
theorem sh_no2 (c : UInt8) : shB c.toNat = false → spec 2 c = true → one 2 c = if 32 ≤ c ∧ c ≤ 126 then [92, c] else [92, 120] ++ List.replicate (2 - (hexs c).length) 48 ++ hexs c :=
 u8_all (P := fun c => shB c.toNat = false → spec 2 c = true → one 2 c = if 32 ≤ c ∧ c ≤ 126 then [92, c] else [92, 120] ++ List.replicate (2 - (hexs c).length) 48 ++ hexs c) (by decide +kernel) c
theorem wrap_u8 (c : UInt8) : IntKind.u64.wrap (c.toNat : Int) = c.toNat := u8_all (P := fun c => IntKind.u64.wrap (c.toNat : Int) = c.toNat) (by decide +kernel) c
theorem eone_any (p : Int) (c : UInt8) (w : World) (h : TzOk w) : Calls Tryd.prog 13 #[.int .i64 p, .int .u8 c.toNat] w fun e w' => e = .returned (.string ⟨(one p c).toArray⟩) ∧ Below w.heap.size w w' := by
 have hb1 : Below w.heap.size w (w.alloc (.map shE 3)) := (Below.refl _ _).alloc (Nat.le_refl _) _
 have H1 := Lib.hid hb1
 have H2 := Lib.hid (h.below hb1)
 have hl := look_short (w.alloc (.map shE 3)) w.heap.size (heap_alloc_new _ _) c.toNat
 have HB := bare_any p c (w.alloc (.map shE 3))
 have HN := named_any p w
 generalize nmd p = nm at HN
 clear hb1 h
 have HS := short_any w
 have HW := Lib.hid (show w.heap.size ≤ (w.alloc (.map shE 3)).heap.size by simp)
 generalize w.alloc (.map shE 3) = x1 at HS H1 H2 hl HB HW
 cases hp : isPl p with
 | false =>
  have H3 : Hid (one p c = []) := by unfold Hid one; rw [hp]; rfl
  rw [hp] at HN
  clear hp HB
  go_enter Tryd.func13, Tryd.ntmps13
  go_wp2_with fail
  refine HN.mono ?_
  rintro e x ⟨rfl, rfl⟩
  go_wp2_with fail
  refine HS.mono ?_
  rintro e x2 ⟨rfl, rfl⟩
  go_wp2_with fail
  go_ret
  exact ⟨by rw [H3.out]; rfl, H1.out⟩
 | true =>
  rw [hp] at HN HB
  cases hs : spec p c with
  | false =>
   have H3 : Hid (one p c = [c]) := by unfold Hid one; rw [hp, hs]; rfl
   rw [hs] at HB
   clear hp hs
   have hcv := conv_new x1 #[.int .u8 c.toNat] 5 0 [c] 1 1 rfl (fun j hj => (by
    obtain rfl : j = 0 := by simpa using hj
    rfl))
   go_enter Tryd.func13, Tryd.ntmps13
   go_wp2_with fail
   refine HN.mono ?_
   rintro e x ⟨rfl, rfl⟩
   go_wp2_with fail
   refine HS.mono ?_
   rintro e x2 ⟨rfl, rfl⟩
   go_wp2_with fail
   refine HB.mono ?_
   rintro e x2 ⟨rfl, rfl⟩
   go_wp2_with fail
   go_ret
   exact ⟨by rw [H3.out]; rfl, H1.out.alloc HW.out _⟩
  | true =>
   rw [hs] at HB
   cases hsh : shB c.toNat with
   | true =>
    have H3 : Hid (one p c = [92, UInt8.ofNat (shV c.toNat).toNat]) := by
     rcases spec_alt p hp with rfl | rfl
     ·exact (sh_yes c hsh).1
     ·exact (sh_yes c hsh).2.1
    rw [hsh, (sh_yes c hsh).2.2.2.2] at hl
    generalize UInt8.ofNat (shV c.toNat).toNat = l at hl H3
    clear hp hs hsh
    have hcv := conv_new x1 #[.int .u8 92, .int .u8 l.toNat] 5 0 [92, l] 2 2 rfl (fun j hj => (by
     obtain rfl | rfl : j = 0 ∨ j = 1 := by simp at hj; omega
     ·rfl
     ·rfl))
    go_enter Tryd.func13, Tryd.ntmps13
    go_wp2_with fail
    refine HN.mono ?_
    rintro e x ⟨rfl, rfl⟩
    go_wp2_with fail
    refine HS.mono ?_
    rintro e x2 ⟨rfl, rfl⟩
    go_wp2_with fail
    refine HB.mono ?_
    rintro e x2 ⟨rfl, rfl⟩
    go_wp2_with fail
    go_ret
    exact ⟨by rw [H3.out]; rfl, H1.out.alloc HW.out _⟩
   | false =>
    rw [hsh] at hl
    by_cases hc : 32 ≤ c ∧ c ≤ 126
    ·have H3 : Hid (one p c = [92, c]) := by
      rcases spec_alt p hp with rfl | rfl
      ·exact (sh_no c hsh hs).trans (if_pos hc)
      ·exact (sh_no2 c hsh hs).trans (if_pos hc)
     clear hp hs hsh
     have h1 : (32 : Int) ≤ c.toNat := by have := UInt8.le_iff_toNat_le.1 hc.1; simp at this; omega
     have h2 : (c.toNat : Int) ≤ 126 := by have := UInt8.le_iff_toNat_le.1 hc.2; simp at this; omega
     have hcv := conv_new x1 #[.int .u8 92, .int .u8 c.toNat] 5 0 [92, c] 2 2 rfl (fun j hj => (by
      obtain rfl | rfl : j = 0 ∨ j = 1 := by simp at hj; omega
      ·rfl
      ·rfl))
     clear hc
     go_enter Tryd.func13, Tryd.ntmps13
     go_wp2_with fail
     refine HN.mono ?_
     rintro e x ⟨rfl, rfl⟩
     go_wp2_with fail
     refine HS.mono ?_
     rintro e x2 ⟨rfl, rfl⟩
     go_wp2_with fail
     refine HB.mono ?_
     rintro e x2 ⟨rfl, rfl⟩
     go_wp2_with fail
     go_ret
     exact ⟨by rw [H3.out]; rfl, H1.out.alloc HW.out _⟩
    ·have H3 : Hid (one p c = [92, 120] ++ List.replicate (2 - (hexs c).length) 48 ++ hexs c) := by
      rcases spec_alt p hp with rfl | rfl
      ·exact (sh_no c hsh hs).trans (if_neg hc)
      ·exact (sh_no2 c hsh hs).trans (if_neg hc)
     clear hp hs hsh
     have HC := Lib.hid (show ((32 : Int) ≤ c.toNat) ∧ ((c.toNat : Int) ≤ 126) → False from fun h => hc ⟨by rw [UInt8.le_iff_toNat_le]; simp; omega, by rw [UInt8.le_iff_toNat_le]; simp; omega⟩)
     have HF := fu_any c x1 H2.out
     have HL : (∃ a, hexs c = [a]) ∨ ∃ a b, hexs c = [a, b] := by
      unfold hexs
      split
      ·exact .inl ⟨_, rfl⟩
      ·exact .inr ⟨_, _, rfl⟩
     generalize hexs c = hx at HF HL H3
     clear hc
     have hwr := wrap_u8 c
     by_cases h1 : (32 : Int) ≤ c.toNat
     ·have h2 : ¬ (c.toNat : Int) ≤ 126 := fun h => HC.out ⟨h1, h⟩
      rcases HL with ⟨a, rfl⟩ | ⟨a, b, rfl⟩
      ·go_enter Tryd.func13, Tryd.ntmps13
       go_wp2_with fail
       refine HN.mono ?_
       rintro e x ⟨rfl, rfl⟩
       go_wp2_with fail
       refine HS.mono ?_
       rintro e x2 ⟨rfl, rfl⟩
       go_wp2_with fail
       refine HB.mono ?_
       rintro e x2 ⟨rfl, rfl⟩
       go_wp2_with fail
       refine HF.mono ?_
       rintro e x3 ⟨rfl, hb⟩
       have H5 := Lib.hid (H1.out.trans (hb.mono HW.out)); clear hb
       go_wp2_with fail
       refine (Tryd.strings_Repeat_one _ _).mono ?_
       rintro e x4 ⟨rfl, rfl⟩
       go_wp2_with fail
       go_ret
       exact ⟨by rw [H3.out]; rfl, H5.out⟩
      ·go_enter Tryd.func13, Tryd.ntmps13
       go_wp2_with fail
       refine HN.mono ?_
       rintro e x ⟨rfl, rfl⟩
       go_wp2_with fail
       refine HS.mono ?_
       rintro e x2 ⟨rfl, rfl⟩
       go_wp2_with fail
       refine HB.mono ?_
       rintro e x2 ⟨rfl, rfl⟩
       go_wp2_with fail
       refine HF.mono ?_
       rintro e x3 ⟨rfl, hb⟩
       have H5 := Lib.hid (H1.out.trans (hb.mono HW.out)); clear hb
       go_wp2_with fail
       refine (Tryd.strings_Repeat_zero _ _).mono ?_
       rintro e x4 ⟨rfl, rfl⟩
       go_wp2_with fail
       go_ret
       exact ⟨by rw [H3.out]; rfl, H5.out⟩
     ·rcases HL with ⟨a, rfl⟩ | ⟨a, b, rfl⟩
      ·go_enter Tryd.func13, Tryd.ntmps13
       go_wp2_with fail
       refine HN.mono ?_
       rintro e x ⟨rfl, rfl⟩
       go_wp2_with fail
       refine HS.mono ?_
       rintro e x2 ⟨rfl, rfl⟩
       go_wp2_with fail
       refine HB.mono ?_
       rintro e x2 ⟨rfl, rfl⟩
       go_wp2_with fail
       refine HF.mono ?_
       rintro e x3 ⟨rfl, hb⟩
       have H5 := Lib.hid (H1.out.trans (hb.mono HW.out)); clear hb
       go_wp2_with fail
       refine (Tryd.strings_Repeat_one _ _).mono ?_
       rintro e x4 ⟨rfl, rfl⟩
       go_wp2_with fail
       go_ret
       exact ⟨by rw [H3.out]; rfl, H5.out⟩
      ·go_enter Tryd.func13, Tryd.ntmps13
       go_wp2_with fail
       refine HN.mono ?_
       rintro e x ⟨rfl, rfl⟩
       go_wp2_with fail
       refine HS.mono ?_
       rintro e x2 ⟨rfl, rfl⟩
       go_wp2_with fail
       refine HB.mono ?_
       rintro e x2 ⟨rfl, rfl⟩
       go_wp2_with fail
       refine HF.mono ?_
       rintro e x3 ⟨rfl, hb⟩
       have H5 := Lib.hid (H1.out.trans (hb.mono HW.out)); clear hb
       go_wp2_with fail
       refine (Tryd.strings_Repeat_zero _ _).mono ?_
       rintro e x4 ⟨rfl, rfl⟩
       go_wp2_with fail
       go_ret
       exact ⟨by rw [H3.out]; rfl, H5.out⟩
end Go.Proofs.YtlfnniipkdcpdaaDoor
