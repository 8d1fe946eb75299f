/- Walks: escape: two digits to base 16, parsed. -/
import Derived.Test.YtnfkcdnkmcifbaaDoorEg
import Derived.Lib.ConvBytes
import Derived.Lib.AtoiErrMem
namespace Go.Proofs.YtnfkcdnkmcifbaaDoor
open Go.RowKit
set_option maxRecDepth 100000
set_option maxHeartbeats 4000000

theorem lower_any (c : UInt8) (w : World) : Calls Tryd.prog 69 #[.int .u8 c.toNat] w fun e w' => e = .returned (.int .u8 (c ||| 32).toNat) ∧ w' = w := by
 have h : bits BinOp.or IntKind.u8 (c.toNat : Int) 32 = ((c ||| 32).toNat : Int) := u8_all (P := fun c => bits BinOp.or IntKind.u8 (c.toNat : Int) 32 = ((c ||| 32).toNat : Int)) (by decide +kernel) c
 go_enter Tryd.func69, Tryd.ntmps69
 go_wp2_with fail
 go_ret
 exact ⟨rfl, rfl⟩
/-- The number of a digit, as ParseUint reckons it. -/
theorem hex_low {c x : UInt8} (h : hexv c = some x) : (48 ≤ (c.toNat : Int) ∧ (c.toNat : Int) ≤ 57 ∧ (c.toNat : Int) - 48 = x.toNat) ∨ (57 < (c.toNat : Int) ∧ 97 ≤ ((c ||| 32).toNat : Int) ∧ ((c ||| 32).toNat : Int) ≤ 102 ∧ ((c ||| 32).toNat : Int) - 97 + 10 = x.toNat) := by
 have := u8_all (P := fun c => (hexv c).all (fun x => decide ((48 ≤ (c.toNat : Int) ∧ (c.toNat : Int) ≤ 57 ∧ (c.toNat : Int) - 48 = x.toNat) ∨ (57 < (c.toNat : Int) ∧ 97 ≤ ((c ||| 32).toNat : Int) ∧ ((c ||| 32).toNat : Int) ≤ 102 ∧ ((c ||| 32).toNat : Int) - 97 + 10 = x.toNat))) = true) (by decide +kernel) c
 rw [h] at this; simpa using this
theorem hex_95 {c x : UInt8} (h : hexv c = some x) : ((c.toNat : Int) == 95) = false := by
 have := u8_all (P := fun c => (hexv c).isSome = true → ((c.toNat : Int) == 95) = false) (by decide +kernel) c
 exact this (by rw [h]; rfl)
/-- A number past which a digit more is too much. -/
def cut16 : Int := 1152921504606846976
theorem cut16_lt (a : UInt8) : (a.toNat : Int) < cut16 ∧ 0 < cut16 := by have := a.toNat_lt; unfold cut16; omega
theorem ipu_any (u v a b : UInt8) (hu : hexv u = some a) (hv : hexv v = some b) (w : World) : Calls Tryd.prog 66 #[.string ⟨#[u, v]⟩, .int .i64 16, .int .i64 8] w fun e w' => e = .returned (.tuple #[.int .u64 (16 * (a.toNat : Int) + b.toNat), .nilIface]) ∧ Below w.heap.size w w' := by
 have hcv : (convert 9 60 (.string ⟨#[u, v]⟩)).run Tryd.prog w = .ok (.slice (some ⟨w.heap.size, 0, none⟩) 2 (grownCap w 2 0 5)) (Lib.bytesWorld w 5 ⟨#[u, v]⟩) := Lib.run_convert_string_bytes (P := Tryd.prog) w 9 60 5 ⟨#[u, v]⟩ Tryd.underlying9 Tryd.underlying60 Tryd.underlying5
 have c0 : (Lib.bytesWorld w 5 ⟨#[u, v]⟩).cell? ⟨w.heap.size, 0, none⟩ = some (.int .u8 u.toNat) := Lib.bytesWorld_cell w 5 ⟨#[u, v]⟩ 0 (by show 0 < 2; omega)
 have c1 : (Lib.bytesWorld w 5 ⟨#[u, v]⟩).cell? ⟨w.heap.size, 1, none⟩ = some (.int .u8 v.toNat) := Lib.bytesWorld_cell w 5 ⟨#[u, v]⟩ 1 (by show 1 < 2; omega)
 have HB := Lib.hid (Lib.bytesWorld_below w 5 ⟨#[u, v]⟩)
 generalize Lib.bytesWorld w 5 ⟨#[u, v]⟩ = x at *
 generalize grownCap w 2 0 5 = cap at *
 have HU := Lib.hid (hex_low hu)
 have HV := Lib.hid (hex_low hv)
 have ha0 : (0 : Int) ≤ a.toNat := by omega
 have hb0 : (0 : Int) ≤ b.toNat := by omega
 have ha1 : (a.toNat : Int) < 16 := by have := UInt8.lt_iff_toNat_lt.1 (hexv_lt hu); simp at this ⊢; omega
 have hb1 : (b.toNat : Int) < 16 := by have := UInt8.lt_iff_toNat_lt.1 (hexv_lt hv); simp at this ⊢; omega
 have hu0 : (0 : Int) ≤ u.toNat := by omega
 have hv0 : (0 : Int) ≤ v.toNat := by omega
 have hu1 : (u.toNat : Int) ≤ 255 := by have := u.toNat_lt; omega
 have hv1 : (v.toNat : Int) ≤ 255 := by have := v.toNat_lt; omega
 have hu9 := hex_95 hu
 have hv9 := hex_95 hv
 clear hu hv
 go_enter Tryd.func66, Tryd.ntmps66
 go_wp2_with fail
 generalize hC : (1152921504606846976 : Int) = C
 obtain ⟨hct, hct0⟩ : (a.toNat : Int) < C ∧ 0 < C := by rw [← hC]; exact cut16_lt a
 clear hC
 go_loop [12, 13, 101] (fun z n i => z = .bool false ∧ Hid ((i = .int .i64 0 ∧ n = .int .u64 0) ∨ (i = .int .i64 1 ∧ n = .int .u64 a.toNat) ∨ (i = .int .i64 2 ∧ n = .int .u64 (16 * (a.toNat : Int) + b.toNat)))) (fun _ _ i => 2 - (intOf i).toNat)
 case atStart => exact ⟨rfl, .inl ⟨rfl, rfl⟩⟩
 case round =>
  obtain ⟨rfl, hI⟩ := hrel
  rcases hI.out with ⟨rfl, rfl⟩ | ⟨rfl, rfl⟩ | ⟨rfl, rfl⟩
  ·clear hI
   rcases HU.out with ⟨g1, g2, g3⟩ | ⟨g1, g2, g3, g4⟩
   ·have G3 := Lib.hid g3; clear g3
    go_wp2_with fail
    go_round
    case rel => exact ⟨rfl, .inr (.inl ⟨rfl, by first | rw [G3.out] | rw [G4.out]⟩)⟩
    case measure => simp [intOf]
   ·have G4 := Lib.hid g4; clear g4
    have hl := Lib.hid (fun y => lower_any u y)
    generalize (u ||| 32).toNat = L at *
    go_wp2_with fail
    refine (hl.out _).mono ?_
    rintro e y ⟨rfl, rfl⟩
    go_wp2_with fail
    refine (hl.out _).mono ?_
    rintro e y2 ⟨rfl, rfl⟩
    go_wp2_with fail
    refine (hl.out _).mono ?_
    rintro e y3 ⟨rfl, rfl⟩
    go_wp2_with fail
    go_round
    case rel => exact ⟨rfl, .inr (.inl ⟨rfl, by first | rw [G3.out] | rw [G4.out]⟩)⟩
    case measure => simp [intOf]
  ·clear hI
   rcases HV.out with ⟨g1, g2, g3⟩ | ⟨g1, g2, g3, g4⟩
   ·have G3 := Lib.hid g3; clear g3
    go_wp2_with fail
    go_round
    case rel => exact ⟨rfl, .inr (.inr ⟨rfl, by first | rw [← G3.out, Int.mul_comm] | rw [← G4.out, Int.mul_comm]⟩)⟩
    case measure => simp [intOf]
   ·have G4 := Lib.hid g4; clear g4
    have hl := Lib.hid (fun y => lower_any v y)
    generalize (v ||| 32).toNat = L at *
    go_wp2_with fail
    refine (hl.out _).mono ?_
    rintro e y ⟨rfl, rfl⟩
    go_wp2_with fail
    refine (hl.out _).mono ?_
    rintro e y2 ⟨rfl, rfl⟩
    go_wp2_with fail
    refine (hl.out _).mono ?_
    rintro e y3 ⟨rfl, rfl⟩
    go_wp2_with fail
    go_round
    case rel => exact ⟨rfl, .inr (.inr ⟨rfl, by first | rw [← G3.out, Int.mul_comm] | rw [← G4.out, Int.mul_comm]⟩)⟩
    case measure => simp [intOf]
  ·clear hI
   go_wp2_with fail
   go_ret2
   exact ⟨rfl, HB.out⟩
theorem pu_any (u v a b : UInt8) (hu : hexv u = some a) (hv : hexv v = some b) (w : World) : Calls Tryd.prog 59 #[.string ⟨#[u, v]⟩, .int .i64 16, .int .i64 8] w fun e w' => e = .returned (.tuple #[.int .u64 (16 * (a.toNat : Int) + b.toNat), .nilIface]) ∧ Below w.heap.size w w' := by
 have H := Lib.hid (ipu_any u v a b hu hv w)
 clear hu hv
 generalize 16 * (a.toNat : Int) + b.toNat = n at *
 go_enter Tryd.func59, Tryd.ntmps59
 go_wp2_with fail
 refine H.out.mono ?_
 rintro e x ⟨rfl, hb⟩
 have HB := Lib.hid hb; clear hb
 go_wp2_with fail
 go_ret2
 exact ⟨rfl, HB.out⟩
end Go.Proofs.YtnfkcdnkmcifbaaDoor
