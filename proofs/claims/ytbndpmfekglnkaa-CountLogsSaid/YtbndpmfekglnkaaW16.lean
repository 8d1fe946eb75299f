/- Walks: events; counters converted; awake. -/
import Derived.Test.YtbndpmfekglnkaaW13
namespace Go.Proofs.Ytbndpmfekglnkaa
open Go.RowKit

set_option maxHeartbeats 1000000 in
theorem events_any (ao : Option Addr) (cap : Nat) (zs : List Int) (w : World) (hs : Sl w ao cap zs) (hbig : zs.length ≤ 100000) :
    Calls Try.prog 24 #[.slice ao zs.length cap] w fun r w' => ∃ ao' cap', r = .returned (.slice ao' zs.length cap') ∧ Sl w' ao' cap' zs ∧ Below w.heap.size w w' := by
  obtain ⟨h1, h2⟩ := hs.bound
  have HSl := Lib.hid hs; clear hs
  go_enter Try.func24, Try.ntmps24
  go_wp2_with fail
  go_loopw [3, 4] (fun v i wr => ∃ k : Nat, k ≤ zs.length ∧ i = .int .i64 k ∧ Hid (Own w wr 36 v (zs.take k))) (fun _ i _ => zs.length - (intOf i).toNat)
  case atStart => exact ⟨0, by omega, rfl, by unfold Hid; simpa using Own.nil w 36⟩
  case round =>
    obtain ⟨k, hk, rfl, hO⟩ := hrel
    by_cases hlt : k < zs.length
    · obtain ⟨a, rfl, hcell⟩ := (HSl.out.below hO.out.2).2.2.2 k hlt
      have hts := take_snoc zs k hlt
      generalize zs.getD k 0 = x at *
      have HTS := Lib.hid hts; clear hts
      go_wp2_with (first
        | (at_builtin; refine wpList_app1 w _ rfl _ _ 22 36 rfl Try.ie22 _ (zs.take k) rfl hO.out x rfl (by simp; omega) ?_; intro v' w1 hO1; have HO3 := Lib.hid hO1; clear hO1))
      go_roundw
      case rel => exact ⟨k + 1, by omega, by go_num, by unfold Hid; rw [HTS.out]; exact HO3.out⟩
      case measure => simp [intOf]; omega
    · have ht : zs.take k = zs := List.take_of_length_le (by omega)
      rw [ht] at hO
      obtain ⟨ao', cap', rfl, hsl⟩ := hO.out.sl
      have HS2 := Lib.hid hsl; clear hsl
      go_wp2_with fail
      go_ret
      exact ⟨ao', cap', rfl, HS2.out, hO.out.2⟩

theorem conv_any (c : Cn) (w : World) : Calls Try.prog 13 #[.agg c.vals] w fun r w' => r = .returned (.agg c.vals) ∧ Below w.heap.size w w' := by
  unfold Cn.vals
  go_enter Try.func13, Try.ntmps13
  go_wp2_with fail
  refine bodyPost_ret (results_cell_row rfl _ _ (w.heap.size + 1) 26 _ _ _ rfl (heap_alloc2_new w _ _) Try.underlying26 rfl (by kernel_rfl)) rfl ?_
  exact ⟨rfl, ((Below.refl _ _).alloc (Nat.le_refl _) _).alloc (by simp) _⟩

theorem Sl.lit (w : World) (e : TypeId) (zs : List Int) (h : zs.length ≤ 1000000) : Sl (w.alloc (.cells (zs.map (Value.int .i64)).toArray e)) (some ⟨w.heap.size, 0, none⟩) zs.length zs := by
  obtain ⟨ao, cap, hv, hsl⟩ := (Own.lit w e zs (by omega)).sl
  simp only [Value.slice.injEq, true_and] at hv
  obtain ⟨rfl, rfl⟩ := hv
  exact hsl

theorem aw1 : ofM [1, 2, 4, 3, 2, 1, 2, 8, 6, 8] = (⟨2, 3, 1, 1, 0, 1, 0, 2, 1, 1, 0, 2, 2⟩, 0) := by decide +kernel
theorem aw2 : ofM [1, 3] = (Cn.zero, 13) := by decide +kernel
theorem aw3 : ofM [1, 2, 9] = (Cn.zero, 2) := by decide +kernel
theorem aw4 : ofM [7] = (Cn.zero, 13) := by decide +kernel

/-- events, then Of: of a list that has just been written out. -/
theorem evs (w : World) (zs : List Int) (h : zs.length ≤ 1000) :
    Calls Try.prog 24 #[.slice (some ⟨w.heap.size, 0, none⟩) zs.length zs.length] (w.alloc (.cells (zs.map (Value.int .i64)).toArray 3)) fun r w' => ∃ ao' cap', r = .returned (.slice ao' zs.length cap') ∧ Sl w' ao' cap' zs ∧ Below w.heap.size w w' :=
  (events_any _ _ zs _ (Sl.lit w 3 zs (by omega)) (by omega)).mono fun e w' ⟨a, c, h1, h2, h3⟩ => ⟨a, c, h1, h2, ((Below.refl _ _).alloc (Nat.le_refl _) _).trans (h3.mono (by simp))⟩

set_option maxRecDepth 100000 in
set_option maxHeartbeats 2000000 in
theorem awake_any (w : World) : Calls Try.prog 9 #[] w fun r w' => r = .returned (.bool true) ∧ Below w.heap.size w w' := by
  have A1 := Lib.hid aw1; have A2 := Lib.hid aw2; have A3 := Lib.hid aw3; have A4 := Lib.hid aw4
  go_enter Try.func9, Try.ntmps9
  go_wp2_with fail
  refine (evs w [1, 2, 4, 3, 2, 1, 2, 8, 6, 8] (by decide)).mono ?_
  rintro e1 w1 ⟨ao1, c1, rfl, hs1, hb1⟩
  have HS1 := Lib.hid hs1; have HB1 := Lib.hid hb1; clear hs1 hb1
  go_wp2_with fail
  refine (ofP_any ao1 c1 [1, 2, 4, 3, 2, 1, 2, 8, 6, 8] _ HS1.out (by decide)).mono ?_
  rw [A1.out]
  rintro e1 w2 ⟨rfl, hb2⟩
  have HB2 := Lib.hid hb2; clear hb2
  simp only [Cn.vals]
  go_wp2_with fail
  have hT3 := heap_alloc_new w2 (.cells #[.int .i64 2, .int .i64 3, .int .i64 1, .int .i64 1, .int .i64 0, .int .i64 1, .int .i64 0, .int .i64 2, .int .i64 1, .int .i64 1, .int .i64 0, .int .i64 2, .int .i64 2] 26)
  have hB3 := (Below.refl _ _).alloc (Nat.le_refl w2.heap.size) (.cells #[.int .i64 2, .int .i64 3, .int .i64 1, .int .i64 1, .int .i64 0, .int .i64 1, .int .i64 0, .int .i64 2, .int .i64 1, .int .i64 1, .int .i64 0, .int .i64 2, .int .i64 2] 26)
  rw [show w2.heap.size + 1 = (w2.alloc (.cells #[.int .i64 2, .int .i64 3, .int .i64 1, .int .i64 1, .int .i64 0, .int .i64 1, .int .i64 0, .int .i64 2, .int .i64 1, .int .i64 1, .int .i64 0, .int .i64 2, .int .i64 2] 26)).heap.size by simp]
  have HT3 := Lib.hid hT3; have HA3 := Lib.hid hB3; clear hT3 hB3
  revert HT3 HA3
  generalize w2.alloc (.cells #[.int .i64 2, .int .i64 3, .int .i64 1, .int .i64 1, .int .i64 0, .int .i64 1, .int .i64 0, .int .i64 2, .int .i64 1, .int .i64 1, .int .i64 0, .int .i64 2, .int .i64 2] 26) = v3
  intro HT3 HA3
  refine (evs v3 [1, 3] (by decide)).mono ?_
  rintro e1 x3 ⟨ao3, c3, rfl, hs3, hb3⟩
  have HS3 := Lib.hid hs3; have HB3 := Lib.hid hb3; clear hs3 hb3
  go_wp2_with fail
  refine (ofP_any ao3 c3 [1, 3] _ HS3.out (by decide)).mono ?_
  rw [A2.out]
  rintro e1 y3 ⟨rfl, hb3⟩
  have HC3 := Lib.hid hb3; clear hb3
  simp only [Cn.vals, Cn.zero]
  go_wp2_with fail
  have hT4 := heap_alloc_new y3 (.cells #[.int .i64 0, .int .i64 0, .int .i64 0, .int .i64 0, .int .i64 0, .int .i64 0, .int .i64 0, .int .i64 0, .int .i64 0, .int .i64 0, .int .i64 0, .int .i64 0, .int .i64 0] 26)
  have hB4 := (Below.refl _ _).alloc (Nat.le_refl y3.heap.size) (.cells #[.int .i64 0, .int .i64 0, .int .i64 0, .int .i64 0, .int .i64 0, .int .i64 0, .int .i64 0, .int .i64 0, .int .i64 0, .int .i64 0, .int .i64 0, .int .i64 0, .int .i64 0] 26)
  rw [show y3.heap.size + 1 = (y3.alloc (.cells #[.int .i64 0, .int .i64 0, .int .i64 0, .int .i64 0, .int .i64 0, .int .i64 0, .int .i64 0, .int .i64 0, .int .i64 0, .int .i64 0, .int .i64 0, .int .i64 0, .int .i64 0] 26)).heap.size by simp]
  have HT4 := Lib.hid hT4; have HA4 := Lib.hid hB4; clear hT4 hB4
  revert HT4 HA4
  generalize y3.alloc (.cells #[.int .i64 0, .int .i64 0, .int .i64 0, .int .i64 0, .int .i64 0, .int .i64 0, .int .i64 0, .int .i64 0, .int .i64 0, .int .i64 0, .int .i64 0, .int .i64 0, .int .i64 0] 26) = v4
  intro HT4 HA4
  refine (evs v4 [1, 2, 9] (by decide)).mono ?_
  rintro e1 x4 ⟨ao4, c4, rfl, hs4, hb4⟩
  have HS4 := Lib.hid hs4; have HB4 := Lib.hid hb4; clear hs4 hb4
  go_wp2_with fail
  refine (ofP_any ao4 c4 [1, 2, 9] _ HS4.out (by decide)).mono ?_
  rw [A3.out]
  rintro e1 y4 ⟨rfl, hb4⟩
  have HC4 := Lib.hid hb4; clear hb4
  simp only [Cn.vals, Cn.zero]
  go_wp2_with fail
  have hT5 := heap_alloc_new y4 (.cells #[.int .i64 0, .int .i64 0, .int .i64 0, .int .i64 0, .int .i64 0, .int .i64 0, .int .i64 0, .int .i64 0, .int .i64 0, .int .i64 0, .int .i64 0, .int .i64 0, .int .i64 0] 26)
  have hB5 := (Below.refl _ _).alloc (Nat.le_refl y4.heap.size) (.cells #[.int .i64 0, .int .i64 0, .int .i64 0, .int .i64 0, .int .i64 0, .int .i64 0, .int .i64 0, .int .i64 0, .int .i64 0, .int .i64 0, .int .i64 0, .int .i64 0, .int .i64 0] 26)
  rw [show y4.heap.size + 1 = (y4.alloc (.cells #[.int .i64 0, .int .i64 0, .int .i64 0, .int .i64 0, .int .i64 0, .int .i64 0, .int .i64 0, .int .i64 0, .int .i64 0, .int .i64 0, .int .i64 0, .int .i64 0, .int .i64 0] 26)).heap.size by simp]
  have HT5 := Lib.hid hT5; have HA5 := Lib.hid hB5; clear hT5 hB5
  revert HT5 HA5
  generalize y4.alloc (.cells #[.int .i64 0, .int .i64 0, .int .i64 0, .int .i64 0, .int .i64 0, .int .i64 0, .int .i64 0, .int .i64 0, .int .i64 0, .int .i64 0, .int .i64 0, .int .i64 0, .int .i64 0] 26) = v5
  intro HT5 HA5
  refine (evs v5 [7] (by decide)).mono ?_
  rintro e1 x5 ⟨ao5, c5, rfl, hs5, hb5⟩
  have HS5 := Lib.hid hs5; have HB5 := Lib.hid hb5; clear hs5 hb5
  go_wp2_with fail
  refine (ofP_any ao5 c5 [7] _ HS5.out (by decide)).mono ?_
  rw [A4.out]
  rintro e1 y5 ⟨rfl, hb5⟩
  have HC5 := Lib.hid hb5; clear hb5
  simp only [Cn.vals, Cn.zero]
  have hch : Below v3.heap.size v3 y5 := ((HB3.out.trans (HC3.out.mono HB3.out.size)).trans ((HA4.out.trans ((HB4.out.trans (HC4.out.mono HB4.out.size)).mono HA4.out.size)).mono (HB3.out.trans (HC3.out.mono HB3.out.size)).size)).trans
    ((HA5.out.trans ((HB5.out.trans (HC5.out.mono HB5.out.size)).mono HA5.out.size)).mono ((HB3.out.trans (HC3.out.mono HB3.out.size)).trans ((HA4.out.trans ((HB4.out.trans (HC4.out.mono HB4.out.size)).mono HA4.out.size)).mono (HB3.out.trans (HC3.out.mono HB3.out.size)).size)).size)
  have hblk := (hch.block _ (lt_of_block HT3.out)).trans HT3.out
  have hcf : ∀ o, y5.cell? ⟨w2.heap.size, o, none⟩ = _ := fun o => cell_of_row _ _ o _ _ _ hblk
  have hlt := lt_of_block hblk
  have HCH := Lib.hid hch
  clear hblk hch
  go_wp2_with fail
  go_ret
  have hA : Below w.heap.size w w2 := HB1.out.trans (HB2.out.mono HB1.out.size)
  have hB : Below w.heap.size w v3 := hA.trans (HA3.out.mono hA.size)
  have hC : Below w.heap.size w y5 := hB.trans (HCH.out.mono hB.size)
  exact ⟨rfl, (hC.alloc hC.size _).alloc (by have := hC.size; simp; omega) _⟩
end Go.Proofs.Ytbndpmfekglnkaa
