/- Walk: CountWithin. -/
import Derived.Test.YtbndpmfekglnkaaW18
import Derived.Test.YtbndpmfekglnkaaWith
namespace Go.Proofs.Ytbndpmfekglnkaa
open Go.RowKit

set_option maxRecDepth 100000 in
set_option maxHeartbeats 2000000 in
theorem within_long (ao : Option Addr) (cap : Nat) (zs : List Int) (w : World) (hs : Sl w ao cap zs) (hlong : 70 < zs.length) :
    Calls Try.prog 5 #[.slice ao zs.length cap] w fun r w' => r = .returned (.bool true) ∧ Below w.heap.size w w' := by
  obtain ⟨h1, h2⟩ := hs.bound
  clear hs
  go_enter Try.func5, Try.ntmps5
  go_wp2_with (go_at_call 9; refine (awake_any _).mono ?_; rintro e w' ⟨rfl, hb⟩)
  go_ret
  exact ⟨rfl, by assumption⟩

theorem ofM_nil : ofM [] = (Cn.zero, 0) := rfl

set_option maxRecDepth 100000 in
set_option maxHeartbeats 2000000 in
theorem within_bad (ao : Option Addr) (cap : Nat) (zs : List Int) (w : World) (hs : Sl w ao cap zs) (hshort : zs.length ≤ 70) (hz : (ofM zs).2 ≠ 0 ∨ ((ofM zs).2 = 0 ∧ (ofM zs).1.opn ≠ 0)) :
    Calls Try.prog 5 #[.slice ao zs.length cap] w fun r w' => r = .returned (.bool true) ∧ Below w.heap.size w w' := by
  obtain ⟨h1, h2⟩ := hs.bound
  have hbig : zs.length ≤ 100000 := by omega
  have hpos : 0 < zs.length := by
    cases zs with
    | nil => rw [ofM_nil] at hz; rcases hz with h | ⟨_, h⟩ <;> exact absurd rfl h
    | cons x r => simp
  have HSl := Lib.hid hs; clear hs
  have HP := Lib.hid (fun a c w h => ofP_any a c zs w h hbig)
  generalize ofM zs = R at *
  obtain ⟨⟨c1, c2, c3, c4, c5, c6, c7, c8, lv, pk, op, dp, ms⟩, e⟩ := R
  simp only [] at HP hz
  have HZ := Lib.hid hz; clear hz
  go_enter Try.func5, Try.ntmps5
  go_upto_region 6 with (first
    | (go_at_call 9; refine (awake_any _).mono ?_; rintro e w1 ⟨rfl, hb1⟩; have HB1 := Lib.hid hb1; clear hb1)
    | (go_at_call 11; refine (HP.out _ _ _ (HSl.out.below HB1.out)).mono ?_; rintro e' w2 ⟨rfl, hb2⟩; have HB2 := Lib.hid hb2; clear hb2; simp only [Cn.vals]))
  rcases HZ.out with hne | ⟨rfl, hne⟩
  · have hn : (e != 0) = true := by rw [bne_iff_ne]; exact hne
    go_wp2_with fail
    go_ret
    exact ⟨rfl, (HB1.out.trans (HB2.out.mono HB1.out.size)).alloc (by have := HB1.out.size; have := HB2.out.size; omega) _⟩
  · have hn : (op != 0) = true := by rw [bne_iff_ne]; exact hne
    go_wp2_with fail
    go_ret
    exact ⟨rfl, (HB1.out.trans (HB2.out.mono HB1.out.size)).alloc (by have := HB1.out.size; have := HB2.out.size; omega) _⟩

/-- The bounds of the counters. -/
theorem cn_bd (zs : List Int) (h : (ofM zs).2 = 0) : 0 ≤ (ofM zs).1.calls ∧ (ofM zs).1.calls ≤ 2 * zs.length ∧ 0 ≤ (ofM zs).1.bodies ∧ (ofM zs).1.bodies ≤ 2 * zs.length ∧ 0 ≤ (ofM zs).1.grows ∧ (ofM zs).1.grows ≤ 2 * zs.length ∧ 0 ≤ (ofM zs).1.ends ∧ (ofM zs).1.ends ≤ 2 * zs.length ∧ -(2 * zs.length : Int) ≤ (ofM zs).1.live ∧ (ofM zs).1.live ≤ 2 * zs.length ∧ -(2 * zs.length : Int) ≤ (ofM zs).1.peak ∧ (ofM zs).1.peak ≤ 2 * zs.length ∧ -(2 * zs.length : Int) ≤ (ofM zs).1.deep ∧ (ofM zs).1.deep ≤ 2 * zs.length ∧ -(2 * zs.length : Int) ≤ (ofM zs).1.most ∧ (ofM zs).1.most ≤ 2 * zs.length := by
  have hok := addM_ok zs Mt.zero 0 0 Mt.ok_zero
  unfold ofM at h ⊢
  simp only at h ⊢
  split at h
  · rename_i he
    rw [if_pos he]
    obtain ⟨hb, ht, _, _⟩ := hok
    simp only [Mt.cn, Mt.live]
    omega
  · exact absurd h ‹_›

set_option maxRecDepth 100000 in
set_option maxHeartbeats 4000000 in
theorem within_good (ao : Option Addr) (cap : Nat) (zs : List Int) (w : World) (hs : Sl w ao cap zs) (hshort : zs.length ≤ 70) (hz : (ofM zs).2 = 0) (ho : (ofM zs).1.opn = 0) :
    Calls Try.prog 5 #[.slice ao zs.length cap] w fun r w' => r = .returned (.bool true) ∧ Below w.heap.size w w' := by
  obtain ⟨h1, h2⟩ := hs.bound
  have hbig : zs.length ≤ 100000 := by omega
  obtain ⟨hd, hg, hw⟩ := within_of zs hz ho
  have hbd := cn_bd zs hz
  have HSl := Lib.hid hs; clear hs
  have HP := Lib.hid (fun a c w h => ofP_any a c zs w h hbig)
  have HP1 := Lib.hid (fun a c n w (hn : n = ([1, 2] ++ zs ++ [8]).length) (h : Sl w a c ([1, 2] ++ zs ++ [8])) => hn ▸ ofP_any a c ([1, 2] ++ zs ++ [8]) w h (by simp; omega))
  have HP2 := Lib.hid (fun a c n w (hn : n = (zs ++ zs).length) (h : Sl w a c (zs ++ zs)) => hn ▸ ofP_any a c (zs ++ zs) w h (by simp; omega))
  generalize ofM (zs ++ zs) = R2 at *
  generalize ofM ([1, 2] ++ zs ++ [8]) = R1 at *
  generalize ofM zs = R at *
  obtain ⟨⟨c1, c2, c3, c4, c5, c6, c7, c8, lv, pk, op, dp, ms⟩, e⟩ := R
  obtain ⟨⟨d1, d2, d3, d4, d5, d6, d7, d8, d9, d10, d11, d12, d13⟩, e1⟩ := R1
  obtain ⟨⟨g1, g2, g3, g4, g5, g6, g7, g8, g9, g10, g11, g12, g13⟩, e2⟩ := R2
  obtain ⟨q1, q2, q3, q4, q5, q6, q7, q8, q9, q10, q11, q12, q13, r1, r2, r3, r4, r5, r6, r7⟩ := hw
  simp only [] at HP HP1 HP2 hz ho hd hg hbd q1 q2 q3 q4 q5 q6 q7 q8 q9 q10 q11 q12 q13 r1 r2 r3 r4 r5 r6 r7
  replace q4 := q4.symm; replace q5 := q5.symm; replace q6 := q6.symm; replace q7 := q7.symm; replace q8 := q8.symm; replace q9 := q9.symm; replace q10 := q10.symm; replace r6 := r6.symm; replace r7 := r7.symm
  have hmx : max ms 1 = if ms < 1 then 1 else ms := by split <;> omega
  rw [hmx] at q13; clear hmx
  subst hz ho hd hg q1 q2 q3 q4 q5 q6 q7 q8 q9 q10 q11 q12 q13 r1 r2 r3 r4 r5 r6 r7
  obtain ⟨b1, b2, b3, b4, b5, b6, b7, b8, b9, b10, b11, b12, b13, b14, b15, b16⟩ := hbd
  go_enter Try.func5, Try.ntmps5
  go_upto_region 8 with (first
    | (go_at_call 9; refine (awake_any _).mono ?_; rintro e w1 ⟨rfl, hb1⟩; have HB1 := Lib.hid hb1; clear hb1)
    | (go_at_call 11; refine (HP.out _ _ _ (HSl.out.below HB1.out)).mono ?_; rintro e' w2 ⟨rfl, hb2⟩; have HB2 := Lib.hid hb2; clear hb2; simp only [Cn.vals]))
  have hC := heap_alloc_new w2 (.cells #[.int .i64 c1, .int .i64 c2, .int .i64 c3, .int .i64 c4, .int .i64 c5, .int .i64 c6, .int .i64 c7, .int .i64 c8, .int .i64 lv, .int .i64 pk, .int .i64 0, .int .i64 dp, .int .i64 ms] 26)
  have hWB : Below w.heap.size w (w2.alloc (.cells #[.int .i64 c1, .int .i64 c2, .int .i64 c3, .int .i64 c4, .int .i64 c5, .int .i64 c6, .int .i64 c7, .int .i64 c8, .int .i64 lv, .int .i64 pk, .int .i64 0, .int .i64 dp, .int .i64 ms] 26)) := (HB1.out.trans (HB2.out.mono HB1.out.size)).alloc (by have := HB1.out.size; have := HB2.out.size; omega) _
  have HC := Lib.hid hC; have HWB := Lib.hid hWB
  clear hC hWB HB1 HB2 HP
  revert HC HWB
  generalize w2.heap.size = ga
  generalize w2.alloc (.cells #[.int .i64 c1, .int .i64 c2, .int .i64 c3, .int .i64 c4, .int .i64 c5, .int .i64 c6, .int .i64 c7, .int .i64 c8, .int .i64 lv, .int .i64 pk, .int .i64 0, .int .i64 dp, .int .i64 ms] 26) = wb
  intro HC HWB
  go_upto_region 9 with (first
    | (at_builtin; refine wpList_apps wb _ rfl _ _ 22 36 rfl Try.ie22 _ [1, 2] rfl (Own.lit wb 36 [1, 2] (by simp)) ao cap zs rfl (HSl.out.below (HWB.out.alloc HWB.out.size _)) (by simp; omega) ?_; intro v' w3 hO1; have HO1 := Lib.hid hO1; clear hO1))
  go_upto_region 10 with (first
    | (at_builtin; refine wpList_app1 wb w3 rfl _ _ 22 36 rfl Try.ie22 v' _ rfl HO1.out 8 rfl (by simp; omega) ?_; intro v2 w4 hO2; obtain ⟨ao2, cap2, rfl, hsl2⟩ := hO2.sl; have HB4 := Lib.hid hO2.2; have HSl2 := Lib.hid hsl2; clear hO2 hsl2)
    | (go_at_call 11; refine (HP1.out _ _ _ _ (by simp; try omega) HSl2.out).mono ?_; rintro e' w5 ⟨rfl, hb5⟩; have HB5 := Lib.hid hb5; clear hb5; simp only [Cn.vals]))
  have hD := heap_alloc_new w5 (.cells #[.int .i64 (c1 + 1), .int .i64 (c2 + 1), .int .i64 c3, .int .i64 c4, .int .i64 c5, .int .i64 c6, .int .i64 c7, .int .i64 (c8 + 1), .int .i64 lv, .int .i64 pk, .int .i64 0, .int .i64 (dp + 1), .int .i64 (if ms < 1 then 1 else ms)] 26)
  have hWC : Below wb.heap.size wb (w5.alloc (.cells #[.int .i64 (c1 + 1), .int .i64 (c2 + 1), .int .i64 c3, .int .i64 c4, .int .i64 c5, .int .i64 c6, .int .i64 c7, .int .i64 (c8 + 1), .int .i64 lv, .int .i64 pk, .int .i64 0, .int .i64 (dp + 1), .int .i64 (if ms < 1 then 1 else ms)] 26)) := (HB4.out.trans (HB5.out.mono HB4.out.size)).alloc (by have := HB4.out.size; have := HB5.out.size; omega) _
  have HD := Lib.hid hD; have HWC := Lib.hid hWC
  clear hD hWC HB4 HB5 HP1 HO1 HSl2
  revert HD HWC
  generalize w5.heap.size = gb
  generalize w5.alloc (.cells #[.int .i64 (c1 + 1), .int .i64 (c2 + 1), .int .i64 c3, .int .i64 c4, .int .i64 c5, .int .i64 c6, .int .i64 c7, .int .i64 (c8 + 1), .int .i64 lv, .int .i64 pk, .int .i64 0, .int .i64 (dp + 1), .int .i64 (if ms < 1 then 1 else ms)] 26) = wc
  intro HD HWC
  have HWB2 : Hid (Below w.heap.size w wc) := HWB.out.trans (HWC.out.mono HWB.out.size)
  go_upto_region 11 with (first
    | (at_builtin; refine wpList_apps wc _ rfl _ _ 22 36 rfl Try.ie22 _ [] rfl (Own.lit wc 36 [] (by simp)) ao cap zs rfl (HSl.out.below (HWB2.out.alloc HWB2.out.size _)) (by simp; omega) ?_; intro v3 w6 hO3; have HO3 := Lib.hid hO3; clear hO3)
    | (at_builtin; refine wpList_apps wc _ rfl _ _ 22 36 rfl Try.ie22 _ _ rfl HO3.out ao cap zs rfl (HSl.out.below (HWB2.out.trans (HO3.out.2.mono HWB2.out.size))) (by simp; omega) ?_; intro v4 w7 hO4; obtain ⟨ao4, cap4, rfl, hsl4⟩ := hO4.sl; have HB7 := Lib.hid hO4.2; have HSl4 := Lib.hid hsl4; clear hO4 hsl4)
    | (go_at_call 11; refine (HP2.out _ _ _ _ (by simp) HSl4.out).mono ?_; rintro e' w8 ⟨rfl, hb8⟩; have HB8 := Lib.hid hb8; clear hb8; simp only [Cn.vals]))
  have hG := heap_alloc_new w8 (.cells #[.int .i64 (2 * c1), .int .i64 (2 * c2), .int .i64 (2 * c3), .int .i64 g4, .int .i64 g5, .int .i64 g6, .int .i64 g7, .int .i64 g8, .int .i64 (2 * lv), .int .i64 (lv + pk), .int .i64 g11, .int .i64 dp, .int .i64 ms] 26)
  have hWD : Below wc.heap.size wc (w8.alloc (.cells #[.int .i64 (2 * c1), .int .i64 (2 * c2), .int .i64 (2 * c3), .int .i64 g4, .int .i64 g5, .int .i64 g6, .int .i64 g7, .int .i64 g8, .int .i64 (2 * lv), .int .i64 (lv + pk), .int .i64 g11, .int .i64 dp, .int .i64 ms] 26)) := (HB7.out.trans (HB8.out.mono HB7.out.size)).alloc (by have := HB7.out.size; have := HB8.out.size; omega) _
  have HG := Lib.hid hG; have HWD := Lib.hid hWD
  clear hG hWD HB7 HB8 HP2 HO3 HSl4
  revert HG HWD
  generalize w8.heap.size = gc
  generalize w8.alloc (.cells #[.int .i64 (2 * c1), .int .i64 (2 * c2), .int .i64 (2 * c3), .int .i64 g4, .int .i64 g5, .int .i64 g6, .int .i64 g7, .int .i64 g8, .int .i64 (2 * lv), .int .i64 (lv + pk), .int .i64 g11, .int .i64 dp, .int .i64 ms] 26) = wd
  intro HG HWD
  have HWY : Hid (Below w.heap.size w wd) := HWB2.out.trans (HWD.out.mono HWB2.out.size)
  have hca : ∀ o, wd.cell? ⟨ga, o, none⟩ = _ := fun o => cell_of_row _ _ o _ _ _ ((HWD.out.block _ (Nat.lt_of_lt_of_le (lt_of_block HC.out) HWC.out.size)).trans ((HWC.out.block _ (lt_of_block HC.out)).trans HC.out))
  have hcb : ∀ o, wd.cell? ⟨gb, o, none⟩ = _ := fun o => cell_of_row _ _ o _ _ _ ((HWD.out.block _ (lt_of_block HD.out)).trans HD.out)
  have hcc : ∀ o, wd.cell? ⟨gc, o, none⟩ = _ := fun o => cell_of_row _ _ o _ _ _ HG.out
  clear HC HD HG HWD HWC HWB HWB2 HSl
  go_upto_region 13 with (fail)
  go_upto_region 15 with (fail)
  go_wp2_with fail
  all_goals
    go_ret
    exact ⟨rfl, HWY.out⟩

theorem within_any (ao : Option Addr) (cap : Nat) (zs : List Int) (w : World) (hs : Sl w ao cap zs) :
    Calls Try.prog 5 #[.slice ao zs.length cap] w fun r w' => r = .returned (.bool true) ∧ Below w.heap.size w w' := by
  by_cases h : zs.length ≤ 70
  · by_cases hz : (ofM zs).2 = 0
    · by_cases ho : (ofM zs).1.opn = 0
      · exact within_good ao cap zs w hs h hz ho
      · exact within_bad ao cap zs w hs h (.inr ⟨hz, ho⟩)
    · exact within_bad ao cap zs w hs h (.inl hz)
  · exact within_long ao cap zs w hs (by omega)
end Go.Proofs.Ytbndpmfekglnkaa
