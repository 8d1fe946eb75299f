/- Walk: the law's 'times', and CountHistory where the trace is too long or no trace. -/
import Derived.Test.YtbndpmfekglnkaaW17
import Derived.Test.YtbndpmfekglnkaaHist
namespace Go.Proofs.Ytbndpmfekglnkaa
open Go.RowKit

set_option maxHeartbeats 400000 in
theorem ltimes_any (ao : Option Addr) (cap : Nat) (zs : List Int) (e : Int) (w : World) (hs : Sl w ao cap zs) :
    Calls Try.prog 15 #[.slice ao zs.length cap, .int .i64 e] w fun r w' => r = .returned (.int .i64 (cnt e zs)) ∧ w = w' := by
  obtain ⟨h1, h2⟩ := hs.bound
  have H3 := Lib.hid hs.2.2.2; clear hs
  go_enter Try.func15, Try.ntmps15
  go_wp2
  go_loop [5, 6] (fun n i => ∃ k : Nat, k ≤ zs.length ∧ i = .int .i64 k ∧ n = .int .i64 (cnt e (zs.take k))) (fun _ i => zs.length - (intOf i).toNat)
  case atStart => exact ⟨0, Nat.zero_le _, rfl, rfl⟩
  case round =>
    obtain ⟨k, hk, rfl, rfl⟩ := hrel
    have hc : cnt e (zs.take k) ≤ k := Nat.le_trans (cnt_le _ _) (List.length_take_le _ _)
    by_cases hlt : k < zs.length
    · obtain ⟨a, rfl, hcell⟩ := H3.out k hlt
      have hsn := cnt_snoc e (zs.take k) (zs.getD k 0)
      rw [← take_snoc zs k hlt] at hsn
      generalize zs.getD k 0 = x at *
      have HS := Lib.hid hsn; clear hsn
      go_wp2
      all_goals
        go_round
        case rel => exact ⟨k + 1, by omega, by go_num, by rw [HS.out]; first | (rw [if_pos (by simp_all)]; go_num) | (rw [if_neg (by simp_all)]; go_num)⟩
        case measure => simp [intOf]; omega
    · have ht : zs.take k = zs := List.take_of_length_le (by omega)
      rw [ht]
      go_wp2
      go_ret
      exact ⟨rfl, rfl⟩

set_option maxRecDepth 100000 in
set_option maxHeartbeats 2000000 in
theorem hist_long (ao : Option Addr) (cap : Nat) (zs : List Int) (w : World) (hs : Sl w ao cap zs) (hlong : 150 < zs.length) :
    Calls Try.prog 4 #[.slice ao zs.length cap] w fun r w' => r = .returned (.bool true) ∧ Below w.heap.size w w' := by
  obtain ⟨h1, h2⟩ := hs.bound
  clear hs
  go_enter Try.func4, Try.ntmps4
  go_wp2_with (go_at_call 9; refine (awake_any _).mono ?_; rintro e w' ⟨rfl, hb⟩)
  go_ret
  exact ⟨rfl, by assumption⟩

set_option maxRecDepth 100000 in
set_option maxHeartbeats 2000000 in
theorem hist_bad (ao : Option Addr) (cap : Nat) (zs : List Int) (w : World) (hs : Sl w ao cap zs) (hshort : zs.length ≤ 150) (hz : (putR [] zs 0).2 ≠ 0) :
    Calls Try.prog 4 #[.slice ao zs.length cap] w fun r w' => r = .returned (.bool true) ∧ Below w.heap.size w w' := by
  obtain ⟨h1, h2⟩ := hs.bound
  have hbig : zs.length ≤ 100000 := by omega
  obtain ⟨hb1, hpos⟩ := ofR_bad zs hz
  have HSl := Lib.hid hs; clear hs
  have HP := Lib.hid (fun a c w h => hb1 ▸ ofM_eq_ofR zs ▸ ofP_any a c zs w h hbig)
  clear hb1
  generalize (putR [] zs 0).2 = e at *
  have hne : (e != 0) = true := by rw [bne_iff_ne]; exact hz
  clear hz
  simp only [] at HP
  go_enter Try.func4, Try.ntmps4
  go_wp2_with (first
    | (go_at_call 9; refine (awake_any _).mono ?_; rintro e w1 ⟨rfl, hb1⟩; have HB1 := Lib.hid hb1; clear hb1)
    | (go_at_call 11; refine (HP.out _ _ _ (HSl.out.below HB1.out)).mono ?_; rintro e' w2 ⟨rfl, hb2⟩; have HB2 := Lib.hid hb2; clear hb2; simp only [Cn.vals]))
  go_ret
  exact ⟨rfl, (HB1.out.trans (HB2.out.mono HB1.out.size)).alloc (by have := HB1.out.size; have := HB2.out.size; omega) _⟩

/-- The four numbers that the law's loop keeps. -/
structure Keeps (zs : List Int) (L O P D : Nat → Int) : Prop where
  z : L 0 = 0 ∧ O 0 = 0 ∧ P 0 = 0 ∧ D 0 = 0
  b : ∀ k, k ≤ zs.length → 0 ≤ L k ∧ L k ≤ k ∧ 0 ≤ O k ∧ O k ≤ k ∧ 0 ≤ P k ∧ P k ≤ k ∧ 0 ≤ D k ∧ D k ≤ k
  s : ∀ k, k < zs.length → L (k + 1) = L k + (if zs.getD k 0 = 6 then 1 else if zs.getD k 0 = 7 then -1 else 0) ∧ O (k + 1) = O k + (if zs.getD k 0 = 1 then 1 else if zs.getD k 0 = 8 then -1 else 0) ∧ P (k + 1) = max (P k) (L (k + 1)) ∧ D (k + 1) = max (D k) (O (k + 1))
  r : ∀ k, k < zs.length → 1 ≤ zs.getD k 0 ∧ zs.getD k 0 ≤ 8

theorem pkF_bd (a b : Int) (l : List Int) : ∀ (f n : Nat) (p : Int), 0 ≤ p → p ≤ n → 0 ≤ pkF a b l f n p ∧ pkF a b l f n p ≤ max p (n + f - 1)
  | 0, n, p, h, h2 => by simp only [pkF]; omega
  | f + 1, n, p, h, h2 => by
    simp only [pkF]
    have h1 := cnt_le a (l.take n)
    have h3 : (l.take n).length ≤ n := List.length_take_le _ _
    have := pkF_bd a b l f (n + 1) (max p ((cnt a (l.take n) : Int) - cnt b (l.take n))) (by omega) (by omega)
    omega

theorem keeps (zs : List Int) (hz : (putR [] zs 0).2 = 0) :
    Keeps zs (fun k => (cnt 6 (zs.take k) : Int) - cnt 7 (zs.take k)) (fun k => (cnt 1 (zs.take k) : Int) - cnt 8 (zs.take k)) (fun k => pkF 6 7 zs (k + 1) 0 0) (fun k => pkF 1 8 zs (k + 1) 0 0) := by
  refine ⟨by simp [pkF, cnt_nil], ?_, ?_, ?_⟩
  · intro k hk
    have h1 := front_pos zs hz k
    have h3 : (zs.take k).length ≤ k := List.length_take_le _ _
    have h4 := cnt_le 6 (zs.take k)
    have h5 := cnt_le 1 (zs.take k)
    have h6 := pkF_bd 6 7 zs (k + 1) 0 0 (by omega) (by omega)
    have h7 := pkF_bd 1 8 zs (k + 1) 0 0 (by omega) (by omega)
    show 0 ≤ (cnt 6 (zs.take k) : Int) - cnt 7 (zs.take k) ∧ (cnt 6 (zs.take k) : Int) - cnt 7 (zs.take k) ≤ k ∧ 0 ≤ (cnt 1 (zs.take k) : Int) - cnt 8 (zs.take k) ∧ (cnt 1 (zs.take k) : Int) - cnt 8 (zs.take k) ≤ k ∧ 0 ≤ pkF 6 7 zs (k + 1) 0 0 ∧ pkF 6 7 zs (k + 1) 0 0 ≤ k ∧ 0 ≤ pkF 1 8 zs (k + 1) 0 0 ∧ pkF 1 8 zs (k + 1) 0 0 ≤ k
    omega
  · intro k hk
    have e : ∀ a, (cnt a (zs.take (k + 1)) : Int) = cnt a (zs.take k) + if zs.getD k 0 = a then 1 else 0 := by
      intro a; rw [take_snoc zs k hk, cnt_snoc']
    have p : ∀ a b, pkF a b zs (k + 1 + 1) 0 0 = max (pkF a b zs (k + 1) 0 0) ((cnt a (zs.take (k + 1)) : Int) - cnt b (zs.take (k + 1))) := by
      intro a b
      rw [pkF_add a b zs (k + 1) 1 0 0]
      simp [pkF]
    refine ⟨?_, ?_, p 6 7, p 1 8⟩
    · show (cnt 6 (zs.take (k + 1)) : Int) - cnt 7 (zs.take (k + 1)) = (cnt 6 (zs.take k) : Int) - cnt 7 (zs.take k) + _
      rw [e, e]; (repeat' split) <;> omega
    · show (cnt 1 (zs.take (k + 1)) : Int) - cnt 8 (zs.take (k + 1)) = (cnt 1 (zs.take k) : Int) - cnt 8 (zs.take k) + _
      rw [e, e]; (repeat' split) <;> omega
  · intro k hk
    refine putR_range zs [] 0 hz _ ?_
    rw [List.getD_eq_getElem?_getD, List.getElem?_eq_getElem hk]
    exact List.getElem_mem hk

set_option maxRecDepth 100000 in
set_option maxHeartbeats 4000000 in
theorem hist_good (ao : Option Addr) (cap : Nat) (zs : List Int) (w : World) (hs : Sl w ao cap zs) (hshort : zs.length ≤ 150) (hz : (putR [] zs 0).2 = 0) :
    Calls Try.prog 4 #[.slice ao zs.length cap] w fun r w' => r = .returned (.bool true) ∧ Below w.heap.size w w' := by
  obtain ⟨h1, h2⟩ := hs.bound
  have hbig : zs.length ≤ 100000 := by omega
  obtain ⟨hb0, hh⟩ := hist_of zs hz
  have HP := Lib.hid (fun a c w h => ofM_eq_ofR zs ▸ ofP_any a c zs w h hbig)
  have HSl := Lib.hid hs; clear hs
  generalize ofR zs = R at *
  obtain ⟨⟨c1, c2, c3, c4, c5, c6, c7, c8, lv, pk, op, dp, ms⟩, e⟩ := R
  obtain ⟨e1, e2, e3, e4, e5, e6, e7, e8, elv, eop, epk, edp, g1, g2, g3, g4, g5, g6⟩ := hh
  simp only [] at HP hb0 e1 e2 e3 e4 e5 e6 e7 e8 elv eop epk edp g1 g2 g3 g4 g5 g6
  subst hb0 e1 e2 e3 e4 e5 e6 e7 e8
  have hk := keeps zs hz
  have bc : ∀ a, cnt a zs ≤ zs.length := fun a => cnt_le a zs
  have b1 := bc 1; have b2 := bc 2; have b3 := bc 3; have b8 := bc 8
  clear bc
  have hLn : (fun k => (cnt 6 (zs.take k) : Int) - cnt 7 (zs.take k)) zs.length = lv := by simp [elv]
  have hOn : (fun k => (cnt 1 (zs.take k) : Int) - cnt 8 (zs.take k)) zs.length = op := by simp [eop]
  have hPn : (fun k => pkF 6 7 zs (k + 1) 0 0) zs.length = pk := epk.symm
  have hDn : (fun k => pkF 1 8 zs (k + 1) 0 0) zs.length = dp := edp.symm
  clear elv eop epk edp hz
  generalize (fun k => (cnt 6 (zs.take k) : Int) - cnt 7 (zs.take k)) = L at *
  generalize (fun k => (cnt 1 (zs.take k) : Int) - cnt 8 (zs.take k)) = O at *
  generalize (fun k => pkF 6 7 zs (k + 1) 0 0) = P at *
  generalize (fun k => pkF 1 8 zs (k + 1) 0 0) = D at *
  have HK := Lib.hid hk; clear hk
  have HN := Lib.hid (And.intro hLn (And.intro hOn (And.intro hPn hDn))); clear hLn hOn hPn hDn
  have q1 : decide ((cnt 3 zs : Int) ≤ cnt 2 zs) = true := decide_eq_true g1
  have q2 : decide ((cnt 2 zs : Int) ≤ cnt 3 zs + cnt 1 zs) = true := decide_eq_true g2
  have q3 : decide (ms ≤ cnt 2 zs) = true := decide_eq_true g3
  have q4 : decide (0 < ms) = decide ((0 : Int) < cnt 2 zs) := by simp only [g4]
  have q5 : decide ((cnt 8 zs : Int) ≤ cnt 2 zs) = true := decide_eq_true g5
  have G := Lib.hid (And.intro g2 (And.intro g3 (And.intro g4 (And.intro g5 g6)))); clear g1 g2 g3 g4 g5 g6
  go_enter Try.func4, Try.ntmps4
  go_wp2_with (first
    | (go_at_call 9; refine (awake_any _).mono ?_; rintro e w1 ⟨rfl, hb1⟩; have HB1 := Lib.hid hb1; clear hb1)
    | (go_at_call 11; refine (HP.out _ _ _ (HSl.out.below HB1.out)).mono ?_; rintro e' w2 ⟨rfl, hb2⟩; have HB2 := Lib.hid hb2; clear hb2; simp only [Cn.vals]))
  have hC := heap_alloc_new w2 (.cells #[.int .i64 (cnt 1 zs), .int .i64 (cnt 2 zs), .int .i64 (cnt 3 zs), .int .i64 (cnt 4 zs), .int .i64 (cnt 5 zs), .int .i64 (cnt 6 zs), .int .i64 (cnt 7 zs), .int .i64 (cnt 8 zs), .int .i64 lv, .int .i64 pk, .int .i64 op, .int .i64 dp, .int .i64 ms] 26)
  have hWB : Below w.heap.size w (w2.alloc (.cells #[.int .i64 (cnt 1 zs), .int .i64 (cnt 2 zs), .int .i64 (cnt 3 zs), .int .i64 (cnt 4 zs), .int .i64 (cnt 5 zs), .int .i64 (cnt 6 zs), .int .i64 (cnt 7 zs), .int .i64 (cnt 8 zs), .int .i64 lv, .int .i64 pk, .int .i64 op, .int .i64 dp, .int .i64 ms] 26)) := (HB1.out.trans (HB2.out.mono HB1.out.size)).alloc (by have := HB1.out.size; have := HB2.out.size; omega) _
  have HC := Lib.hid hC; have HWB := Lib.hid hWB
  clear hC hWB HB1 HB2 HP
  revert HC HWB
  generalize w2.heap.size = g
  generalize w2.alloc (.cells #[.int .i64 (cnt 1 zs), .int .i64 (cnt 2 zs), .int .i64 (cnt 3 zs), .int .i64 (cnt 4 zs), .int .i64 (cnt 5 zs), .int .i64 (cnt 6 zs), .int .i64 (cnt 7 zs), .int .i64 (cnt 8 zs), .int .i64 lv, .int .i64 pk, .int .i64 op, .int .i64 dp, .int .i64 ms] 26) = wb
  intro HC HWB
  go_loop [5, 6, 7, 8, 9] (fun a b c d i => ∃ k : Nat, k ≤ zs.length ∧ i = .int .i64 k ∧ a = .int .i64 (L k) ∧ b = .int .i64 (O k) ∧ c = .int .i64 (P k) ∧ d = .int .i64 (D k)) (fun _ _ _ _ i => zs.length - (intOf i).toNat)
  case atStart => exact ⟨0, Nat.zero_le _, rfl, by rw [HK.out.z.1], by rw [HK.out.z.2.1], by rw [HK.out.z.2.2.1], by rw [HK.out.z.2.2.2]⟩
  case round =>
    obtain ⟨k, hk, rfl, rfl, rfl, rfl, rfl⟩ := hrel
    obtain ⟨p1, p2, p3, p4, p5, p6, p7, p8⟩ := HK.out.b k hk
    by_cases hlt : k < zs.length
    · obtain ⟨a, rfl, hcell⟩ := (HSl.out.below HWB.out).2.2.2 k hlt
      obtain ⟨s1, s2, s3, s4⟩ := HK.out.s k hlt
      obtain ⟨r1, r2⟩ := HK.out.r k hlt
      obtain ⟨t1, t2, t3, t4, t5, t6, t7, t8⟩ := HK.out.b (k + 1) hlt
      generalize hLk : L k = lk at *
      generalize hOk : O k = ok at *
      generalize hPk : P k = qk at *
      generalize hDk : D k = dk at *
      generalize hLk1 : L (k + 1) = lk1 at *
      generalize hOk1 : O (k + 1) = ok1 at *
      generalize hPk1 : P (k + 1) = qk1 at *
      generalize hDk1 : D (k + 1) = dk1 at *
      have E := Lib.hid (And.intro hLk1 (And.intro hOk1 (And.intro hPk1 hDk1)))
      clear hLk hOk hPk hDk hLk1 hOk1 hPk1 hDk1
      subst s3 s4
      generalize zs.getD k 0 = x at *
      have hx : x = 1 ∨ x = 2 ∨ x = 3 ∨ x = 4 ∨ x = 5 ∨ x = 6 ∨ x = 7 ∨ x = 8 := by omega
      clear r1 r2
      rcases hx with rfl | rfl | rfl | rfl | rfl | rfl | rfl | rfl
      all_goals
        simp only [reduceIte, Int.reduceEq, Int.add_zero] at s1 s2
        subst s1 s2
        go_wp2
        go_round
        case rel => exact ⟨k + 1, hlt, by go_num, by rw [E.out.1]; try congr 1, by rw [E.out.2.1]; try congr 1, by rw [E.out.2.2.1]; congr 1; split <;> omega, by rw [E.out.2.2.2]; congr 1; split <;> omega⟩
        case measure => simp [intOf]; omega
    · have hke : k = zs.length := by omega
      subst hke
      obtain ⟨n1, n2, n3, n4⟩ := HN.out
      rw [n1] at p1 p2 ⊢
      rw [n2] at p3 p4 ⊢
      rw [n3] at p5 p6 ⊢
      rw [n4] at p7 p8 ⊢
      clear n1 n2 n3 n4 HK HN
      have hcx : ∀ (x : Later wb) o, x.val.cell? ⟨g, o, none⟩ = _ := fun x o => cell_of_row _ _ o _ _ _ ((x.ok.block _ (lt_of_block HC.out)).trans HC.out)
      have HTx : Hid (∀ (e : Int) (x : Later wb), Calls Try.prog 15 #[.slice ao zs.length cap, .int .i64 e] x.val fun r w' => r = .returned (.int .i64 (cnt e zs)) ∧ x.val = w') := fun e x => ltimes_any _ _ zs _ _ ((HSl.out.below HWB.out).below x.ok)
      go_upto_region 24 with (fail)
      refine wp_region_later (by kernel_rfl) (by kernel_rfl) ?_
      repeat (go_big_quiet_step (first
        | (go_at_call 15; exact Calls.later_same (HTx.out _ _))))
      refine wpQuiet_nil ?_
      intro w5 hw5
      obtain ⟨x, rfl⟩ := hw5
      have hcy := hcx x
      have HWY : Hid (Below w.heap.size w x.val) := HWB.out.trans (x.ok.mono HWB.out.size)
      clear hcx HTx HC HWB HSl
      generalize x.val = wy at *
      clear x
      have q6 : decide (cnt 3 zs ≤ cnt 2 zs) = true := by have := of_decide_eq_true q1; exact decide_eq_true (by omega)
      have q7 : decide (cnt 8 zs ≤ cnt 2 zs) = true := by have := of_decide_eq_true q5; exact decide_eq_true (by omega)
      have q8 : decide (cnt 2 zs ≤ cnt 3 zs + cnt 1 zs) = true := by have := of_decide_eq_true q2; exact decide_eq_true (by omega)
      have Q6 := of_decide_eq_true q6
      go_wp2_with fail
      go_ret
      exact ⟨rfl, HWY.out⟩

theorem hist_any (ao : Option Addr) (cap : Nat) (zs : List Int) (w : World) (hs : Sl w ao cap zs) :
    Calls Try.prog 4 #[.slice ao zs.length cap] w fun r w' => r = .returned (.bool true) ∧ Below w.heap.size w w' := by
  by_cases h : zs.length ≤ 150
  · by_cases hz : (putR [] zs 0).2 = 0
    · exact hist_good ao cap zs w hs h hz
    · exact hist_bad ao cap zs w hs h hz
  · exact hist_long ao cap zs w hs (by omega)
end Go.Proofs.Ytbndpmfekglnkaa
