/- Walks: words: WordsBetween. -/
import Derived.Test.YtnfkcdnkmcifbaaDoorAw
namespace Go.Proofs.YtnfkcdnkmcifbaaDoor
open Go.RowKit
set_option maxRecDepth 100000
set_option maxHeartbeats 4000000

theorem wd_sz9 : (Tryd.prog.info? 33).map (·.size) = some 9 := by decide +kernel
/-- Between two words. -/
structure BtI (l : List UInt8) (ws : List Wd) (n i k : Nat) (ao : Option Addr) (cap : Nat) (w wr : World) : Prop where
 le : i ≤ n
 kl : k ≤ l.length
 ch : i < n → Chain l k (ws.drop i)
 en : i = n → k = l.length
 sv : Sv wr ao n cap 9 (ws.flatMap fun x => (wdD x).toList)
 bl : Below w.heap.size w wr
theorem between_any (s : ByteArray) (w : World) (hm : s.size ≤ 140737488355328) : Calls Tryd.prog 3 #[.string s] w fun e w' => e = .returned (.bool true) ∧ Below w.heap.size w w' := by
 have HAw := Lib.hid (awake_any w)
 have HM := Lib.hid hm; clear hm
 go_enter Tryd.func3, Tryd.ntmps3
 go_wp2_with fail
 refine HAw.out.mono ?_
 rintro e w1 ⟨rfl, hb⟩
 have B1 := Lib.hid hb; clear hb HAw
 by_cases hbig : 1000 < s.size
 ·have hI : (1000 : Int) < s.size := by omega
  clear hbig
  go_wp2_with fail
  go_ret
  exact ⟨rfl, B1.out⟩
 have hI : ¬ (1000 : Int) < s.size := by omega
 have HA := Lib.hid (all_any s w1 (by omega))
 have HS := Lib.hid hbig; clear hbig
 go_wp2_with fail
 refine HA.out.mono ?_
 rintro e w2 hP
 unfold AllP at hP
 have hcl := ba_len s
 have HCL := Lib.hid hcl
 cases hq : (wordsOf s.data.toList).2 with
 | some p =>
  rw [hq] at hP
  obtain ⟨rfl, hb⟩ := hP
  have B2 := Lib.hid (B1.out.trans (hb.mono B1.out.size)); clear hb HA
  obtain ⟨hp1, hp2, hp3⟩ := wordsF_err _ _ (Nat.zero_le _) (by omega) hq
  have hpI : ¬ (p : Int) < 0 := by omega
  have hpS : ¬ (s.size : Int) ≤ p := by omega
  have hpS2 : (p : Int) < s.size := by omega
  have HSk := Lib.hid (fun x => skip_in s p x (by have := HS.out; omega) (by omega))
  have HNx := Lib.hid (fun x => next_any s p x (by have := HS.out; omega) (by omega))
  rw [hp2] at HSk
  rw [hp3] at HNx
  unfold nxV wd0 wdA at HNx
  clear hq hp1 hp2 hp3 hcl
  go_wp2_with fail
  refine (HSk.out _).mono ?_
  rintro e w3 ⟨rfl, hb⟩
  have B3 := Lib.hid (B2.out.trans (hb.mono B2.out.size)); clear hb
  go_wp2_with fail
  refine (HNx.out _).mono ?_
  rintro e w4 ⟨rfl, hb⟩
  have B4 := Lib.hid (B3.out.trans (hb.mono B3.out.size)); clear hb
  go_wp2_with fail
  go_ret
  exact ⟨rfl, B4.out.alloc B4.out.size _⟩
 | none =>
  rw [hq] at hP
  obtain ⟨v, rfl, hO⟩ := hP
  obtain ⟨ao, cap, rfl, hS⟩ := hO.sv
  have hch := wordsF_ok _ _ (Nat.zero_le _) (by omega) hq
  have hbd := hS.bound
  have hne : 0 < (wordsOf s.data.toList).1.length := by
   rcases hw : (wordsOf s.data.toList).1 with _ | ⟨x, r⟩
   ·unfold wordsOf at hw; rw [hw] at hch; exact hch.elim
   ·simp
  have HI0 : Hid (BtI s.data.toList (wordsOf s.data.toList).1 (wordsOf s.data.toList).1.length 0 0 ao cap w w2) := ⟨Nat.zero_le _, Nat.zero_le _, fun _ => hch, fun h => by omega, hS, B1.out.trans (hO.2.mono B1.out.size)⟩
  clear hq hO hS hch HA B1
  have HWL : Hid ((wordsOf s.data.toList).1.length = (wordsOf s.data.toList).1.length) := rfl
  generalize hws : (wordsOf s.data.toList).1 = ws at *
  clear hws HWL
  generalize hn : ws.length = n at *
  have HN := Lib.hid hn; clear hn
  go_wp2_with fail
  go_loopw [8, 9] (fun t0 i wr => ∃ (j k : Nat), j ≤ n ∧ t0 = .int .i64 k ∧ i = .int .i64 j ∧ Hid (BtI s.data.toList ws n j k ao cap w wr)) (fun _ i _ => n - (intOf i).toNat)
  case atStart => exact ⟨0, 0, Nat.zero_le _, by go_num, by go_num, HI0.out⟩
  case round =>
   clear HI0
   obtain ⟨j, k, hj, rfl, rfl, HI⟩ := hrel
   by_cases hlt : j < n
   ·have hltI : (j : Int) < n := by omega
    have hj0 : (0 : Int) ≤ j := by omega
    have hjl : j < ws.length := by rw [HN.out]; exact hlt
    obtain ⟨a, ha, hc⟩ := Sv.at wdD_len HI.out.sv (by decide) j hjl
    obtain ⟨d, hd⟩ : ∃ d, ws[j] = d := ⟨_, rfl⟩
    rw [hd] at hc
    have hch := HI.out.ch hlt
    rw [List.drop_eq_getElem_cons hjl, hd] at hch
    obtain ⟨hnx, hnd⟩ := hch
    obtain ⟨h1, h2, h3, h4, h5, h6, h7, h8⟩ := nextW_some hnx HI.out.kl
    have hks : k ≤ s.size := by have := HI.out.kl; omega
    have HSk := Lib.hid (fun x => skip_in s k x (by have := HS.out; omega) hks)
    have HNx := Lib.hid (fun x => next_any s k x (by have := HS.out; omega) hks)
    rw [show ((k : Int) + (skp false (s.data.toList.drop k) : Nat)) = (d.at_ : Int) by omega] at HSk
    rw [hnx] at HNx
    have HCc := Lib.hid (show ∀ j_1 v, (#[.int .i64 d.kind, .int .i64 d.at_, .int .i64 d.nx, .string (tx d.tx), .int .i64 d.lv, .int .u64 (clsW d.cl 0), .int .u64 (clsW d.cl 1), .int .u64 (clsW d.cl 2), .int .u64 (clsW d.cl 3)] : Array Value).toList[j_1]? = some v → _ from hc)
    -- the next round
    have HNX : Hid (∀ wz, Sv wz ao n cap 9 (ws.flatMap fun x => (wdD x).toList) → Below w.heap.size w wz → BtI s.data.toList ws n (j + 1) d.nx ao cap w wz) := fun wz hs hb => by
     refine ⟨hlt, h4, fun hl => ?_, fun he => ?_, hs, hb⟩
     ·rcases hnd with ⟨_, h0⟩ | ⟨_, h0⟩
      ·have := congrArg List.length h0
       simp at this
       have := HN.out
       omega
      ·exact h0
     ·rcases hnd with ⟨hk1, h0⟩ | ⟨_, h0⟩
      ·rw [h7.2 hk1, h8.1 hk1]
      ·have : ws.drop (j + 1) = [] := List.drop_eq_nil_of_le (by have := HN.out; omega)
       rw [this] at h0; exact h0.elim
    obtain ⟨q, hq0⟩ : ∃ q : Bool, decide (d.kind = 1) = q := ⟨_, rfl⟩
    have hq1 : ((d.kind : Int) == 1) = q := by rw [← hq0]; rw [Bool.eq_iff_iff]; simp; omega
    have hq2 : ((j : Int) == (n : Int) - 1) = q := by
     rw [← hq0, Bool.eq_iff_iff]
     simp only [beq_iff_eq, decide_eq_true_eq]
     have hnl := HN.out
     constructor
     ·intro he
      rcases hnd with ⟨h0, _⟩ | ⟨_, h0⟩
      ·exact h0
      ·have : ws.drop (j + 1) = [] := List.drop_eq_nil_of_le (by omega)
       rw [this] at h0; exact h0.elim
     ·intro he
      rcases hnd with ⟨_, h0⟩ | ⟨h0, _⟩
      ·have := congrArg List.length h0
       simp at this
       omega
      ·exact absurd he h0
    have hq3 : ((d.nx : Int) == (d.at_ : Int)) = q := by rw [← hq0, Bool.eq_iff_iff]; simp only [beq_iff_eq, decide_eq_true_eq]; rw [← h7]; omega
    have l1 : decide ((d.nx : Int) < d.at_) = false := by simp; omega
    have l2 : decide ((s.size : Int) < d.nx) = false := by simp; omega
    have l3 : decide ((d.kind : Int) < 1) = false := by simp; omega
    have l4 : decide ((5 : Int) < d.kind) = false := by simp; omega
    subst ha
    have HS3 := Lib.hid HI.out.sv; have HB3 := Lib.hid HI.out.bl
    clear hc hnx hnd h1 h2 h3 h4 h5 h6 h7 h8 hks hq0 HI hd hjl
    go_wp2_with (refine wpList_load_part rfl 33 (.tmp 66) rfl (a.add (j * 9)) rfl #[.int .i64 d.kind, .int .i64 d.at_, .int .i64 d.nx, .string (tx d.tx), .int .i64 d.lv, .int .u64 (clsW d.cl 0), .int .u64 (clsW d.cl 1), .int .u64 (clsW d.cl 2), .int .u64 (clsW d.cl 3)] _ HCc.out Tryd.underlying33 rfl wd_sz9 ?_)
    have HR := Lib.hid (hrow.new wr #[.int .i64 d.kind, .int .i64 d.at_, .int .i64 d.nx, .string (tx d.tx), .int .i64 d.lv, .int .u64 (clsW d.cl 0), .int .u64 (clsW d.cl 1), .int .u64 (clsW d.cl 2), .int .u64 (clsW d.cl 3)] 33)
    have HS4 := Lib.hid (HS3.out.below ((Below.refl _ wr).alloc (Nat.le_refl _) (.cells #[.int .i64 d.kind, .int .i64 d.at_, .int .i64 d.nx, .string (tx d.tx), .int .i64 d.lv, .int .u64 (clsW d.cl 0), .int .u64 (clsW d.cl 1), .int .u64 (clsW d.cl 2), .int .u64 (clsW d.cl 3)] 33)))
    have HB4 := Lib.hid (HB3.out.alloc HB3.out.size (.cells #[.int .i64 d.kind, .int .i64 d.at_, .int .i64 d.nx, .string (tx d.tx), .int .i64 d.lv, .int .u64 (clsW d.cl 0), .int .u64 (clsW d.cl 1), .int .u64 (clsW d.cl 2), .int .u64 (clsW d.cl 3)] 33))
    clear HS3 HB3 HCc
    generalize wr.alloc (.cells #[.int .i64 d.kind, .int .i64 d.at_, .int .i64 d.nx, .string (tx d.tx), .int .i64 d.lv, .int .u64 (clsW d.cl 0), .int .u64 (clsW d.cl 1), .int .u64 (clsW d.cl 2), .int .u64 (clsW d.cl 3)] 33) = wx at *
    generalize wr.heap.size = g at *
    have f0 : ∀ x : Later wx, x.val.cell? ⟨g, 0, none⟩ = some (.int .i64 d.kind) := fun x => hrow.cell (HR.out.below x.ok) 0
    have f1 : ∀ x : Later wx, x.val.cell? ⟨g, 1, none⟩ = some (.int .i64 d.at_) := fun x => hrow.cell (HR.out.below x.ok) 1
    have f2 : ∀ x : Later wx, x.val.cell? ⟨g, 2, none⟩ = some (.int .i64 d.nx) := fun x => hrow.cell (HR.out.below x.ok) 2
    have HCx : Hid (∀ x : Later wx, Calls Tryd.prog 7 #[.string s, .int .i64 k] x.val fun e w' => e = .returned (.int .i64 d.at_) ∧ ∃ y : Later wx, w' = y.val) := fun x => Calls.later (HSk.out _)
    unfold nxV wdD wdA at HNx
    simp only [] at HNx
    generalize hXN : (d.nx : Int) = XN at *
    have HXN := Lib.hid hXN; clear hXN
    generalize (d.at_ : Int) = XA at *
    generalize (d.kind : Int) = XK at *
    refine wp_region_later (by kernel_rfl) (by kernel_rfl) ?_
    repeat (go_big_quiet_step ((go_at_call 7; with_reducible exact HCx.out _)))
    refine wpQuiet_nil ?_
    intro w5 hw5
    obtain ⟨x, rfl⟩ := hw5
    replace HR := Lib.hid (HR.out.below x.ok)
    have HS5 := Lib.hid (HS4.out.below x.ok)
    have HB5 := Lib.hid (HB4.out.trans (x.ok.mono HB4.out.size))
    clear HS4 HB4 f0 f1 f2 HCx HSk hq1 hq2 hq3 l1 l2 l3 l4
    generalize x.val = wy at *
    clear x
    go_wp2_with fail
    refine (HNx.out _).mono ?_
    rintro e w6 ⟨rfl, hb⟩
    replace HR := Lib.hid (HR.out.below hb)
    have HS6 := Lib.hid (HS5.out.below hb)
    have HB6 := Lib.hid (HB5.out.trans (hb.mono HB5.out.size))
    clear HS5 HB5 HNx hb
    have hwe := wd_eq
    have hbl := (Below.refl w6.heap.size w6).alloc (Nat.le_refl _) (.cells #[.int .i64 XK, .int .i64 XA, .int .i64 XN, .string (tx d.tx), .int .i64 d.lv, .int .u64 (clsW d.cl 0), .int .u64 (clsW d.cl 1), .int .u64 (clsW d.cl 2), .int .u64 (clsW d.cl 3)] 33)
    obtain ⟨g0, g1, g2, g3, g4, g5, g6, g7, g8⟩ := hrow.c9 (HR.out.below hbl)
    have HS7 := Lib.hid (HS6.out.below hbl)
    have HB7 := Lib.hid (HB6.out.trans (hbl.mono HB6.out.size))
    clear hbl HR
    go_wp2_with fail
    go_roundw
    case rel => exact ⟨j + 1, d.nx, hlt, by rw [← HXN.out], by go_num, HNX.out _ HS7.out HB7.out⟩
    case measure => simp [intOf]; omega
   ·have hltI : ¬ (j : Int) < n := by omega
    obtain rfl : j = n := by omega
    have hk : k = s.size := by have := HI.out.en rfl; omega
    have hkI : (k : Int) = s.size := by omega
    have B9 := Lib.hid HI.out.bl
    clear hk
    go_wp2_with fail
    go_ret
    exact ⟨rfl, B9.out⟩
end Go.Proofs.YtnfkcdnkmcifbaaDoor
