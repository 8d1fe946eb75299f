/- Walks and plain laws: Lq. -/
import Derived.Test.YtdnkffplkleolaaGreatM33
import Derived.Test.YtdnkffplkleolaaGreatT01
import Derived.Test.YtdnkffplkleolaaGreatT03
namespace Go.Proofs.YtdnkffplkleolaaGreat
open Go.RowKit
set_option maxRecDepth 100000
set_option maxHeartbeats 8000000

theorem fA (μ : Int → Int → Int) (HMk : Hid (MkC μ)) (B : Nat) (w : World) (ao : Option Addr) (ac : Nat) (bo : Option Addr) (bc n : Nat) (t : List Tw) (ha : OwT B w ao n ac t) (hb : OwT B w bo n bc t) (hap : ∀ k, (Value.slice ao n ac).ownBlock = some k → (Value.slice bo n bc).ownBlock = some k → False) (hn : n = t.length) (hn2 : n ≤ 2000) (hB : B ≤ w.heap.size) :
  Calls Tryz.prog 17 #[.slice (some ⟨w.heap.size, 0, none⟩) 2 2] (w.alloc (.cells #[.slice ao n ac, .slice bo n bc] 32)) fun r w' => r = .returned (.bool true) ∧ Below B w w' := by
 subst hn
 have ha1 : Below w.heap.size w (w.alloc (.cells #[.slice ao t.length ac, .slice bo t.length bc] 32)) := (Below.refl _ _).alloc (Nat.le_refl _) _
 refine (apartTw_any μ HMk _ B 2 (by decide) (by decide) (Nat.le_trans hB ha1.size) _ _ (fun i => if i = 0 then .slice ao t.length ac else .slice bo t.length bc) (fun _ => t.length) (fun _ => t) (Sv.lit w 32 #[.slice ao t.length ac, .slice bo t.length bc] 2 1 (by decide) rfl) ?_ (fun _ _ => rfl) (fun _ _ => hn2)).mono ?_
 ·refine Two.start (fun i hi => ?_) (fun i j g hi hj h1 h2 => ?_) _ _
  ·by_cases h0 : i = 0
   ·simp only [h0, if_true]; exact (ha.below ha1).own
   ·simp only [h0, if_false]; exact (hb.below ha1).own
  ·by_cases h0 : i = 0 <;> by_cases h3 : j = 0
   ·omega
   ·simp only [h0, h3, if_true, if_false] at h1 h2; exact (hap g h1 h2).elim
   ·simp only [h0, h3, if_true, if_false] at h1 h2; exact (hap g h2 h1).elim
   ·omega
 ·rintro e w' ⟨rfl, h⟩
  exact ⟨rfl, (ha1.mono hB).trans h⟩
section
variable (w : World) (ro : Option Addr) (rn rc : Nat) (no : Option Addr) (nn nc : Nat) (NK : List (Nd × (Option Addr × Nat))) (G : Gr) (hG : GrW w ro rn rc no nn nc NK G) (wo : Option Addr) (wn wc : Nat) (W : List Nat) (hW : InW w wo wn wc W) (hcl : ClsOk G)
include hG hW hcl
theorem tells_any (μ β : Int → Int → Int) (HMi : Hid (MiC μ)) (HMr : Hid (MrC μ)) (HMn : Hid (MnC μ)) (HMb : Hid (MbC β)) (HMk : Hid (MkC μ)) (rule place : Int) (hr : rn ≤ 140737488355328) (hn : nn ≤ 140737488355328) (hkb : ∀ p ∈ NK, p.1.kids.length ≤ 140737488355328) :
  Calls Tryz.prog 3 #[.agg #[.slice ro rn rc, .slice no nn nc], .slice wo wn wc, .int .i64 rule, .int .i64 place] w fun r w' => r = .returned (.bool true) ∧ Below w.heap.size w w' := by
 have HG := Lib.hid (fun w' (hb : Below w.heap.size w w') => hG.below hb)
 have HW := Lib.hid (fun w' (hb : Below w.heap.size w w') => hW.below hb)
 have HCl := Lib.hid hcl
 have HWl := Lib.hid hW.len
 have HWb := Lib.hid hW.byt
 have hrb := hG.rul.bound
 have hnb := hG.nod.sv.bound
 have hwb := hW.sv.bound
 have HSz := Lib.hid (fun w' (hb : Below w.heap.size w w') => size_any w' ro no rn rc nn nc NK G (hG.below hb) hr hn hkb)
 have B0 := Lib.hid (Below.refl w.heap.size w)
 clear hG hW hcl hkb
 go_enter Tryz.func3, Tryz.ntmps3
 go_upto_region 1 with (fail)
 have hb : Below w.heap.size w (w.alloc (.cells #[.slice ro rn rc, .slice no nn nc] 25)) := (Below.refl _ _).alloc (Nat.le_refl _) _
 have OO := Lib.hid (hrow.new w #[.slice ro rn rc, .slice no nn nc] 25)
 have Bz0 := Lib.hid (B0.out.trans (hb.mono B0.out.size))
 clear hb B0
 generalize w.alloc (.cells #[.slice ro rn rc, .slice no nn nc] 25) = z0 at *
 generalize w.heap.size = g0 at OO ⊢
 obtain ⟨a0, a1⟩ := (OO.out).c2
 go_wp2_with fail
 refine (HSz.out _ Bz0.out).mono ?_
 rintro e x1 ⟨⟨m, rfl, hsm⟩, hb⟩
 have OO := Lib.hid (OO.out.below hb)
 have Bx1 := Lib.hid (Bz0.out.trans (hb.mono Bz0.out.size))
 clear hb Bz0
 clear a0 a1
 have HSm := Lib.hid hsm
 clear hsm HSz
 obtain ⟨a0, a1⟩ := (OO.out).c2
 by_cases hm : m ≤ 200
 ·have hm' : (m : Int) ≤ 200 := by omega
  have HSm' := Lib.hid (HSm.out hm)
  obtain ⟨hr2, hn2, hk2⟩ := HSm'.out
  have HKb := Lib.hid hk2
  clear HSm HSm' hk2
  by_cases hw6 : wn ≤ 60
  ·have hw6' : (wn : Int) ≤ 60 := by omega
   have HL := Lib.hid (rlong_any x1 ro rn rc no nn nc NK G (HG.out _ Bx1.out) wo wn wc W (HW.out _ Bx1.out) HCl.out rule place (by omega))
   go_wp2_with fail
   refine (HL.out).mono ?_
   rintro e x2 ⟨⟨b, rfl, hsh⟩, hb⟩
   have OO := Lib.hid (OO.out.below hb)
   have Bx2 := Lib.hid (Bx1.out.trans (hb.mono Bx1.out.size))
   clear hb Bx1
   clear a0 a1
   have HSh := Lib.hid hsh
   clear hsh HL
   obtain ⟨a0, a1⟩ := (OO.out).c2
   cases b with
   | true =>
    go_wp2_with fail
    refine (awake_any _).mono ?_
    rintro e x3 ⟨rfl, hb⟩
    have B3 := Lib.hid (Bx2.out.trans (hb.mono Bx2.out.size))
    clear hb
    go_wp2_with fail
    go_ret
    exact ⟨rfl, B3.out⟩
   | false =>
    have HS := Lib.hid (HSh.out rfl)
    clear HSh
    have HLn := Lib.hid (outW_len G wn W rule place HWl.out (fun _ => HS.out))
    obtain ⟨ot, hot⟩ : ∃ ot, outW G W rule place = ot := ⟨_, rfl⟩
    have HO := Lib.hid hot
    rw [hot] at HLn
    clear hot
    obtain ⟨oi, oe, od, ot, on, oE⟩ := ot
    have hln : ot.length ≤ 2000 := HLn.out
    obtain ⟨n, hn⟩ : ∃ n, n = ot.length := ⟨_, rfl⟩
    have hn2 : n ≤ 2000 := by omega
    have HNt := Lib.hid hn
    clear hn HLn hln
    have hkb4 : ∀ p ∈ NK, p.1.kids.length ≤ 100000 := fun p hp => by have := HKb.out p hp; omega
    have hkb5 : ∀ p ∈ NK, p.1.kids.length ≤ 5000 := fun p hp => by have := HKb.out p hp; omega
    have HK4 := Lib.hid hkb4
    have HK5 := Lib.hid hkb5
    clear hkb4 hkb5 HKb
    go_wp2_with fail
    refine (lentGr_any μ HMi HMr HMn x2 ro no rn rc nn nc NK G (HG.out _ Bx2.out) (by omega) (by omega) HK4.out).mono ?_
    rintro e x3 ⟨g1, g2, NL, rfl, hl, hg1, hg2, hb⟩
    have OO := Lib.hid (OO.out.below hb)
    have Bx3 := Lib.hid (Bx2.out.trans (hb.mono Bx2.out.size))
    clear hb Bx2
    have LG := Lib.hid hl
    clear hl
    clear a0 a1
    clear hg1 hg2
    go_wp2_with fail
    refine (lentBy_any β HMb x3 wo wn wc (W.map fun (b : Nat) => (b : Int)) (HW.out _ Bx3.out).byc (by omega)).mono ?_
    rintro e x4 ⟨rfl, ht, hb⟩
    have OO := Lib.hid (OO.out.below hb)
    have LG := Lib.hid (LG.out.below hb)
    have Bx4 := Lib.hid (Bx3.out.trans (hb.mono Bx3.out.size))
    clear hb Bx3
    have TB := Lib.hid ht
    clear ht
    generalize x3.heap.size = gt at *
    go_upto_region 4 with (fail)
    have hb : Below x4.heap.size x4 (x4.alloc (.cells #[.slice (some ⟨g1, 0, none⟩) rn (rn + 12), .slice (some ⟨g2, 0, none⟩) nn (nn + 12)] 25)) := (Below.refl _ _).alloc (Nat.le_refl _) _
    have IN := Lib.hid (hrow.new x4 #[.slice (some ⟨g1, 0, none⟩) rn (rn + 12), .slice (some ⟨g2, 0, none⟩) nn (nn + 12)] 25)
    have OO := Lib.hid (OO.out.below hb)
    have LG := Lib.hid (LG.out.below hb)
    have TB := Lib.hid (TB.out.below hb)
    have Bz4 := Lib.hid (Bx4.out.trans (hb.mono Bx4.out.size))
    clear hb Bx4
    generalize x4.alloc (.cells #[.slice (some ⟨g1, 0, none⟩) rn (rn + 12), .slice (some ⟨g2, 0, none⟩) nn (nn + 12)] 25) = z4 at *
    generalize x4.heap.size = g4 at *
    obtain ⟨c0, c1⟩ := (IN.out).c2
    go_wp2_with fail
    have HZ4 := Lib.hid Bz4.out.size
    refine (fM z4 (some ⟨g1, 0, none⟩) rn (rn + 12) (some ⟨g2, 0, none⟩) nn (nn + 12) NL G (LG.out.gr (HG.out _ Bz4.out) (by omega) (by omega) HK4.out) (some ⟨gt, 0, none⟩) wn (wn + 12) W (inw_lent TB.out HWb.out HWl.out (by omega)) HCl.out rule place HS.out HO.out HNt.out).mono ?_
    rintro e x5 ⟨ao, cap, rfl, hx, -, hb⟩
    have OO := Lib.hid (OO.out.below hb)
    have LG := Lib.hid (LG.out.below hb)
    have TB := Lib.hid (TB.out.below hb)
    have IN := Lib.hid (IN.out.below hb)
    have Bx5 := Lib.hid (Bz4.out.trans (hb.mono Bz4.out.size))
    clear hb Bz4
    have XT := Lib.hid hx
    clear hx
    clear c0 c1
    have XT : Hid (OwT w.heap.size x5 ao n cap ot) := Lib.hid (XT.out.mono HZ4.out)
    go_upto_region 5 with (fail)
    have hb : Below x5.heap.size x5 (x5.alloc (.cells #[.bool oi, .int .i64 oe, .int .i64 od, .slice ao n cap] 34)) := (Below.refl _ _).alloc (Nat.le_refl _) _
    have FX := Lib.hid (hrow.new x5 #[.bool oi, .int .i64 oe, .int .i64 od, .slice ao n cap] 34)
    have OO := Lib.hid (OO.out.below hb)
    have LG := Lib.hid (LG.out.below hb)
    have TB := Lib.hid (TB.out.below hb)
    have IN := Lib.hid (IN.out.below hb)
    have XT := Lib.hid (XT.out.below hb)
    have Bz6 := Lib.hid (Bx5.out.trans (hb.mono Bx5.out.size))
    clear hb Bx5
    generalize x5.alloc (.cells #[.bool oi, .int .i64 oe, .int .i64 od, .slice ao n cap] 34) = z6 at *
    generalize x5.heap.size = g6 at *
    obtain ⟨c0, c1⟩ := (IN.out).c2
    go_wp2_with fail
    refine (fC z6 (some ⟨g1, 0, none⟩) rn (rn + 12) (some ⟨g2, 0, none⟩) nn (nn + 12) NL G (LG.out.gr (HG.out _ Bz6.out) (by omega) (by omega) HK4.out) (some ⟨gt, 0, none⟩) wn (wn + 12) W (inw_lent TB.out HWb.out HWl.out (by omega)) HCl.out rule place HS.out HO.out HNt.out).mono ?_
    rintro e x7 ⟨rfl, hb⟩
    have OO := Lib.hid (OO.out.below hb)
    have LG := Lib.hid (LG.out.below hb)
    have TB := Lib.hid (TB.out.below hb)
    have IN := Lib.hid (IN.out.below hb)
    have XT := Lib.hid (XT.out.below hb)
    have FX := Lib.hid (FX.out.below hb)
    have Bx7 := Lib.hid (Bz6.out.trans (hb.mono Bz6.out.size))
    clear hb Bz6
    clear c0 c1
    obtain ⟨a0, a1⟩ := (OO.out).c2
    go_upto_region 6 with (fail)
    go_wp2_with fail
    refine (fR x7 ro rn rc no nn nc NK G (HG.out _ Bx7.out) wo wn wc W (HW.out _ Bx7.out) HCl.out rule place HO.out HNt.out (by omega)).mono ?_
    rintro e x8 ⟨bo, bc, rfl, hy, hb⟩
    have OO := Lib.hid (OO.out.below hb)
    have LG := Lib.hid (LG.out.below hb)
    have TB := Lib.hid (TB.out.below hb)
    have IN := Lib.hid (IN.out.below hb)
    have XT := Lib.hid (XT.out.below hb)
    have FX := Lib.hid (FX.out.below hb)
    have Bx8 := Lib.hid (Bx7.out.trans (hb.mono Bx7.out.size))
    clear hb Bx7
    have YT := Lib.hid hy
    clear hy
    clear a0 a1
    go_upto_region 7 with (fail)
    have hb : Below x8.heap.size x8 (x8.alloc (.cells #[.bool oi, .int .i64 oe, .int .i64 od, .slice bo n bc] 34)) := (Below.refl _ _).alloc (Nat.le_refl _) _
    have FY := Lib.hid (hrow.new x8 #[.bool oi, .int .i64 oe, .int .i64 od, .slice bo n bc] 34)
    have OO := Lib.hid (OO.out.below hb)
    have LG := Lib.hid (LG.out.below hb)
    have TB := Lib.hid (TB.out.below hb)
    have IN := Lib.hid (IN.out.below hb)
    have XT := Lib.hid (XT.out.below hb)
    have FX := Lib.hid (FX.out.below hb)
    have YT := Lib.hid (YT.out.below hb)
    have Bz9 := Lib.hid (Bx8.out.trans (hb.mono Bx8.out.size))
    clear hb Bx8
    generalize x8.alloc (.cells #[.bool oi, .int .i64 oe, .int .i64 od, .slice bo n bc] 34) = z9 at *
    generalize x8.heap.size = g9 at *
    obtain ⟨p0, p1, p2, p3⟩ := (FX.out).c4
    obtain ⟨q0, q1, q2, q3⟩ := (FY.out).c4
    go_wp2_with fail
    refine (fS z9 oi oe od n ao bo cap bc ot HNt.out XT.out.sv YT.out).mono ?_
    rintro e x10 ⟨rfl, hb⟩
    have OO := Lib.hid (OO.out.below hb)
    have LG := Lib.hid (LG.out.below hb)
    have TB := Lib.hid (TB.out.below hb)
    have IN := Lib.hid (IN.out.below hb)
    have XT := Lib.hid (XT.out.below hb)
    have FX := Lib.hid (FX.out.below hb)
    have YT := Lib.hid (YT.out.below hb)
    have FY := Lib.hid (FY.out.below hb)
    have Bx10 := Lib.hid (Bz9.out.trans (hb.mono Bz9.out.size))
    clear hb Bz9
    clear p0 p1 p2 p3
    clear q0 q1 q2 q3
    clear FY YT
    obtain ⟨c0, c1⟩ := (IN.out).c2
    obtain ⟨a0, a1⟩ := (OO.out).c2
    go_wp2_with fail
    refine (keptGr_any μ HMi HMr HMn x10 ro no rn rc nn nc g1 g2 NK NL G (HG.out _ Bx10.out) LG.out (by omega) (by omega) HK5.out).mono ?_
    rintro e x11 ⟨rfl, hb⟩
    have OO := Lib.hid (OO.out.below hb)
    have LG := Lib.hid (LG.out.below hb)
    have TB := Lib.hid (TB.out.below hb)
    have IN := Lib.hid (IN.out.below hb)
    have XT := Lib.hid (XT.out.below hb)
    have FX := Lib.hid (FX.out.below hb)
    have Bx11 := Lib.hid (Bx10.out.trans (hb.mono Bx10.out.size))
    clear hb Bx10
    clear c0 c1
    clear a0 a1
    go_wp2_with fail
    refine (keptBy_any β HMb x11 gt wo wn wc (W.map fun (b : Nat) => (b : Int)) TB.out (HW.out _ Bx11.out).byc (by omega)).mono ?_
    rintro e x12 ⟨rfl, hb⟩
    have OO := Lib.hid (OO.out.below hb)
    have LG := Lib.hid (LG.out.below hb)
    have TB := Lib.hid (TB.out.below hb)
    have IN := Lib.hid (IN.out.below hb)
    have XT := Lib.hid (XT.out.below hb)
    have FX := Lib.hid (FX.out.below hb)
    have Bx12 := Lib.hid (Bx11.out.trans (hb.mono Bx11.out.size))
    clear hb Bx11
    go_upto_region 9 with (fail)
    obtain ⟨c0, c1⟩ := (IN.out).c2
    go_wp2_with fail
    have XTo := Lib.hid XT.out
    have HX12 := Lib.hid Bx12.out.size
    refine (fM x12 (some ⟨g1, 0, none⟩) rn (rn + 12) (some ⟨g2, 0, none⟩) nn (nn + 12) NL G (LG.out.gr (HG.out _ Bx12.out) (by omega) (by omega) HK4.out) (some ⟨gt, 0, none⟩) wn (wn + 12) W (inw_lent TB.out HWb.out HWl.out (by omega)) HCl.out rule place HS.out HO.out HNt.out).mono ?_
    rintro e x13 ⟨co, cc, rfl, hx, -, hb⟩
    have OO := Lib.hid (OO.out.below hb)
    have LG := Lib.hid (LG.out.below hb)
    have TB := Lib.hid (TB.out.below hb)
    have IN := Lib.hid (IN.out.below hb)
    have XT := Lib.hid (XT.out.below hb)
    have FX := Lib.hid (FX.out.below hb)
    have Bx13 := Lib.hid (Bx12.out.trans (hb.mono Bx12.out.size))
    clear hb Bx12
    have ZT := Lib.hid hx
    clear hx
    clear c0 c1
    have HAp : Hid (∀ k, (Value.slice ao n cap).ownBlock = some k → (Value.slice co n cc).ownBlock = some k → False) := fun k h1 h2 => by have h3 := (XTo.out.own.lt k h1).2; have h4 := (ZT.out.own.lt k h2).1; omega
    have ZT : Hid (OwT w.heap.size x13 co n cc ot) := Lib.hid (ZT.out.mono HX12.out)
    clear XTo
    clear LG TB IN OO
    go_upto_region 10 with (fail)
    have hb : Below x13.heap.size x13 (x13.alloc (.cells #[.bool oi, .int .i64 oe, .int .i64 od, .slice co n cc] 34)) := (Below.refl _ _).alloc (Nat.le_refl _) _
    have FZ := Lib.hid (hrow.new x13 #[.bool oi, .int .i64 oe, .int .i64 od, .slice co n cc] 34)
    have XT := Lib.hid (XT.out.below hb)
    have FX := Lib.hid (FX.out.below hb)
    have ZT := Lib.hid (ZT.out.below hb)
    have Bz14 := Lib.hid (Bx13.out.trans (hb.mono Bx13.out.size))
    clear hb Bx13
    generalize x13.alloc (.cells #[.bool oi, .int .i64 oe, .int .i64 od, .slice co n cc] 34) = z14 at *
    generalize x13.heap.size = g14 at *
    obtain ⟨p0, p1, p2, p3⟩ := (FX.out).c4
    obtain ⟨q0, q1, q2, q3⟩ := (FZ.out).c4
    go_wp2_with fail
    refine (fA μ HMk w.heap.size z14 ao cap co cc n ot XT.out ZT.out HAp.out HNt.out hn2 Bz14.out.size).mono ?_
    rintro e x15 ⟨rfl, hb⟩
    have B15 := Lib.hid (Bz14.out.trans hb)
    clear hb
    clear p0 p1 p2 p3
    clear q0 q1 q2 q3
    go_wp2_with fail
    refine (awake_any _).mono ?_
    rintro e x16 ⟨rfl, hb⟩
    have B16 := Lib.hid (B15.out.trans (hb.mono B15.out.size))
    clear hb
    go_wp2_with fail
    go_ret
    exact ⟨rfl, B16.out⟩
  ·have hw6' : 60 < (wn : Int) := by omega
   go_wp2_with fail
   refine (awake_any _).mono ?_
   rintro e x3 ⟨rfl, hb⟩
   have B3 := Lib.hid (Bx1.out.trans (hb.mono Bx1.out.size))
   clear hb
   go_wp2_with fail
   go_ret
   exact ⟨rfl, B3.out⟩
 ·have hm' : 200 < (m : Int) := by omega
  go_wp2_with fail
  refine (awake_any _).mono ?_
  rintro e x3 ⟨rfl, hb⟩
  have B3 := Lib.hid (Bx1.out.trans (hb.mono Bx1.out.size))
  clear hb
  go_wp2_with fail
  go_ret
  exact ⟨rfl, B3.out⟩
end
end Go.Proofs.YtdnkffplkleolaaGreat
