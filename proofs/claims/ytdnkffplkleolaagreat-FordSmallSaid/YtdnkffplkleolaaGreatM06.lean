/- Walks and plain laws: Kd Ke W5 Kf Kg. -/
import Derived.Test.YtdnkffplkleolaaGreatM05
import Derived.Test.YtdnkffplkleolaaGreatM03
import Derived.Test.YtdnkffplkleolaaGreatM02
import Derived.OwnWalk
namespace Go.Proofs.YtdnkffplkleolaaGreat
open Go.RowKit
set_option maxRecDepth 100000
set_option maxHeartbeats 2000000

theorem Sv.ru2 {w : World} {ao : Option Addr} {n cap : Nat} {t : List Ru} (h : Sv w ao n cap 2 (t.flatMap ruc)) {k : Nat} (hk : k < t.length) :
  ∃ a, ao = some a ∧ w.cell? (a.add (k * 2)) = some (.string t[k].name) ∧ w.cell? ⟨(a.add (k * 2)).block, (a.add (k * 2)).off + 1, none⟩ = some (.int .i64 t[k].body) := by
 obtain ⟨a, ha, hc⟩ := h.at ruc_len (by decide) k hk
 refine ⟨a, ha, hc 0 _ rfl, ?_⟩
 have := hc 1 _ rfl
 rw [add_off _ _ _ (by decide)] at this
 exact this

theorem sameRu_any (w : World) (ao bo : Option Addr) (n ac bc : Nat) (t : List Ru) (ha : Sv w ao n ac 2 (t.flatMap ruc)) (hb : Sv w bo n bc 2 (t.flatMap ruc)) :
  Calls Tryz.prog 59 #[.slice ao n ac, .slice bo n bc] w fun r w' => r = .returned (.bool true) ∧ Below w.heap.size w w' := by
 obtain ⟨h1, h2⟩ := ha.bound
 obtain ⟨h3, h4⟩ := hb.bound
 have hl := ha.n_eq ruc_len (by decide)
 have HA := Lib.hid ha; have HB := Lib.hid hb; have HL := Lib.hid hl
 clear ha hb hl
 go_enter Tryz.func59, Tryz.ntmps59
 go_wp2_with fail
 go_loopw [5] (fun i wr => ∃ k : Nat, k ≤ n ∧ i = .int .i64 k ∧ Hid (Below w.heap.size w wr)) (fun i _ => n - (intOf i).toNat)
 case atStart => exact ⟨0, by omega, rfl, Below.refl _ _⟩
 case round =>
  obtain ⟨k, hk, rfl, HBr⟩ := hrel
  by_cases hlt : k < n
  ·have hlt' : (k : Int) < n := by omega
   have hkl : k < t.length := by have := HL.out; omega
   obtain ⟨a, rfl, a0, a1⟩ := (HA.out.below HBr.out).ru2 hkl
   obtain ⟨b, rfl, b0, b1⟩ := (HB.out.below HBr.out).ru2 hkl
   generalize t[k] = x at *
   obtain ⟨x1, x2⟩ := x
   simp only [] at a0 a1 b0 b1
   clear hkl
   go_wp2_with fail
   go_quiet (fail)
   go_wp2_with fail
   go_roundw
   case rel => exact ⟨k + 1, by omega, by go_num, HBr.out.trans (below_drewN (Below.refl _ _) _ |>.mono HBr.out.size)⟩
   case measure => simp [intOf]; omega
  ·have hge : (n : Int) ≤ k := by omega
   go_wp2_with fail
   go_ret
   exact ⟨rfl, HBr.out⟩

theorem keptRu_any (β : Int → Int → Int) (HMb : Hid (MrC β)) (w : World) (g : Nat) (ao : Option Addr) (n cap : Nat) (R : List Ru) (hr : hrow w g ((R ++ rmarks β 12).flatMap ruc).toArray 112) (hs : Sv w ao n cap 2 (R.flatMap ruc)) (hbig : n ≤ 5000) :
  Calls Tryz.prog 34 #[.slice (some ⟨g, 0, none⟩) n (n + 12), .slice ao n cap] w fun r w' => r = .returned (.bool true) ∧ Below w.heap.size w w' := by
 obtain ⟨h1, h2⟩ := hs.bound
 have hwl := hs.n_eq ruc_len (by decide)
 have hcell : ∀ w', Below w.heap.size w w' → ∀ j (hj : j < (R ++ rmarks β 12).length), w'.cell? ⟨g, j * 2, none⟩ = some (.string ((R ++ rmarks β 12)[j]'hj).name) ∧ w'.cell? ⟨g, j * 2 + 1, none⟩ = some (.int .i64 ((R ++ rmarks β 12)[j]'hj).body) := fun w' hb j hj => by
  have e0 := fl_get ruc_len (R ++ rmarks β 12) j 0 hj (by decide)
  have e1 := fl_get ruc_len (R ++ rmarks β 12) j 1 hj (by decide)
  rw [Nat.add_zero] at e0
  refine ⟨?_, ?_⟩
  ·rw [(hr.below hb).cell, List.getElem?_toArray, e0]; rfl
  ·rw [(hr.below hb).cell, List.getElem?_toArray, e1]; rfl
 have HC := Lib.hid hcell; have HS := Lib.hid (fun w' (hb : Below w.heap.size w w') => hs.below hb); have HWl := Lib.hid hwl
 have HLl : Hid ((R ++ rmarks β 12).length = n + 12) := by show _ = _; rw [List.length_append, rmarks_len]; omega
 clear hcell hr hs hwl
 go_enter Tryz.func34, Tryz.ntmps34
 go_wp2_with fail
 go_loopw [6] (fun i wr => ∃ k : Nat, k ≤ n + 12 ∧ i = .int .i64 k ∧ Hid (Below w.heap.size w wr)) (fun i _ => n + 12 - (intOf i).toNat)
 case atStart => exact ⟨0, by omega, rfl, Below.refl _ _⟩
 case round =>
  obtain ⟨k, hk, rfl, HB⟩ := hrel
  by_cases hlt : k < n + 12
  ·have hlt' : (k : Int) < (n : Int) + 12 := by omega
   obtain ⟨hc0, hc1⟩ := HC.out wr HB.out k (by have := HLl.out; omega)
   by_cases hkn : k < n
   ·have hkR : k < R.length := by have := HWl.out; omega
    rw [List.getElem_append_left hkR] at hc0 hc1
    have hkn' : (k : Int) < n := by omega
    have t1 : decide (k < n) = true := decide_eq_true hkn
    have t2 : decide (n ≤ k) = false := decide_eq_false (by omega)
    obtain ⟨aw, rfl, hq0, hq1⟩ := (HS.out wr HB.out).ru2 hkR
    generalize R[k] = c at *
    obtain ⟨c1, c2⟩ := c
    simp only [] at hc0 hc1 hq0 hq1
    have later : ∀ (p : Addr) (v : Value), wr.cell? p = some v → ∀ y : Later wr, y.val.cell? p = some v := fun p v h y => (y.ok.cell (World.block_lt_of_cell? wr _ h)).trans h
    have hc0 := later _ _ hc0; have hc1 := later _ _ hc1; have hq0 := later _ _ hq0; have hq1 := later _ _ hq1
    clear later
    go_wp2_with fail
    refine wp_region_later (by kernel_rfl) (by kernel_rfl) ?_
    repeat (go_big_quiet_step (fail))
    refine wpQuiet_nil ?_
    intro w5 hw5
    obtain ⟨y, rfl⟩ := hw5
    have HB5 := Lib.hid (HB.out.trans (y.ok.mono HB.out.size))
    clear hc0 hc1 hq0 hq1
    generalize y.val = w5 at *
    go_wp2_with fail
    go_roundw
    case rel => exact ⟨k + 1, by omega, by go_num, HB5⟩
    case measure => simp [intOf]; omega
   ·have hkn' : (n : Int) ≤ k := by omega
    have t1 : decide (k < n) = false := decide_eq_false hkn
    have t2 : decide (n ≤ k) = true := decide_eq_true (by omega)
    have hwR := HWl.out
    have hx : ((R ++ rmarks β 12)[k]'(by have := HLl.out; omega)) = mkR β 1 ((k : Int) - n) := by
     rw [List.getElem_append_right (by omega)]
     simp [rmarks, show ((k - R.length : Nat) : Int) = (k : Int) - n by omega]
    rw [hx] at hc0 hc1
    simp only [mkR] at hc0 hc1
    have HM := Lib.hid (fun y : Later wr => HMb.out y.val 1 ((k : Int) - n) (by decide) (by decide) (by omega) (by omega))
    clear hx hwR
    generalize β 1 ((k : Int) - n) = c at *
    have later : ∀ (p : Addr) (v : Value), wr.cell? p = some v → ∀ y : Later wr, y.val.cell? p = some v := fun p v h y => (y.ok.cell (World.block_lt_of_cell? wr _ h)).trans h
    have hc0 := later _ _ hc0; have hc1 := later _ _ hc1
    clear later
    go_wp2_with fail
    refine wp_region_later (by kernel_rfl) (by kernel_rfl) ?_
    repeat (go_big_quiet_step ((go_at_call 52; exact Calls.later (HM.out _))))
    refine wpQuiet_nil ?_
    intro w5 hw5
    obtain ⟨y, rfl⟩ := hw5
    have HB5 := Lib.hid (HB.out.trans (y.ok.mono HB.out.size))
    clear hc0 hc1 HM
    generalize y.val = w5 at *
    go_wp2_with fail
    go_roundw
    case rel => exact ⟨k + 1, by omega, by go_num, HB5⟩
    case measure => simp [intOf]; omega
  ·have hge : (n : Int) + 12 ≤ k := by omega
   go_wp2_with fail
   go_ret
   exact ⟨rfl, HB.out⟩
end Go.Proofs.YtdnkffplkleolaaGreat
namespace Go.Proofs.YtdnkffplkleolaaGreat
open Go.RowKit
set_option maxRecDepth 100000
set_option maxHeartbeats 2000000

def set9 (w : World) (g : Nat) (x0 x1 x2 x3 x4 x5 x6 x7 x8 : Value) : World := (((((((((w.setCell ⟨g, 0, none⟩ x0).setCell ⟨g, 1, none⟩ x1).setCell ⟨g, 2, none⟩ x2).setCell ⟨g, 3, none⟩ x3).setCell ⟨g, 4, none⟩ x4).setCell ⟨g, 5, none⟩ x5).setCell ⟨g, 6, none⟩ x6).setCell ⟨g, 7, none⟩ x7).setCell ⟨g, 8, none⟩ x8)
theorem set9_fr (w : World) (g : Nat) (x0 x1 x2 x3 x4 x5 x6 x7 x8 : Value) : Fr (fun k => k = g) w (set9 w g x0 x1 x2 x3 x4 x5 x6 x7 x8) := by
 have h0 := Fr.setCell w ⟨g, 0, none⟩ x0
 have h1 := h0.trans (Fr.setCell _ ⟨g, 1, none⟩ x1) (fun _ _ h => h)
 have h2 := h1.trans (Fr.setCell _ ⟨g, 2, none⟩ x2) (fun _ _ h => h)
 have h3 := h2.trans (Fr.setCell _ ⟨g, 3, none⟩ x3) (fun _ _ h => h)
 have h4 := h3.trans (Fr.setCell _ ⟨g, 4, none⟩ x4) (fun _ _ h => h)
 have h5 := h4.trans (Fr.setCell _ ⟨g, 5, none⟩ x5) (fun _ _ h => h)
 have h6 := h5.trans (Fr.setCell _ ⟨g, 6, none⟩ x6) (fun _ _ h => h)
 have h7 := h6.trans (Fr.setCell _ ⟨g, 7, none⟩ x7) (fun _ _ h => h)
 have h8 := h7.trans (Fr.setCell _ ⟨g, 8, none⟩ x8) (fun _ _ h => h)
 exact h8
theorem set9_row {w : World} {g : Nat} {a0 a1 a2 a3 a4 a5 a6 a7 a8 : Value} {t : TypeId} (x0 x1 x2 x3 x4 x5 x6 x7 x8 : Value) (h : hrow w g #[a0, a1, a2, a3, a4, a5, a6, a7, a8] t) : hrow (set9 w g x0 x1 x2 x3 x4 x5 x6 x7 x8) g #[x0, x1, x2, x3, x4, x5, x6, x7, x8] t := by
 have k0 : hrow (w.setCell ⟨g, 0, none⟩ x0) g #[x0, a1, a2, a3, a4, a5, a6, a7, a8] t := heap_setCell_same _ _ _ _ _ _ h.h
 have k1 : hrow ((w.setCell ⟨g, 0, none⟩ x0).setCell ⟨g, 1, none⟩ x1) g #[x0, x1, a2, a3, a4, a5, a6, a7, a8] t := heap_setCell_same _ _ _ _ _ _ k0.h
 have k2 : hrow (((w.setCell ⟨g, 0, none⟩ x0).setCell ⟨g, 1, none⟩ x1).setCell ⟨g, 2, none⟩ x2) g #[x0, x1, x2, a3, a4, a5, a6, a7, a8] t := heap_setCell_same _ _ _ _ _ _ k1.h
 have k3 : hrow ((((w.setCell ⟨g, 0, none⟩ x0).setCell ⟨g, 1, none⟩ x1).setCell ⟨g, 2, none⟩ x2).setCell ⟨g, 3, none⟩ x3) g #[x0, x1, x2, x3, a4, a5, a6, a7, a8] t := heap_setCell_same _ _ _ _ _ _ k2.h
 have k4 : hrow (((((w.setCell ⟨g, 0, none⟩ x0).setCell ⟨g, 1, none⟩ x1).setCell ⟨g, 2, none⟩ x2).setCell ⟨g, 3, none⟩ x3).setCell ⟨g, 4, none⟩ x4) g #[x0, x1, x2, x3, x4, a5, a6, a7, a8] t := heap_setCell_same _ _ _ _ _ _ k3.h
 have k5 : hrow ((((((w.setCell ⟨g, 0, none⟩ x0).setCell ⟨g, 1, none⟩ x1).setCell ⟨g, 2, none⟩ x2).setCell ⟨g, 3, none⟩ x3).setCell ⟨g, 4, none⟩ x4).setCell ⟨g, 5, none⟩ x5) g #[x0, x1, x2, x3, x4, x5, a6, a7, a8] t := heap_setCell_same _ _ _ _ _ _ k4.h
 have k6 : hrow (((((((w.setCell ⟨g, 0, none⟩ x0).setCell ⟨g, 1, none⟩ x1).setCell ⟨g, 2, none⟩ x2).setCell ⟨g, 3, none⟩ x3).setCell ⟨g, 4, none⟩ x4).setCell ⟨g, 5, none⟩ x5).setCell ⟨g, 6, none⟩ x6) g #[x0, x1, x2, x3, x4, x5, x6, a7, a8] t := heap_setCell_same _ _ _ _ _ _ k5.h
 have k7 : hrow ((((((((w.setCell ⟨g, 0, none⟩ x0).setCell ⟨g, 1, none⟩ x1).setCell ⟨g, 2, none⟩ x2).setCell ⟨g, 3, none⟩ x3).setCell ⟨g, 4, none⟩ x4).setCell ⟨g, 5, none⟩ x5).setCell ⟨g, 6, none⟩ x6).setCell ⟨g, 7, none⟩ x7) g #[x0, x1, x2, x3, x4, x5, x6, x7, a8] t := heap_setCell_same _ _ _ _ _ _ k6.h
 have k8 : hrow (((((((((w.setCell ⟨g, 0, none⟩ x0).setCell ⟨g, 1, none⟩ x1).setCell ⟨g, 2, none⟩ x2).setCell ⟨g, 3, none⟩ x3).setCell ⟨g, 4, none⟩ x4).setCell ⟨g, 5, none⟩ x5).setCell ⟨g, 6, none⟩ x6).setCell ⟨g, 7, none⟩ x7).setCell ⟨g, 8, none⟩ x8) g #[x0, x1, x2, x3, x4, x5, x6, x7, x8] t := heap_setCell_same _ _ _ _ _ _ k7.h
 exact k8
def MnC (μ : Int → Int → Int) : Prop := ∀ (w : World) (k i : Int), 0 ≤ k → k ≤ 1000 → 0 ≤ i → i ≤ 10000 →
  Calls Tryz.prog 54 #[.int .i64 k, .int .i64 i] w fun r w' => r = .returned (.agg #[.int .i64 0, .int .u64 0, .int .u64 0, .int .u64 0, .int .u64 0, .string es0, .int .i64 (μ k i), .int .i64 0, .slice none 0 0]) ∧ Below w.heap.size w w'
theorem markNo_all : MnC mkI := by
 intro w k i h0 h1 h2 h3
 have HM := Lib.hid (fun w' => mark_any w' k i h0 h1 h2 h3)
 clear h0 h1 h2 h3
 go_enter Tryz.func54, Tryz.ntmps54
 go_wp2_with (first | (go_at_call 55; refine (HM.out _).mono ?_; rintro e w2 ⟨rfl, rfl⟩))
 exact bodyPost_ret (v := .agg #[.int .i64 0, .int .u64 0, .int .u64 0, .int .u64 0, .int .u64 0, .string es0, .int .i64 (mkI k i), .int .i64 0, .slice none 0 0]) (by simp [results, Tryz.results54, go_sem, es0]) rfl ⟨rfl, (Below.refl _ _).alloc (Nat.le_refl _) _⟩
theorem lentNo_any (β : Int → Int → Int) (HMb : Hid (MiC β)) (w : World) (x : Nd) (ao : Option Addr) (cap : Nat) (hs : Sv w ao x.kids.length cap 1 (inc x.kids)) (hbig : x.kids.length ≤ 100000) :
  Calls Tryz.prog 53 #[.agg #[.int .i64 x.kind, .int .u64 x.c0, .int .u64 x.c1, .int .u64 x.c2, .int .u64 x.c3, .string x.text, .int .i64 x.rule, .int .i64 x.lev, .slice ao x.kids.length cap]] w fun r w' => ∃ g, r = .returned (.agg #[.int .i64 x.kind, .int .u64 x.c0, .int .u64 x.c1, .int .u64 x.c2, .int .u64 x.c3, .string x.text, .int .i64 x.rule, .int .i64 x.lev, .slice (some ⟨g, 0, none⟩) x.kids.length (x.kids.length + 12)]) ∧ hrow w' g (inc (x.kids ++ imarks β 12)).toArray 3 ∧ w.heap.size ≤ g ∧ Below w.heap.size w w' := by
 have HL := Lib.hid (fun w' (hb : Below w.heap.size w w') => lentIn_any β HMb w' ao x.kids.length cap x.kids (hs.below hb) hbig)
 have HB0 := Lib.hid (al2 (Below.refl w.heap.size w) (.cells #[.int .i64 x.kind, .int .u64 x.c0, .int .u64 x.c1, .int .u64 x.c2, .int .u64 x.c3, .string x.text, .int .i64 x.rule, .int .i64 x.lev, .slice ao x.kids.length cap] 55) (.cells #[.int .i64 0, .int .u64 0, .int .u64 0, .int .u64 0, .int .u64 0, .string ⟨#[]⟩, .int .i64 0, .int .i64 0, .slice none 0 0] 55))
 have HA0 := Lib.hid ((hrow.new w #[.int .i64 x.kind, .int .u64 x.c0, .int .u64 x.c1, .int .u64 x.c2, .int .u64 x.c3, .string x.text, .int .i64 x.rule, .int .i64 x.lev, .slice ao x.kids.length cap] 55).below ((Below.refl _ _).alloc (Nat.le_refl _) (.cells #[.int .i64 0, .int .u64 0, .int .u64 0, .int .u64 0, .int .u64 0, .string ⟨#[]⟩, .int .i64 0, .int .i64 0, .slice none 0 0] 55)))
 have HZ0 : Hid (hrow ((w.alloc (.cells #[.int .i64 x.kind, .int .u64 x.c0, .int .u64 x.c1, .int .u64 x.c2, .int .u64 x.c3, .string x.text, .int .i64 x.rule, .int .i64 x.lev, .slice ao x.kids.length cap] 55)).alloc (.cells #[.int .i64 0, .int .u64 0, .int .u64 0, .int .u64 0, .int .u64 0, .string ⟨#[]⟩, .int .i64 0, .int .i64 0, .slice none 0 0] 55)) (w.heap.size + 1) #[.int .i64 0, .int .u64 0, .int .u64 0, .int .u64 0, .int .u64 0, .string ⟨#[]⟩, .int .i64 0, .int .i64 0, .slice none 0 0] 55) := by have h := hrow.new (w.alloc (.cells #[.int .i64 x.kind, .int .u64 x.c0, .int .u64 x.c1, .int .u64 x.c2, .int .u64 x.c3, .string x.text, .int .i64 x.rule, .int .i64 x.lev, .slice ao x.kids.length cap] 55)) #[.int .i64 0, .int .u64 0, .int .u64 0, .int .u64 0, .int .u64 0, .string ⟨#[]⟩, .int .i64 0, .int .i64 0, .slice none 0 0] 55; rwa [World.size_alloc] at h
 have hkb := hs.bound
 clear hs hbig
 go_enter Tryz.func53, Tryz.ntmps53
 go_upto_region 1 with (fail)
 revert HB0 HA0 HZ0
 generalize (w.alloc _).alloc _ = w1
 generalize hh1 : w.heap.size + 1 = h1
 generalize hh0 : w.heap.size = h0
 intro HB0 HA0 HZ0
 have HH : Hid (w.heap.size = h0 ∧ h0 + 1 = h1) := ⟨hh0, by omega⟩
 have hne : h0 ≠ h1 := by omega
 have HB1 : Hid (Below w.heap.size w w1) := by rw [hh0]; exact HB0.out
 clear HB0 hh0 hh1
 have HL1 := Lib.hid (HL.out w1 HB1.out)
 have a8 : w1.cell? ⟨h0, 8, none⟩ = some (.slice ao x.kids.length cap) := HA0.out.cell 8
 clear HL
 go_wp2_with fail
 refine (HL1.out).mono ?_
 rintro e w2 ⟨rfl, hk, hb2⟩
 have hg : w1.heap.size < w2.heap.size := hk.lt
 have HA2 := Lib.hid (HA0.out.below hb2)
 have HZ2 := Lib.hid (HZ0.out.below hb2)
 have HB2 := Lib.hid (HB1.out.trans (hb2.mono HB1.out.size))
 have HK2 := Lib.hid hk
 have HGe : Hid (h1 < w1.heap.size) := HZ0.out.lt
 clear hb2 hk a8 HL1 HA0 HZ0 HB1
 revert HK2 HGe hg
 generalize w1.heap.size = g
 intro hg HK2 HGe
 have b8 : w2.cell? ⟨h0, 8, none⟩ = some (.slice ao x.kids.length cap) := HA2.out.cell 8
 have b8f := HA2.out.frozen 8
 have hf3 := Fr.setCell w2 ⟨h0, 8, none⟩ (.slice (some ⟨g, 0, none⟩) x.kids.length (x.kids.length + 12))
 have HA3 : Hid (hrow (w2.setCell ⟨h0, 8, none⟩ (.slice (some ⟨g, 0, none⟩) x.kids.length (x.kids.length + 12))) h0 #[.int .i64 x.kind, .int .u64 x.c0, .int .u64 x.c1, .int .u64 x.c2, .int .u64 x.c3, .string x.text, .int .i64 x.rule, .int .i64 x.lev, .slice (some ⟨g, 0, none⟩) x.kids.length (x.kids.length + 12)] 55) := heap_setCell_same _ _ _ _ _ _ HA2.out.h
 have HZ3 := Lib.hid (HZ2.out.fr hf3 (fun e => hne e.symm))
 have HK3 := Lib.hid (HK2.out.fr hf3 (fun e => by have e' : g = h0 := e; have h1 := HH.out; have h2 := HGe.out; omega))
 have HB3 := Lib.hid (HB2.out.setCell (p := ⟨h0, 8, none⟩) (by have := HH.out; show w.heap.size ≤ h0; omega) (.slice (some ⟨g, 0, none⟩) x.kids.length (x.kids.length + 12)))
 go_upto_region 2 with (fail)
 clear b8 b8f HA2 HZ2 HB2 HK2 hf3
 revert HA3 HZ3 HK3 HB3
 generalize w2.setCell _ _ = w3
 intro HA3 HZ3 HK3 HB3
 obtain ⟨a0, a1, a2, a3, a4, a5, a6, a7, a8⟩ := (HA3.out).c9
 obtain ⟨zq0, zq1, zq2, zq3, zq4, zq5, zq6, zq7, zq8⟩ := (HZ3.out).c9
 obtain ⟨zf0, zf1, zf2, zf3, zf4, zf5, zf6, zf7, zf8⟩ := (HZ3.out).f9
 have zr := set9_row (.int .i64 x.kind) (.int .u64 x.c0) (.int .u64 x.c1) (.int .u64 x.c2) (.int .u64 x.c3) (.string x.text) (.int .i64 x.rule) (.int .i64 x.lev) (.slice (some ⟨g, 0, none⟩) x.kids.length (x.kids.length + 12)) HZ3.out
 have zf := set9_fr w3 h1 (.int .i64 x.kind) (.int .u64 x.c0) (.int .u64 x.c1) (.int .u64 x.c2) (.int .u64 x.c3) (.string x.text) (.int .i64 x.rule) (.int .i64 x.lev) (.slice (some ⟨g, 0, none⟩) x.kids.length (x.kids.length + 12))
 unfold set9 at zr zf
 have ZR := Lib.hid zr
 have ZF := Lib.hid zf
 clear zr zf
 go_wp2_with fail
 revert ZR ZF
 generalize ((((((((w3.setCell _ _).setCell _ _).setCell _ _).setCell _ _).setCell _ _).setCell _ _).setCell _ _).setCell _ _).setCell _ _ = wz
 intro ZR ZF
 obtain ⟨zc0, zc1, zc2, zc3, zc4, zc5, zc6, zc7, zc8⟩ := (ZR.out).c9
 exact bodyPost_ret (v := .agg #[.int .i64 x.kind, .int .u64 x.c0, .int .u64 x.c1, .int .u64 x.c2, .int .u64 x.c3, .string x.text, .int .i64 x.rule, .int .i64 x.lev, .slice (some ⟨g, 0, none⟩) x.kids.length (x.kids.length + 12)]) (by simp [results, Tryz.results53, go_sem, zc0, zc1, zc2, zc3, zc4, zc5, zc6, zc7, zc8]) rfl ⟨g, rfl, HK3.out.fr ZF.out (fun e => by have e' : g = h1 := e; have := HGe.out; omega), by have h1 := HH.out; have h2 := HGe.out; omega, HB3.out.trans (ZF.out.below HB3.out.size (fun k hk e => by have e' : k = h1 := e; have := HH.out; omega))⟩
end Go.Proofs.YtdnkffplkleolaaGreat
namespace Go.Proofs.YtdnkffplkleolaaGreat
open Go.RowKit
set_option maxRecDepth 100000
set_option maxHeartbeats 1000000

theorem str_eq {a b : ByteArray} : a.toList = b.toList ↔ a = b := by
 rw [Lib.toList_data, Lib.toList_data]
 constructor
 ·intro h
  cases a; cases b
  simp only [ByteArray.mk.injEq]
  exact Array.toList_inj.1 h
 ·rintro rfl; rfl
theorem str_beq (a b : ByteArray) : (a.toList == b.toList) = decide (a = b) := by
 rw [Bool.eq_iff_iff]; simp [str_eq]

theorem ruleE_any (w : World) (nm : ByteArray) (b : Int) (p : Addr) (s : ByteArray) (hp : w.cell? p = some (.string s)) :
  Calls Tryz.prog 118 #[.agg #[.string nm, .int .i64 b], .pointer (some p)] w fun e w' => e = .returned (.bool (decide (nm = s))) ∧ Below w.heap.size w w' := by
 have hlt := World.block_lt_of_cell? w _ hp
 have hp2 : (w.alloc (.cells #[.string nm, .int .i64 b] 112)).cell? p = some (.string s) := (((Below.refl w.heap.size w).alloc (Nat.le_refl _) _).cell hlt).trans hp
 go_enter Tryz.func118, Tryz.ntmps118
 go_wp2_with fail
 go_ret
 exact ⟨ret_bool (str_beq _ _), (Below.refl _ _).alloc (Nat.le_refl _) _⟩

/-- The rule's place, from one on. -/
theorem ruleIx_drop (s : ByteArray) : ∀ (k : Nat) (l : List Ru), l.length = k → (∀ i, (h : i < l.length) → (l[i]'h).name ≠ s) → ∀ r, ruleIx (l ++ r) s = if ruleIx r s < 0 then -1 else ruleIx r s + k := by
 intro k
 induction k with
 | zero =>
  intro l hl _ r
  have : l = [] := List.eq_nil_of_length_eq_zero hl
  subst this
  simp only [List.nil_append]
  have hneg : ∀ r : List Ru, ruleIx r s < 0 → ruleIx r s = -1 := by
   intro r
   cases r with
   | nil => intro _; rfl
   | cons x xs =>
    intro h
    simp only [ruleIx] at h ⊢
    by_cases hx : x.name = s
    ·rw [if_pos hx] at h; omega
    ·rw [if_neg hx] at h ⊢
     by_cases h2 : ruleIx xs s < 0
     ·rw [if_pos h2]
     ·rw [if_neg h2] at h; omega
  by_cases h : ruleIx r s < 0
  ·rw [if_pos h, hneg r h]
  ·rw [if_neg h]; omega
 | succ k ih =>
  intro l hl hn r
  cases l with
  | nil => simp at hl
  | cons x xs =>
   have hx : x.name ≠ s := hn 0 (by simp)
   have := ih xs (by simpa using hl) (fun i h => by have := hn (i + 1) (by simpa using h); simpa using this) r
   simp only [List.cons_append, ruleIx, if_neg hx, this]
   by_cases h : ruleIx r s < 0
   ·rw [if_pos h]; simp; intro; omega
   ·rw [if_neg h, if_neg h, if_neg (by omega)]; omega
theorem ruleIx_found {l : List Ru} {s : ByteArray} {k : Nat} (hk : k < l.length) (he : (l[k]'hk).name = s) (hn : ∀ i, (h : i < k) → (l[i]'(by omega)).name ≠ s) : ruleIx l s = k := by
 have h := ruleIx_drop s k (l.take k) (by simp; omega) (fun i h => by
  have hi : i < k := by simp at h; omega
  rw [List.getElem_take]
  exact hn i hi) (l.drop k)
 rw [List.take_append_drop] at h
 rw [h, List.drop_eq_getElem_cons hk]
 simp only [ruleIx, if_pos he]
 simp
theorem ruleIx_none {l : List Ru} {s : ByteArray} (hn : ∀ i, (h : i < l.length) → (l[i]'h).name ≠ s) : ruleIx l s = -1 := by
 have h := ruleIx_drop s l.length l rfl hn []
 rw [List.append_nil] at h
 rw [h]; rfl

theorem indexR_any (w : World) (ro : Option Addr) (rn rc : Nat) (l : List Ru) (hr : Sv w ro rn rc 2 (l.flatMap ruc)) (p : Addr) (s : ByteArray) (hp : w.cell? p = some (.string s)) :
  Calls Tryz.prog 117 #[.slice ro rn rc, .func (.func 118) #[] #[.pointer (some p)]] w fun e w' => e = .returned (.int .i64 (ruleIx l s)) ∧ Below w.heap.size w w' := by
 obtain ⟨b1, b2⟩ := hr.bound
 have hl := hr.n_eq ruc_len (by decide)
 have HR := Lib.hid hr
 have HL := Lib.hid hl
 have hlt := World.block_lt_of_cell? w _ hp
 have HP := Lib.hid hp
 clear hr hl hp
 go_enter Tryz.func117, Tryz.ntmps117
 go_wp2_with fail
 go_loopw [8] (fun i wr => ∃ k : Nat, k ≤ rn ∧ i = .int .i64 k ∧ Hid (Below w.heap.size w wr ∧ ∀ i, (h : i < k) → (h' : i < l.length) → (l[i]'h').name ≠ s)) (fun i _ => rn - (intOf i).toNat)
 case atStart => exact ⟨0, by omega, rfl, Below.refl _ _, fun i h => absurd h (by omega)⟩
 case round =>
  obtain ⟨k, hk, rfl, HI⟩ := hrel
  by_cases hlt2 : k < rn
  ·have hk' : (k : Int) < rn := by omega
   have hkl : k < l.length := by have := HL.out; omega
   obtain ⟨ra, rfl, hc⟩ := Sv.at ruc_len (HR.out.below HI.out.1) (by decide) k hkl
   have c0 : wr.cell? (ra.add (k * 2)) = some (.string (l[k]'hkl).name) := hc 0 _ rfl
   have c1 : wr.cell? ⟨(ra.add (k * 2)).block, (ra.add (k * 2)).off + 1, none⟩ = some (.int .i64 (l[k]'hkl).body) := by
    have := hc 1 _ rfl
    rw [add_off _ _ _ (by decide)] at this
    exact this
   have hpw : wr.cell? p = some (.string s) := (HI.out.1.cell hlt).trans HP.out
   have HE := Lib.hid (fun (h : (l[k]'hkl).name = s) => ruleIx_found hkl h (fun i hi => HI.out.2 i hi (by omega)))
   have HN := Lib.hid (fun (h : (l[k]'hkl).name ≠ s) => (fun i hi h' => by
    by_cases e : i = k
    ·subst e; exact h
    ·exact HI.out.2 i (by omega) h' : ∀ i, (h : i < k + 1) → (h' : i < l.length) → (l[i]'h').name ≠ s))
   clear hc
   generalize l[k]'hkl = r at *
   obtain ⟨nm, b⟩ := r
   simp only [] at c0 c1 HE HN
   by_cases he : nm = s
   ·have HRes := Lib.hid (HE.out he)
    have hdec : decide (nm = s) = true := by simpa using he
    have HDec := Lib.hid hdec
    clear hdec HE HN he
    go_wp2_with fail
    refine (ruleE_any wr nm b p s hpw).mono ?_
    rintro e w3 ⟨rfl, hb3⟩
    have HB3 := Lib.hid (HI.out.1.trans (hb3.mono HI.out.1.size))
    rw [HDec.out]
    clear hb3
    go_wp2_with fail
    go_ret
    exact ⟨ret_int HRes.out.symm, HB3.out⟩
   ·have HRes := Lib.hid (HN.out he)
    have hdec : decide (nm = s) = false := by simpa using he
    have HDec := Lib.hid hdec
    clear hdec HE HN he
    go_wp2_with fail
    refine (ruleE_any wr nm b p s hpw).mono ?_
    rintro e w3 ⟨rfl, hb3⟩
    have HB3 := Lib.hid (HI.out.1.trans (hb3.mono HI.out.1.size))
    rw [HDec.out]
    clear hb3
    go_wp2_with fail
    go_roundw
    case rel => exact ⟨k + 1, by omega, by go_num, HB3.out, HRes.out⟩
    case measure => simp [intOf]; omega
  ·have hge : (rn : Int) ≤ k := by omega
   have HRes := Lib.hid (ruleIx_none (fun i h => HI.out.2 i (by have := HL.out; omega) h))
   go_wp2_with fail
   go_ret
   exact ⟨ret_int HRes.out.symm, HI.out.1⟩

theorem rule_any (w : World) (ro : Option Addr) (rn rc : Nat) (v : Value) (l : List Ru) (hr : Sv w ro rn rc 2 (l.flatMap ruc)) (s : ByteArray) (no : Option Addr) (nn nc : Nat) (hv : v = .slice no nn nc) :
  Calls Tryz.prog 106 #[.agg #[.slice ro rn rc, v], .string s] w fun e w' => e = .returned (.int .i64 (ruleIx l s)) ∧ Below w.heap.size w w' := by
 subst hv
 have HB := Lib.hid (al2 (Below.refl w.heap.size w) (.cells #[.slice ro rn rc, .slice no nn nc] 25) (.cells #[.string s] 9))
 have hc : ((w.alloc (.cells #[.slice ro rn rc, .slice no nn nc] 25)).alloc (.cells #[.string s] 9)).cell? ⟨w.heap.size + 1, 0, none⟩ = some (.string s) := by
  have := (hrow.new (w.alloc (.cells #[.slice ro rn rc, .slice no nn nc] 25)) #[.string s] 9).cell 0
  rw [World.size_alloc] at this
  exact this
 have HC := Lib.hid hc
 have HR := Lib.hid (hr.below HB.out)
 clear hr hc
 go_enter Tryz.func106, Tryz.ntmps106
 go_wp2_with fail
 refine (indexR_any _ ro rn rc l HR.out _ s HC.out).mono ?_
 rintro e w2 ⟨rfl, hb⟩
 have HB2 := Lib.hid (HB.out.trans (hb.mono HB.out.size))
 clear hb
 go_wp2_with fail
 go_ret
 exact ⟨rfl, HB2.out⟩
end Go.Proofs.YtdnkffplkleolaaGreat
namespace Go.Proofs.YtdnkffplkleolaaGreat
open Go.RowKit
set_option maxRecDepth 100000
set_option maxHeartbeats 2000000

theorem sameNo_any (w : World) (x : Nd) (ao bo : Option Addr) (ac bc : Nat) (ha : Sv w ao x.kids.length ac 1 (inc x.kids)) (hb : Sv w bo x.kids.length bc 1 (inc x.kids)) :
  Calls Tryz.prog 62 #[.agg #[.int .i64 x.kind, .int .u64 x.c0, .int .u64 x.c1, .int .u64 x.c2, .int .u64 x.c3, .string x.text, .int .i64 x.rule, .int .i64 x.lev, .slice ao x.kids.length ac], .agg #[.int .i64 x.kind, .int .u64 x.c0, .int .u64 x.c1, .int .u64 x.c2, .int .u64 x.c3, .string x.text, .int .i64 x.rule, .int .i64 x.lev, .slice bo x.kids.length bc]] w fun r w' => r = .returned (.bool true) ∧ Below w.heap.size w w' := by
 have HS := Lib.hid (fun w' (hw : Below w.heap.size w w') => sameIn_any w' ao bo x.kids.length ac bc x.kids (ha.below hw) (hb.below hw))
 have HB0 := Lib.hid (al2 (Below.refl w.heap.size w) (.cells #[.int .i64 x.kind, .int .u64 x.c0, .int .u64 x.c1, .int .u64 x.c2, .int .u64 x.c3, .string x.text, .int .i64 x.rule, .int .i64 x.lev, .slice ao x.kids.length ac] 55) (.cells #[.int .i64 x.kind, .int .u64 x.c0, .int .u64 x.c1, .int .u64 x.c2, .int .u64 x.c3, .string x.text, .int .i64 x.rule, .int .i64 x.lev, .slice bo x.kids.length bc] 55))
 have HA0 := Lib.hid ((hrow.new w #[.int .i64 x.kind, .int .u64 x.c0, .int .u64 x.c1, .int .u64 x.c2, .int .u64 x.c3, .string x.text, .int .i64 x.rule, .int .i64 x.lev, .slice ao x.kids.length ac] 55).below ((Below.refl _ _).alloc (Nat.le_refl _) (.cells #[.int .i64 x.kind, .int .u64 x.c0, .int .u64 x.c1, .int .u64 x.c2, .int .u64 x.c3, .string x.text, .int .i64 x.rule, .int .i64 x.lev, .slice bo x.kids.length bc] 55)))
 have HZ0 : Hid (hrow ((w.alloc (.cells #[.int .i64 x.kind, .int .u64 x.c0, .int .u64 x.c1, .int .u64 x.c2, .int .u64 x.c3, .string x.text, .int .i64 x.rule, .int .i64 x.lev, .slice ao x.kids.length ac] 55)).alloc (.cells #[.int .i64 x.kind, .int .u64 x.c0, .int .u64 x.c1, .int .u64 x.c2, .int .u64 x.c3, .string x.text, .int .i64 x.rule, .int .i64 x.lev, .slice bo x.kids.length bc] 55)) (w.heap.size + 1) #[.int .i64 x.kind, .int .u64 x.c0, .int .u64 x.c1, .int .u64 x.c2, .int .u64 x.c3, .string x.text, .int .i64 x.rule, .int .i64 x.lev, .slice bo x.kids.length bc] 55) := by have h := hrow.new (w.alloc (.cells #[.int .i64 x.kind, .int .u64 x.c0, .int .u64 x.c1, .int .u64 x.c2, .int .u64 x.c3, .string x.text, .int .i64 x.rule, .int .i64 x.lev, .slice ao x.kids.length ac] 55)) #[.int .i64 x.kind, .int .u64 x.c0, .int .u64 x.c1, .int .u64 x.c2, .int .u64 x.c3, .string x.text, .int .i64 x.rule, .int .i64 x.lev, .slice bo x.kids.length bc] 55; rwa [World.size_alloc] at h
 clear ha hb
 go_enter Tryz.func62, Tryz.ntmps62
 go_upto_region 1 with (fail)
 revert HB0 HA0 HZ0
 generalize (w.alloc _).alloc _ = w1
 generalize hh : w.heap.size + 1 = h1
 intro HB0 HA0 HZ0
 have HS1 := Lib.hid (HS.out w1 HB0.out)
 obtain ⟨a0, a1, a2, a3, a4, a5, a6, a7, a8⟩ := (HA0.out).c9
 obtain ⟨b0, b1, b2, b3, b4, b5, b6, b7, b8⟩ := (HZ0.out).c9
 obtain ⟨kind, c0, c1, c2, c3, text, rule, lev, kids⟩ := x
 simp only [] at a0 a1 a2 a3 a4 a5 a6 a7 a8 b0 b1 b2 b3 b4 b5 b6 b7 b8 HS1
 have hce : ∀ w : World, (Op.equalIn 10000 53 (.agg #[.int .u64 c0, .int .u64 c1, .int .u64 c2, .int .u64 c3]) (.agg #[.int .u64 c0, .int .u64 c1, .int .u64 c2, .int .u64 c3])).run Tryz.prog w = .ok true w := fun w => by rw [cls_eq]; simp
 have he1 : (kind == kind) = true := by simp
 have he2 : (text.toList == text.toList) = true := by simp
 have he3 : (rule == rule) = true := by simp
 have he4 : (lev == lev) = true := by simp
 go_wp2_with fail
 refine (HS1.out).mono ?_
 rintro e w2 ⟨rfl, hb2⟩
 have HB2 := Lib.hid (HB0.out.trans (hb2.mono HB0.out.size))
 clear hb2
 go_wp2_with fail
 go_ret
 exact ⟨rfl, HB2.out⟩
theorem Sv.of_pre {w : World} {g : Nat} {t : TypeId} {xs ys : List Value} (h : hrow w g (xs ++ ys).toArray t) (n cap size : Nat) (hl : xs.length = n * size) (hc : n ≤ cap) (hm : cap ≤ maxLen) : Sv w (some ⟨g, 0, none⟩) n cap size xs :=
 ⟨hl, hc, hm, fun h => by simp at h, fun j hj => ⟨_, rfl, by
  have e : (⟨g, 0, none⟩ : Addr).add j = ⟨g, j, none⟩ := by unfold Addr.add; by_cases hz : j = 0 <;> simp [hz]
  rw [e, h.cell, List.getElem?_toArray, List.getElem?_append_left hj]⟩⟩

theorem keptNo_any (β : Int → Int → Int) (HMb : Hid (MiC β)) (w : World) (x : Nd) (g : Nat) (bo : Option Addr) (bc : Nat) (ha : hrow w g (inc (x.kids ++ imarks β 12)).toArray 3) (hb : Sv w bo x.kids.length bc 1 (inc x.kids)) (hbig : x.kids.length ≤ 5000) :
  Calls Tryz.prog 61 #[.agg #[.int .i64 x.kind, .int .u64 x.c0, .int .u64 x.c1, .int .u64 x.c2, .int .u64 x.c3, .string x.text, .int .i64 x.rule, .int .i64 x.lev, .slice (some ⟨g, 0, none⟩) x.kids.length (x.kids.length + 12)], .agg #[.int .i64 x.kind, .int .u64 x.c0, .int .u64 x.c1, .int .u64 x.c2, .int .u64 x.c3, .string x.text, .int .i64 x.rule, .int .i64 x.lev, .slice bo x.kids.length bc]] w fun r w' => r = .returned (.bool true) ∧ Below w.heap.size w w' := by
 have e0 : inc x.kids ++ inc (imarks β 12) = inc (x.kids ++ imarks β 12) := by simp [inc]
 have hsa : Sv w (some ⟨g, 0, none⟩) x.kids.length (x.kids.length + 12) 1 (inc x.kids) := Sv.of_pre (ys := inc (imarks β 12)) (by rw [e0]; exact ha) _ _ _ (by simp [inc]) (by omega) (by simp only [maxLen]; omega)
 clear e0
 have HS := Lib.hid (fun w' (hw : Below w.heap.size w w') => sameNo_any w' x _ bo _ bc (hsa.below hw) (hb.below hw))
 have HK := Lib.hid (fun w' (hw : Below w.heap.size w w') => keptIn_any β HMb w' g bo x.kids.length bc x.kids (ha.below hw) (hb.below hw) hbig)
 have HB0 := Lib.hid (al2 (Below.refl w.heap.size w) (.cells #[.int .i64 x.kind, .int .u64 x.c0, .int .u64 x.c1, .int .u64 x.c2, .int .u64 x.c3, .string x.text, .int .i64 x.rule, .int .i64 x.lev, .slice (some ⟨g, 0, none⟩) x.kids.length (x.kids.length + 12)] 55) (.cells #[.int .i64 x.kind, .int .u64 x.c0, .int .u64 x.c1, .int .u64 x.c2, .int .u64 x.c3, .string x.text, .int .i64 x.rule, .int .i64 x.lev, .slice bo x.kids.length bc] 55))
 have HA0 := Lib.hid ((hrow.new w #[.int .i64 x.kind, .int .u64 x.c0, .int .u64 x.c1, .int .u64 x.c2, .int .u64 x.c3, .string x.text, .int .i64 x.rule, .int .i64 x.lev, .slice (some ⟨g, 0, none⟩) x.kids.length (x.kids.length + 12)] 55).below ((Below.refl _ _).alloc (Nat.le_refl _) (.cells #[.int .i64 x.kind, .int .u64 x.c0, .int .u64 x.c1, .int .u64 x.c2, .int .u64 x.c3, .string x.text, .int .i64 x.rule, .int .i64 x.lev, .slice bo x.kids.length bc] 55)))
 have HZ0 : Hid (hrow ((w.alloc (.cells #[.int .i64 x.kind, .int .u64 x.c0, .int .u64 x.c1, .int .u64 x.c2, .int .u64 x.c3, .string x.text, .int .i64 x.rule, .int .i64 x.lev, .slice (some ⟨g, 0, none⟩) x.kids.length (x.kids.length + 12)] 55)).alloc (.cells #[.int .i64 x.kind, .int .u64 x.c0, .int .u64 x.c1, .int .u64 x.c2, .int .u64 x.c3, .string x.text, .int .i64 x.rule, .int .i64 x.lev, .slice bo x.kids.length bc] 55)) (w.heap.size + 1) #[.int .i64 x.kind, .int .u64 x.c0, .int .u64 x.c1, .int .u64 x.c2, .int .u64 x.c3, .string x.text, .int .i64 x.rule, .int .i64 x.lev, .slice bo x.kids.length bc] 55) := by have h := hrow.new (w.alloc (.cells #[.int .i64 x.kind, .int .u64 x.c0, .int .u64 x.c1, .int .u64 x.c2, .int .u64 x.c3, .string x.text, .int .i64 x.rule, .int .i64 x.lev, .slice (some ⟨g, 0, none⟩) x.kids.length (x.kids.length + 12)] 55)) #[.int .i64 x.kind, .int .u64 x.c0, .int .u64 x.c1, .int .u64 x.c2, .int .u64 x.c3, .string x.text, .int .i64 x.rule, .int .i64 x.lev, .slice bo x.kids.length bc] 55; rwa [World.size_alloc] at h
 clear ha hb hsa
 go_enter Tryz.func61, Tryz.ntmps61
 go_upto_region 1 with (fail)
 revert HB0 HA0 HZ0
 generalize (w.alloc _).alloc _ = w1
 generalize hh : w.heap.size + 1 = h1
 intro HB0 HA0 HZ0
 have HS1 := Lib.hid (HS.out w1 HB0.out)
 obtain ⟨a0, a1, a2, a3, a4, a5, a6, a7, a8⟩ := (HA0.out).c9
 obtain ⟨b0, b1, b2, b3, b4, b5, b6, b7, b8⟩ := (HZ0.out).c9
 go_wp2_with fail
 refine (HS1.out).mono ?_
 rintro e w2 ⟨rfl, hb2⟩
 have HA2 := Lib.hid (HA0.out.below hb2)
 have HZ2 := Lib.hid (HZ0.out.below hb2)
 have HB2 := Lib.hid (HB0.out.trans (hb2.mono HB0.out.size))
 have HK2 := Lib.hid (HK.out w2 HB2.out)
 clear hb2 a0 a1 a2 a3 a4 a5 a6 a7 a8 b0 b1 b2 b3 b4 b5 b6 b7 b8
 have a8 : w2.cell? ⟨w.heap.size, 8, none⟩ = some (.slice (some ⟨g, 0, none⟩) x.kids.length (x.kids.length + 12)) := (HA2.out).cell 8
 have b8 : w2.cell? ⟨h1, 8, none⟩ = some (.slice bo x.kids.length bc) := (HZ2.out).cell 8
 go_wp2_with fail
 refine (HK2.out).mono ?_
 rintro e w3 ⟨rfl, hb3⟩
 have HB3 := Lib.hid (HB2.out.trans (hb3.mono HB2.out.size))
 clear hb3
 go_wp2_with fail
 go_ret
 exact ⟨rfl, HB3.out⟩
end Go.Proofs.YtdnkffplkleolaaGreat
namespace Go.Proofs.YtdnkffplkleolaaGreat
open Go.RowKit
set_option maxRecDepth 100000
set_option maxHeartbeats 2000000

theorem Sv.nd9 {w : World} {ao : Option Addr} {n cap : Nat} {t : List (Nd × (Option Addr × Nat))} (h : Sv w ao n cap 9 (t.flatMap ndc)) {k : Nat} (hk : k < t.length) :
  ∃ a, ao = some a ∧ w.cell? (a.add (k * 9)) = some (.int .i64 t[k].1.kind) ∧ w.cell? ⟨(a.add (k * 9)).block, (a.add (k * 9)).off + 1, none⟩ = some (.int .u64 t[k].1.c0) ∧ w.cell? ⟨(a.add (k * 9)).block, (a.add (k * 9)).off + 2, none⟩ = some (.int .u64 t[k].1.c1) ∧ w.cell? ⟨(a.add (k * 9)).block, (a.add (k * 9)).off + 3, none⟩ = some (.int .u64 t[k].1.c2) ∧ w.cell? ⟨(a.add (k * 9)).block, (a.add (k * 9)).off + 4, none⟩ = some (.int .u64 t[k].1.c3) ∧ w.cell? ⟨(a.add (k * 9)).block, (a.add (k * 9)).off + 5, none⟩ = some (.string t[k].1.text) ∧ w.cell? ⟨(a.add (k * 9)).block, (a.add (k * 9)).off + 6, none⟩ = some (.int .i64 t[k].1.rule) ∧ w.cell? ⟨(a.add (k * 9)).block, (a.add (k * 9)).off + 7, none⟩ = some (.int .i64 t[k].1.lev) ∧ w.cell? ⟨(a.add (k * 9)).block, (a.add (k * 9)).off + 8, none⟩ = some (.slice t[k].2.1 t[k].1.kids.length t[k].2.2) := by
 obtain ⟨a, ha, hc⟩ := h.at ndc_len (by decide) k hk
 refine ⟨a, ha, hc 0 _ rfl, ?_, ?_, ?_, ?_, ?_, ?_, ?_, ?_⟩
 ·have := hc 1 _ rfl; rw [add_off _ _ _ (by decide)] at this; exact this
 ·have := hc 2 _ rfl; rw [add_off _ _ _ (by decide)] at this; exact this
 ·have := hc 3 _ rfl; rw [add_off _ _ _ (by decide)] at this; exact this
 ·have := hc 4 _ rfl; rw [add_off _ _ _ (by decide)] at this; exact this
 ·have := hc 5 _ rfl; rw [add_off _ _ _ (by decide)] at this; exact this
 ·have := hc 6 _ rfl; rw [add_off _ _ _ (by decide)] at this; exact this
 ·have := hc 7 _ rfl; rw [add_off _ _ _ (by decide)] at this; exact this
 ·have := hc 8 _ rfl; rw [add_off _ _ _ (by decide)] at this; exact this

def mkN (μ : Int → Int → Int) (k i : Int) : Nd × (Option Addr × Nat) := (⟨0, 0, 0, 0, 0, es0, μ k i, 0, []⟩, (none, 0))
def nmarks (β : Int → Int → Int) (k : Nat) : List (Nd × (Option Addr × Nat)) := (List.range k).map fun i : Nat => mkN β 1 (i : Int)
theorem nmarks_len (β : Int → Int → Int) (k : Nat) : (nmarks β k).length = k := by simp [nmarks]
theorem nmarks_succ (β : Int → Int → Int) (k : Nat) : nmarks β (k + 1) = nmarks β k ++ [mkN β 1 (k : Int)] := by simp [nmarks, List.range_succ]
theorem ndc_one (t : List (Nd × (Option Addr × Nat))) : ∀ u ∈ t.flatMap ndc, u.oneCell' = true := by
 intro u hu
 simp only [List.mem_flatMap, ndc] at hu
 obtain ⟨x, _, hx⟩ := hu
 simp at hx
 rcases hx with rfl | rfl | rfl | rfl | rfl | rfl | rfl | rfl | rfl <;> rfl
theorem infoNo : (Tryz.prog.info? 55).map (fun i => (i.zero, i.size, i.bytes)) = some (some (.agg #[.int .i64 0, .int .u64 0, .int .u64 0, .int .u64 0, .int .u64 0, .string es0, .int .i64 0, .int .i64 0, .slice none 0 0]), 9, 96) := by kernel_rfl
/-- Each node's kids are lent: a fresh row, marks behind it. -/
structure Lt (β : Int → Int → Int) (B : Nat) (w : World) (NK NL : List (Nd × (Option Addr × Nat))) : Prop where
 eq : NL.map (·.1) = NK.map (·.1)
 row : ∀ p ∈ NL, ∃ g, B < g ∧ p.2 = (some ⟨g, 0, none⟩, p.1.kids.length + 12) ∧ hrow w g (inc (p.1.kids ++ imarks β 12)).toArray 3
theorem Lt.below {β : Int → Int → Int} {B : Nat} {w w' : World} {NK NL : List (Nd × (Option Addr × Nat))} (h : Lt β B w NK NL) (hb : Below w.heap.size w w') : Lt β B w' NK NL :=
 ⟨h.eq, fun p hp => by obtain ⟨g, h1, h2, h3⟩ := h.row p hp; exact ⟨g, h1, h2, h3.below hb⟩⟩
theorem Lt.fr {β : Int → Int → Int} {B : Nat} {w w' : World} {NK NL : List (Nd × (Option Addr × Nat))} (h : Lt β B w NK NL) (hf : Fr (fun k => k = B) w w') : Lt β B w' NK NL :=
 ⟨h.eq, fun p hp => by obtain ⟨g, h1, h2, h3⟩ := h.row p hp; exact ⟨g, h1, h2, h3.fr hf (fun e => by have e' : g = B := e; omega)⟩⟩
theorem Lt.snoc {β : Int → Int → Int} {B : Nat} {w : World} {NK NL : List (Nd × (Option Addr × Nat))} (h : Lt β B w NK NL) (x : Nd) (q : Option Addr × Nat) (g : Nat) (hg : B < g) (hr : hrow w g (inc (x.kids ++ imarks β 12)).toArray 3) : Lt β B w (NK ++ [(x, q)]) (NL ++ [(x, (some ⟨g, 0, none⟩, x.kids.length + 12))]) :=
 ⟨by simp [h.eq], fun p hp => by
  rcases List.mem_append.1 hp with hp | hp
  ·exact h.row p hp
  ·simp only [List.mem_singleton] at hp; subst hp; exact ⟨g, hg, rfl, hr⟩⟩

theorem lentNs_any (β : Int → Int → Int) (HMb : Hid (MiC β)) (HMn : Hid (MnC β)) (w : World) (ao : Option Addr) (n cap : Nat) (NK : List (Nd × (Option Addr × Nat))) (hs : NdW w ao n cap NK) (hbig : n ≤ 100000) (hkb : ∀ p ∈ NK, p.1.kids.length ≤ 100000) :
  Calls Tryz.prog 29 #[.slice ao n cap] w fun r w' => r = .returned (.slice (some ⟨w.heap.size, 0, none⟩) n (n + 12)) ∧ (∃ NL, hrow w' w.heap.size ((NL ++ nmarks β 12).flatMap ndc).toArray 55 ∧ Lt β w.heap.size w' NK NL) ∧ Below w.heap.size w w' := by
 obtain ⟨h1, h2⟩ := hs.sv.bound
 have hwl := hs.sv.n_eq ndc_len (by decide)
 have HSl := Lib.hid hs; have HWl := Lib.hid hwl; have HKb := Lib.hid hkb; clear hs hwl hkb
 obtain ⟨i0, hi, hz0, hz1, hz2⟩ := info_parts infoNo
 have Hi := Lib.hid hi; have Hz0 := Lib.hid hz0; have Hz1 := Lib.hid hz1; have Hz2 := Lib.hid hz2
 clear hi hz0 hz1 hz2
 have e12 : ((n : Int) + 12) = ((n + 12 : Nat) : Int) := by omega
 have HE := Lib.hid e12; clear e12
 have HBy := Lib.hid (show i0.bytes * (n + 12) ≤ 281474976710656 by rw [Hz2.out]; omega)
 go_enter Tryz.func29, Tryz.ntmps29
 go_wp2_with (at_make; refine wpList_make_own _ rfl _ _ 23 rfl w.heap.size 55 i0 _ 9 Tryz.underlying23 Hi.out Hz0.out Hz1.out _ _ _ (n + 12) rfl rfl HE.out HBy.out (by unfold maxLen; omega) (Nat.le_refl _) ?_; intro w1 hown1 hg1; have HO1 := Lib.hid hown1; have HB1 := Lib.hid (((Below.refl w.heap.size w).grown hg1 (Nat.le_refl _) (by simp))); clear hown1 hg1)
 go_loopw [3, 4] (fun v i wr => ∃ k : Nat, k ≤ n ∧ i = .int .i64 k ∧ v = .slice (some ⟨w.heap.size, 0, none⟩) k (n + 12) ∧
   Hid (∃ NL, wr.ownsRow w.heap.size 55 9 (.slice (some ⟨w.heap.size, 0, none⟩) k (n + 12)) k (NL.flatMap ndc) ∧ Lt β w.heap.size wr (NK.take k) NL ∧ Below w.heap.size w wr)) (fun _ i _ => n - (intOf i).toNat)
 case atStart => exact ⟨0, by omega, rfl, rfl, [], by simpa using HO1.out, ⟨by simp, by simp⟩, HB1.out⟩
 case round =>
  obtain ⟨k, hk, rfl, rfl, hI⟩ := hrel
  by_cases hlt : k < n
  ·have hlt' : (k : Int) < n := by omega
   have hkl : k < NK.length := by have := HWl.out; omega
   obtain ⟨NL, hO, hL, hB⟩ := hI.out
   have HO := Lib.hid hO; have HL := Lib.hid hL; have HB := Lib.hid hB
   clear hI hO hL hB
   have HTk := Lib.hid (show NK.take (k + 1) = NK.take k ++ [NK[k]] from List.take_succ_eq_append_getElem hkl)
   have HSk := Lib.hid (HSl.out.below HB.out)
   have HCk := Lib.hid (lentNo_any β HMb wr NK[k].1 NK[k].2.1 NK[k].2.2 (HSk.out.kids _ (List.getElem_mem hkl)) (HKb.out _ (List.getElem_mem hkl)))
   obtain ⟨a, rfl, a0, a1, a2, a3, a4, a5, a6, a7, a8⟩ := HSk.out.sv.nd9 hkl
   clear HSk
   generalize NK[k] = p at *
   obtain ⟨x, ko, kc⟩ := p
   simp only [] at a0 a1 a2 a3 a4 a5 a6 a7 a8 HCk
   clear hkl
   have HX : Hid (w.heap.size < wr.heap.size) := by
    rcases HO.out.2 with ⟨h, _⟩ | ⟨g', c, cur, h, _, hh, _⟩
    ·cases h
    ·cases h; exact lt_block hh
   go_wp2_with fail
   refine (HCk.out).mono ?_
   rintro e w2 ⟨g, rfl, hkr, hge, hb2⟩
   have HKr := Lib.hid hkr
   have HO2 := Lib.hid (owns_fr HO.out (Fr.of_below (F := fun _ => False) hb2) (fun _ _ h => h))
   have HL2 := Lib.hid (HL.out.below hb2)
   have HB2 := Lib.hid (HB.out.trans (hb2.mono HB.out.size))
   have HG := Lib.hid hge
   clear hkr hb2 HO HL HB hge a0 a1 a2 a3 a4 a5 a6 a7 a8 HCk
   go_upto_region 6 with (fail)
   have HN3 := Lib.hid (hrow.new w2 #[.int .i64 x.kind, .int .u64 x.c0, .int .u64 x.c1, .int .u64 x.c2, .int .u64 x.c3, .string x.text, .int .i64 x.rule, .int .i64 x.lev, .slice (some ⟨g, 0, none⟩) x.kids.length (x.kids.length + 12)] 55)
   have HO3 := Lib.hid (HO2.out.alloc (.cells #[.int .i64 x.kind, .int .u64 x.c0, .int .u64 x.c1, .int .u64 x.c2, .int .u64 x.c3, .string x.text, .int .i64 x.rule, .int .i64 x.lev, .slice (some ⟨g, 0, none⟩) x.kids.length (x.kids.length + 12)] 55))
   have hb3 := (Below.refl w2.heap.size w2).alloc (Nat.le_refl _) (.cells #[.int .i64 x.kind, .int .u64 x.c0, .int .u64 x.c1, .int .u64 x.c2, .int .u64 x.c3, .string x.text, .int .i64 x.rule, .int .i64 x.lev, .slice (some ⟨g, 0, none⟩) x.kids.length (x.kids.length + 12)] 55)
   have HL3 := Lib.hid (HL2.out.below hb3)
   have HK3 := Lib.hid (HKr.out.below hb3)
   have HB3 := Lib.hid (HB2.out.trans (hb3.mono HB2.out.size))
   have HW := Lib.hid (show w.heap.size < g from Nat.lt_of_lt_of_le HX.out HG.out)
   clear hb3 HO2 HL2 HKr HB2 HG HX
   revert HN3 HO3 HL3 HK3 HB3
   generalize w2.alloc _ = w3
   generalize w2.heap.size = h
   intro HN3 HO3 HL3 HK3 HB3
   obtain ⟨z0, z1, z2, z3, z4, z5, z6, z7, z8⟩ := (HN3.out).c9

   go_wp2_with (at_builtin; refine wpList_append_fits _ rfl (.tmp 22) (.tmp 24) 23 rfl w.heap.size 55 i0 9 Tryz.underlying23 Hi.out Hz1.out w.heap.size k (n + 12) _ rfl (HO3.out.alloc _) ⟨w3.heap.size, 0, none⟩ 1 1 [.int .i64 x.kind, .int .u64 x.c0, .int .u64 x.c1, .int .u64 x.c2, .int .u64 x.c3, .string x.text, .int .i64 x.rule, .int .i64 x.lev, .slice (some ⟨g, 0, none⟩) x.kids.length (x.kids.length + 12)] rfl rfl (fun j u h => World.news_of_block (heap_alloc_new w3 _) j u h) (by simp [Value.oneCell']) (by omega) ?_; intro w4 hown4 hg4; have HO4 := Lib.hid hown4; have HG4 := Lib.hid hg4; clear hown4 hg4)
   go_roundw
   case rel =>
    have hba := (Below.refl w3.heap.size w3).alloc (Nat.le_refl _) (.cells #[.int .i64 x.kind, .int .u64 x.c0, .int .u64 x.c1, .int .u64 x.c2, .int .u64 x.c3, .string x.text, .int .i64 x.rule, .int .i64 x.lev, .slice (some ⟨g, 0, none⟩) x.kids.length (x.kids.length + 12)] 55)
    have hfr := (Fr.grown HG4.out).weak (G := fun k => k = w.heap.size) (fun k e => (Option.some.inj e).symm)
    refine ⟨k + 1, by omega, by go_num, rfl, NL ++ [(x, (some ⟨g, 0, none⟩, x.kids.length + 12))], ?_, ?_, ?_⟩
    ·have := HO4.out
     rw [List.flatMap_append]
     exact this
    ·rw [HTk.out]
     exact ((HL3.out.below hba).fr hfr).snoc x (ko, kc) g HW.out ((HK3.out.below hba).fr hfr (fun e => by have e' : g = w.heap.size := e; have := HW.out; omega))
    ·exact (HB3.out.trans (hba.mono HB3.out.size)).grown HG4.out (by have := HB3.out.size; simp; omega) (by intro k hk; cases hk; exact Nat.le_refl _)
   case measure => simp [intOf]; omega
  ·have hke : n = k := by omega
   subst hke
   obtain ⟨NL, hO, hL, hB⟩ := hI.out
   have HO2 := Lib.hid hO; have HL2 := Lib.hid hL; have HB2 := Lib.hid hB
   have hge : (n : Int) ≤ n := by omega
   have HTn := Lib.hid (show NK.take n = NK from List.take_of_length_le (by have := HWl.out; omega))
   rw [HTn.out] at HL2
   clear hI hO hL hB HO1 HB1
   go_wp2_with fail
   go_loopw [3, 6] (fun v i wr => ∃ k : Nat, k ≤ 12 ∧ i = .int .i64 k ∧ v = .slice (some ⟨w.heap.size, 0, none⟩) (n + k) (n + 12) ∧
     Hid (wr.ownsRow w.heap.size 55 9 (.slice (some ⟨w.heap.size, 0, none⟩) (n + k) (n + 12)) (n + k) ((NL ++ nmarks β k).flatMap ndc) ∧ Lt β w.heap.size wr NK NL ∧ Below w.heap.size w wr)) (fun _ i _ => 12 - (intOf i).toNat)
   case atStart => exact ⟨0, by omega, rfl, rfl, by simpa [nmarks] using HO2.out, HL2.out, HB2.out⟩
   case round =>
    obtain ⟨k, hk, rfl, rfl, hI⟩ := hrel
    have HO := Lib.hid hI.out.1
    have HL := Lib.hid hI.out.2.1
    have HB := Lib.hid hI.out.2.2
    clear hI
    by_cases hlt : k < 12
    ·go_wp2_with fail
     refine (HMn.out _ _ _ (by decide) (by decide) (by omega) (by omega)).mono ?_
     rintro e w3 ⟨rfl, hb'⟩
     have HO3 := Lib.hid (owns_fr HO.out (Fr.of_below (F := fun _ => False) hb') (fun _ _ h => h))
     have HL3 := Lib.hid (HL.out.below hb')
     have HB3 := Lib.hid (HB.out.trans (hb'.mono HB.out.size))
     clear hb' HO HB HL
     go_wp2_with (at_builtin; refine wpList_append_fits _ rfl (.tmp 30) (.tmp 33) 23 rfl w.heap.size 55 i0 9 Tryz.underlying23 Hi.out Hz1.out w.heap.size (n + k) (n + 12) _ rfl (HO3.out.alloc _) ⟨w3.heap.size, 0, none⟩ 1 1 [.int .i64 0, .int .u64 0, .int .u64 0, .int .u64 0, .int .u64 0, .string es0, .int .i64 (β 1 (k : Int)), .int .i64 0, .slice none 0 0] rfl rfl (fun j u h => World.news_of_block (heap_alloc_new w3 _) j u h) (by simp [Value.oneCell']) (by omega) ?_; intro w4 hown4 hg4; have HO4 := Lib.hid hown4; have HG4 := Lib.hid hg4; clear hown4 hg4)
     go_roundw
     case rel =>
      have hba := (Below.refl w3.heap.size w3).alloc (Nat.le_refl _) (.cells #[.int .i64 0, .int .u64 0, .int .u64 0, .int .u64 0, .int .u64 0, .string es0, .int .i64 (β 1 (k : Int)), .int .i64 0, .slice none 0 0] 55)
      have hfr := (Fr.grown HG4.out).weak (G := fun k => k = w.heap.size) (fun k e => (Option.some.inj e).symm)
      refine ⟨k + 1, by omega, by go_num, rfl, ?_, (HL3.out.below hba).fr hfr, ?_⟩
      ·have := HO4.out
       rw [nmarks_succ]
       simpa [Nat.add_assoc, ndc, mkN] using this
      ·exact (HB3.out.trans (hba.mono HB3.out.size)).grown HG4.out (by have := HB3.out.size; simp; omega) (by intro k hk; cases hk; exact Nat.le_refl _)
     case measure => simp [intOf]; omega
    ·have hke : k = 12 := by omega
     subst hke
     go_wp2_with fail
     go_ret
     refine ⟨rfl, ⟨NL, ?_, HL.out⟩, HB.out⟩
     rcases HO.out.2 with ⟨h, _⟩ | ⟨g, c, cur, h, _, hh, h3, h4, h5, h6⟩
     ·cases h
     ·cases h
      have hcur : cur = ((NL ++ nmarks β 12).flatMap ndc).toArray := by
       apply Array.toList_inj.1
       rw [← h6, List.take_of_length_le (by simp [h5])]
      rw [← hcur]; exact hh
end Go.Proofs.YtdnkffplkleolaaGreat
