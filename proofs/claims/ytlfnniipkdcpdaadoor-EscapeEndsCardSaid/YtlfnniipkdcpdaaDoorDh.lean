/- Walk: a mark that is a byte. -/
import Derived.Test.YtlfnniipkdcpdaaDoorAm
import Derived.BigQuiet
import Derived.OwnWalk
namespace Go.Proofs.YtlfnniipkdcpdaaDoor
open Go.RowKit
set_option maxRecDepth 100000
set_option maxHeartbeats 2000000

def bt (w : List Int) (p : Nat) : Int := w.getD p (-1)
def byc (l : List Int) : List Value := l.map fun c => .int .u8 c
theorem byc_len (l : List Int) : (byc l).length = l.length := by simp [byc]
theorem byc_one (l : List Int) : ∀ u ∈ byc l, u.oneCell' = true := by intro u hu; simp only [byc, List.mem_map] at hu; obtain ⟨_, _, rfl⟩ := hu; rfl
theorem bt_get {l : List Int} {p : Nat} (h : p < l.length) : l[p] = bt l p := by simp [bt, List.getD_eq_getElem?_getD, h]
theorem Sv.byte {w : World} {ao : Option Addr} {n cap : Nat} {l : List Int} (h : Sv w ao n cap 1 (byc l)) (k : Nat) (hk : k < l.length) : ∃ a, ao = some a ∧ w.cell? (a.add k) = some (.int .u8 (bt l k)) := by
 obtain ⟨a, ha, hc⟩ := h.cell k (by rw [byc_len]; exact hk)
 exact ⟨a, ha, by rw [hc]; simp [byc, hk, bt_get hk]⟩
theorem Sv.byte_len {w : World} {ao : Option Addr} {n cap : Nat} {l : List Int} (h : Sv w ao n cap 1 (byc l)) : l.length = n := by
 have := h.len; rw [byc_len] at this; omega

/-- The byte that marks a place. -/
def mbI (k i : Int) : Int := IntKind.u64.wrap (IntKind.u64.wrap (mkI k i) * 11400714819323198485) / 72057594037927936 % 256
/-- The bytes that mark are those of β: what they are is left open. -/
def MbC (β : Int → Int → Int) : Prop := ∀ (w : World) (k i : Int), 0 ≤ k → k ≤ 1000 → 0 ≤ i → i ≤ 10000 →
  Calls Tryd.prog 17 #[.int .i64 k, .int .i64 i] w fun r w' => r = .returned (.int .u8 (β k i)) ∧ w = w'
theorem markBy_any : MbC mbI := by
 intro w k i h0 h1 h2 h3
 have HM := Lib.hid (fun w' => mark_any w' k i h0 h1 h2 h3)
 clear h0 h1 h2 h3
 go_enter Tryd.func17, Tryd.ntmps17
 go_wp2_with (first | (go_at_call 30; refine (HM.out _).mono ?_; rintro e w2 ⟨rfl, rfl⟩))
 go_ret
 exact ⟨rfl, rfl⟩
theorem mbI_bd (k i : Int) : 0 ≤ mbI k i ∧ mbI k i < 256 := by
 unfold mbI
 exact ⟨Int.emod_nonneg _ (by decide), Int.emod_lt_of_pos _ (by decide)⟩
end Go.Proofs.YtlfnniipkdcpdaaDoor
namespace Go.Proofs.YtlfnniipkdcpdaaDoor
open Go.RowKit
set_option maxRecDepth 100000
set_option maxHeartbeats 2000000

def bmarks (β : Int → Int → Int) (k : Nat) : List Int := (List.range k).map fun i : Nat => β 1 (i : Int)
theorem bmarks_len (β : Int → Int → Int) (k : Nat) : (bmarks β k).length = k := by simp [bmarks]
theorem bmarks_succ (β : Int → Int → Int) (k : Nat) : bmarks β (k + 1) = bmarks β k ++ [β 1 (k : Int)] := by simp [bmarks, List.range_succ]
theorem infoBy : (Tryd.prog.info? 5).map (fun i => (i.zero, i.size, i.bytes)) = some (some (.int .u8 0), 1, 1) := by kernel_rfl
theorem one_new (w : World) (t : TypeId) (x : Value) : ∀ j u, [x][j]? = some u → (w.alloc (.cells #[x] t)).cell? ((⟨w.heap.size, 0, none⟩ : Addr).add j) = some u :=
 fun j u h => World.news_of_block (heap_alloc_new w (.cells #[x] t)) j u h
theorem byc_append (a b : List Int) : byc (a ++ b) = byc a ++ byc b := by simp [byc]

theorem lentBy_any (β : Int → Int → Int) (HMb : Hid (MbC β)) (w : World) (ao : Option Addr) (n cap : Nat) (W : List Int) (hs : Sv w ao n cap 1 (byc W)) (hbig : n ≤ 100000) :
  Calls Tryd.prog 8 #[.slice ao n cap] w fun r w' => r = .returned (.slice (some ⟨w.heap.size, 0, none⟩) n (n + 12)) ∧ hrow w' w.heap.size (byc (W ++ bmarks β 12)).toArray 5 ∧ Below w.heap.size w w' := by
 obtain ⟨h1, h2⟩ := hs.bound
 have hwl := hs.byte_len
 have HSl := Lib.hid hs; have HWl := Lib.hid hwl; clear hs hwl
 obtain ⟨i0, hi, hz0, hz1, hz2⟩ := info_parts infoBy
 have Hi := Lib.hid hi; have Hz0 := Lib.hid hz0; have Hz1 := Lib.hid hz1; have Hz2 := Lib.hid hz2
 clear hi hz0 hz1 hz2
 have e12 : ((n : Int) + 12) = ((n + 12 : Nat) : Int) := by omega
 have HE := Lib.hid e12; clear e12
 have HBy := Lib.hid (show i0.bytes * (n + 12) ≤ 281474976710656 by rw [Hz2.out]; omega)
 have HOc := Lib.hid (byc_one W)
 go_enter Tryd.func8, Tryd.ntmps8
 go_wp2_with (first
  | (at_make; refine wpList_make_own _ rfl _ _ 22 rfl w.heap.size 5 i0 _ 1 Tryd.underlying22 Hi.out Hz0.out Hz1.out _ _ _ (n + 12) rfl rfl HE.out HBy.out (by unfold maxLen; omega) (Nat.le_refl _) ?_; intro w1 hown1 hg1; have HO1 := Lib.hid hown1; have HB1 := Lib.hid (((Below.refl w.heap.size w).grown hg1 (Nat.le_refl _) (by simp))); clear hown1 hg1)
  | (at_builtin; refine wpList_append_fits_any _ rfl (.tmp 9) (.tmp 10) 22 rfl w.heap.size 5 i0 1 Tryd.underlying22 Hi.out Hz1.out w.heap.size 0 (n + 12) [] rfl HO1.out ao n cap (byc W) rfl (by have := HWl.out; simp [byc_len]; omega) ?_ ?_ HOc.out (by omega) ?_))
 ·intro hn
  have h := HSl.out.nn hn
  omega
 ·intro ad had j u hj
  obtain ⟨ad', h1, h2⟩ := (HSl.out.below HB1.out).cell j (List.getElem?_eq_some_iff.1 hj).1
  rw [had] at h1; cases h1
  exact h2.trans hj
 intro w2 hown2 hg2
 have HO2 := Lib.hid hown2
 have HB2 := Lib.hid (HB1.out.grown hg2 HB1.out.size (by intro k hk; cases hk; exact Nat.le_refl _))
 clear hown2 hg2 HO1 HB1
 go_wp2_with fail
 go_loopw [3, 4] (fun v i wr => ∃ k : Nat, k ≤ 12 ∧ i = .int .i64 k ∧ v = .slice (some ⟨w.heap.size, 0, none⟩) (n + k) (n + 12) ∧
   Hid (wr.ownsRow w.heap.size 5 1 (.slice (some ⟨w.heap.size, 0, none⟩) (n + k) (n + 12)) (n + k) (byc (W ++ bmarks β k)) ∧ Below w.heap.size w wr)) (fun _ i _ => 12 - (intOf i).toNat)
 case atStart => exact ⟨0, by omega, rfl, rfl, by simpa [bmarks] using HO2.out, HB2.out⟩
 case round =>
  obtain ⟨k, hk, rfl, rfl, hI⟩ := hrel
  have HO := Lib.hid hI.out.1
  have HB := Lib.hid hI.out.2
  clear hI
  by_cases hlt : k < 12
  ·go_wp2_with (first
    | (go_at_call 17; refine (HMb.out _ _ _ (by decide) (by decide) (by omega) (by omega)).mono ?_; rintro e w' ⟨rfl, rfl⟩)
    | (at_builtin; refine wpList_append_fits _ rfl (.tmp 16) (.tmp 19) 22 rfl w.heap.size 5 i0 1 Tryd.underlying22 Hi.out Hz1.out w.heap.size (n + k) (n + 12) _ rfl (HO.out.alloc _) ⟨wr.heap.size, 0, none⟩ 1 1 [_] rfl rfl (one_new _ _ _) (by simp [Value.oneCell']) (by omega) ?_; intro w3 hown3 hg3; have HO3 := Lib.hid hown3; have HB3 := Lib.hid ((HB.out.alloc HB.out.size _).grown hg3 (by have := HB.out.size; simp; omega) (by intro k hk; cases hk; exact Nat.le_refl _)); clear hown3 hg3))
   go_roundw
   case rel =>
    refine ⟨k + 1, by omega, by go_num, rfl, ?_, HB3.out⟩
    have := HO3.out
    rw [bmarks_succ]
    simpa [Nat.add_assoc, byc] using this
   case measure => simp [intOf]; omega
  ·have hke : k = 12 := by omega
   subst hke
   go_wp2_with fail
   go_ret
   refine ⟨rfl, ?_, HB.out⟩
   rcases HO.out.2 with ⟨h, _⟩ | ⟨g, c, cur, h, _, hh, h3, h4, h5, h6⟩
   ·cases h
   ·cases h
    have hcur : cur = (byc (W ++ bmarks β 12)).toArray := by
     apply Array.toList_inj.1
     rw [← h6, List.take_of_length_le (by simp [h5])]
    rw [← hcur]; exact hh
end Go.Proofs.YtlfnniipkdcpdaaDoor
namespace Go.Proofs.YtlfnniipkdcpdaaDoor
open Go.RowKit
set_option maxRecDepth 100000
set_option maxHeartbeats 2000000

theorem keptBy_any (β : Int → Int → Int) (HMb : Hid (MbC β)) (w : World) (g : Nat) (ao : Option Addr) (n cap : Nat) (W : List Int) (hr : hrow w g (byc (W ++ bmarks β 12)).toArray 5) (hs : Sv w ao n cap 1 (byc W)) (hbig : n ≤ 5000) :
  Calls Tryd.prog 11 #[.slice (some ⟨g, 0, none⟩) n (n + 12), .slice ao n cap] w fun r w' => r = .returned (.bool true) ∧ Below w.heap.size w w' := by
 obtain ⟨h1, h2⟩ := hs.bound
 have hwl := hs.byte_len
 have hcell : ∀ w', Below w.heap.size w w' → ∀ j, j < n + 12 → w'.cell? ⟨g, j, none⟩ = some (.int .u8 (if j < n then bt W j else β 1 ((j - n : Nat) : Int))) := fun w' hb j hj => by
  rw [(hr.below hb).cell, byc_append, List.getElem?_toArray]
  by_cases hjn : j < n
  ·rw [if_pos hjn, List.getElem?_append_left (by rw [byc_len]; omega)]
   simp [byc, bt, List.getD_eq_getElem?_getD, show j < W.length by omega]
  ·rw [if_neg hjn, List.getElem?_append_right (by rw [byc_len]; omega), byc_len, hwl]
   simp [byc, bmarks, show j - n < 12 by omega]
 have HC := Lib.hid hcell; have HS := Lib.hid (fun w' (hb : Below w.heap.size w w') => hs.below hb); have HWl := Lib.hid hwl
 clear hcell hr hs hwl
 go_enter Tryd.func11, Tryd.ntmps11
 go_wp2_with fail
 go_loopw [6] (fun i wr => ∃ k : Nat, k ≤ n + 12 ∧ i = .int .i64 k ∧ Hid (Below w.heap.size w wr)) (fun i _ => n + 12 - (intOf i).toNat)
 case atStart => exact ⟨0, by omega, rfl, Below.refl _ _⟩
 case round =>
  obtain ⟨k, hk, rfl, HB⟩ := hrel
  by_cases hlt : k < n + 12
  ·have hlt' : (k : Int) < (n : Int) + 12 := by omega
   have hc := HC.out wr HB.out k hlt
   by_cases hkn : k < n
   ·rw [if_pos hkn] at hc
    have hkn' : (k : Int) < n := by omega
    have t1 : decide (k < n) = true := decide_eq_true hkn
    have t2 : decide (n ≤ k) = false := decide_eq_false (by omega)
    obtain ⟨aw, rfl, hq⟩ := (HS.out wr HB.out).byte k (by have := HWl.out; omega)
    generalize bt W k = c at *
    have later : ∀ (p : Addr) (v : Value), wr.cell? p = some v → ∀ y : Later wr, y.val.cell? p = some v := fun p v h y => (y.ok.cell (World.block_lt_of_cell? wr _ h)).trans h
    have hc := later _ _ hc; have hq := later _ _ hq
    clear later
    go_wp2_with fail
    refine wp_region_later (by kernel_rfl) (by kernel_rfl) ?_
    repeat (go_big_quiet_step (fail))
    refine wpQuiet_nil ?_
    intro w5 hw5
    obtain ⟨y, rfl⟩ := hw5
    have HB5 := Lib.hid (HB.out.trans (y.ok.mono HB.out.size))
    clear hc hq
    generalize y.val = w5 at *
    go_wp2_with fail
    go_roundw
    case rel => exact ⟨k + 1, by omega, by go_num, HB5⟩
    case measure => simp [intOf]; omega
   ·rw [if_neg hkn] at hc
    have hkn' : (n : Int) ≤ k := by omega
    have t1 : decide (k < n) = false := decide_eq_false hkn
    have t2 : decide (n ≤ k) = true := decide_eq_true (by omega)
    rw [show ((k - n : Nat) : Int) = (k : Int) - n by omega] at hc
    have HM := Lib.hid (fun y : Later wr => HMb.out y.val 1 ((k : Int) - n) (by decide) (by decide) (by omega) (by omega))
    generalize β 1 ((k : Int) - n) = c at *
    have later : ∀ (p : Addr) (v : Value), wr.cell? p = some v → ∀ y : Later wr, y.val.cell? p = some v := fun p v h y => (y.ok.cell (World.block_lt_of_cell? wr _ h)).trans h
    have hc := later _ _ hc
    clear later
    go_wp2_with fail
    refine wp_region_later (by kernel_rfl) (by kernel_rfl) ?_
    repeat (go_big_quiet_step ((go_at_call 17; exact Calls.later_same (HM.out _))))
    refine wpQuiet_nil ?_
    intro w5 hw5
    obtain ⟨y, rfl⟩ := hw5
    have HB5 := Lib.hid (HB.out.trans (y.ok.mono HB.out.size))
    clear hc HM
    generalize y.val = w5 at *
    go_wp2_with fail
    go_roundw
    case rel => exact ⟨k + 1, by omega, by go_num, HB5⟩
    case measure => simp [intOf]; omega
  ·have hge : (n : Int) + 12 ≤ k := by omega
   go_wp2_with fail
   go_ret
   exact ⟨rfl, HB.out⟩
end Go.Proofs.YtlfnniipkdcpdaaDoor
