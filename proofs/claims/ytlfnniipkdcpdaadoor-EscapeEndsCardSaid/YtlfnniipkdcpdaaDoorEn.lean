/- Walk: EscapeEnds. -/
import Derived.Test.YtlfnniipkdcpdaaDoorEm
namespace Go.Proofs.YtlfnniipkdcpdaaDoor
open Go.RowKit
set_option maxRecDepth 100000
set_option maxHeartbeats 4000000

def endsC : Array Value := #[.int .i64 (-9223372036854775808), .int .i64 (-1), .int .i64 0, .int .i64 1, .int .i64 2, .int .i64 3, .int .i64 4, .int .i64 9223372036854775807]
theorem endsC_at (m : Nat) (h : m < 8) : ∃ a, endsC[m]? = some (.int .i64 a) := by
 match m, h with
 | 0, _ => exact ⟨_, rfl⟩
 | 1, _ => exact ⟨_, rfl⟩
 | 2, _ => exact ⟨_, rfl⟩
 | 3, _ => exact ⟨_, rfl⟩
 | 4, _ => exact ⟨_, rfl⟩
 | 5, _ => exact ⟨_, rfl⟩
 | 6, _ => exact ⟨_, rfl⟩
 | 7, _ => exact ⟨_, rfl⟩
/-- A row of short texts. -/
def TxC (cs : Array Value) : Prop := ∃ l : List ByteArray, cs = (l.map Value.string).toArray ∧ l.length = 6 ∧ ∀ s ∈ l, s.size ≤ 10
theorem TxC.at {cs : Array Value} (h : TxC cs) (j : Nat) (hj : j < 6) : ∃ s : ByteArray, cs[j]? = some (.string s) ∧ s.size ≤ 10 := by
 obtain ⟨l, rfl, hl, hs⟩ := h
 have : j < l.length := by omega
 exact ⟨l[j], by simp [this], hs _ (List.getElem_mem this)⟩
def lstC (c : UInt8) : Array Value := #[.string ⟨#[c]⟩, .string (⟨#[92]⟩ ++ ⟨#[c]⟩), .string (⟨#[92, 120]⟩ ++ ⟨#[c]⟩ ++ ⟨#[97]⟩), .string (⟨#[92, 120, 48]⟩ ++ ⟨#[c]⟩), .string (⟨#[92, 120]⟩ ++ ⟨#[c]⟩), .string (⟨#[92]⟩ ++ ⟨#[c]⟩ ++ ⟨#[120, 52, 49]⟩)]
theorem lstC_tx (c : UInt8) : TxC (lstC c) := ⟨[⟨#[c]⟩, ⟨#[92]⟩ ++ ⟨#[c]⟩, ⟨#[92, 120]⟩ ++ ⟨#[c]⟩ ++ ⟨#[97]⟩, ⟨#[92, 120, 48]⟩ ++ ⟨#[c]⟩, ⟨#[92, 120]⟩ ++ ⟨#[c]⟩, ⟨#[92]⟩ ++ ⟨#[c]⟩ ++ ⟨#[120, 52, 49]⟩], rfl, rfl, fun s hs => by
 simp only [List.mem_cons, List.not_mem_nil, or_false] at hs
 rcases hs with rfl | rfl | rfl | rfl | rfl | rfl
 all_goals first | exact Nat.le_of_ble_eq_true rfl | (rw [ByteArray.size_append, ByteArray.size_append]; exact Nat.le_of_ble_eq_true rfl) | (rw [ByteArray.size_append]; exact Nat.le_of_ble_eq_true rfl)⟩
theorem tmod16 (b : Nat) : (b : Int).tmod 16 = ((b % 16 : Nat) : Int) := by rw [Int.tmod_eq_emod_of_nonneg (by omega)]; omega
theorem ends_any (w : World) (h : TzOk w) : Calls Tryd.prog 4 #[] w fun e w' => e = .returned (.bool true) ∧ Below w.heap.size w w' := by
 have HT := Lib.hid h
 have H0 : Hid (hrow (w.alloc (.cells endsC 3)) w.heap.size endsC 3) := hrow.new w endsC 3
 have B0 : Hid (Below w.heap.size w (w.alloc (.cells endsC 3))) := (Below.refl _ _).alloc (Nat.le_refl _) _
 clear h
 go_enter Tryd.func4, Tryd.ntmps4
 go_wp2_with fail
 go_loopw [2] (fun i wr => ∃ p : Nat, p ≤ 4 ∧ i = .int .i64 p ∧ Hid (hrow wr w.heap.size endsC 3 ∧ Below w.heap.size w wr)) (fun i _ => 4 - (intOf i).toNat)
 case atStart => exact ⟨0, by omega, rfl, H0.out, B0.out⟩
 case round =>
  obtain ⟨p, hp, rfl, hI⟩ := hrel
  have H1 := Lib.hid hI.out.1
  have B1 := Lib.hid hI.out.2
  clear H0 B0 hI
  by_cases hlt : p < 4
  ·have hltI : (p : Int) < 4 := by omega
   have hp0 : (0 : Int) ≤ p := by omega
   go_wp2_with fail
   go_loopw [3] (fun i wr => ∃ b : Nat, b ≤ 256 ∧ i = .int .i64 b ∧ Hid (hrow wr w.heap.size endsC 3 ∧ Below w.heap.size w wr)) (fun i _ => 256 - (intOf i).toNat)
   case atStart => exact ⟨0, by omega, rfl, H1.out, B1.out⟩
   case round =>
    obtain ⟨b, hb, rfl, hI⟩ := hrel
    have H2 := Lib.hid hI.out.1
    have B2 := Lib.hid hI.out.2
    clear H1 B1 hI
    by_cases hblt : b < 256
    ·have hbltI : (b : Int) < 256 := by omega
     have hb0 : (0 : Int) ≤ b := by omega
     obtain ⟨c, hc⟩ : ∃ c : UInt8, (b : Int) = c.toNat := ⟨UInt8.ofNat b, by simp; omega⟩
     have HC := Lib.hid hc
     have hwb : IntKind.u8.wrap (b : Int) = (c.toNat : Int) := by rw [hc]; exact wrap8 c
     have hcv := conv1 c wr
     clear hc
     have HL : Hid (hrow ((wr.alloc (.cells #[.int .u8 c.toNat] 5)).alloc (.cells (lstC c) 9)) (wr.heap.size + 1) (lstC c) 9) := by
      have := hrow.new (wr.alloc (.cells #[.int .u8 c.toNat] 5)) (lstC c) 9
      rw [World.size_alloc] at this
      exact this
     have B3 : Hid (Below wr.heap.size wr ((wr.alloc (.cells #[.int .u8 c.toNat] 5)).alloc (.cells (lstC c) 9))) := ((Below.refl _ _).alloc (Nat.le_refl _) _).alloc (by simp) _
     have H3 := Lib.hid (H2.out.below B3.out)
     have B4 := Lib.hid (B2.out.trans (B3.out.mono B2.out.size))
     go_wp2_with fail
     change Calls _ _ _ ((wr.alloc (.cells #[.int .u8 c.toNat] 5)).alloc (.cells (lstC c) 9)) _
     have HX := Lib.hid (lstC_tx c)
     clear hcv B3 B2 H2
     generalize lstC c = cs at *
     generalize (wr.alloc (.cells #[.int .u8 c.toNat] 5)).alloc (.cells cs 9) = x at *
     generalize wr.heap.size + 1 = gl at *
     refine (eone_any p c x (HT.out.below B4.out)).mono ?_
     rintro e x2 ⟨rfl, hb2⟩
     have B5 := Lib.hid (B4.out.trans (hb2.mono B4.out.size))
     have H5 := Lib.hid (H3.out.below hb2)
     have L5 := Lib.hid (HL.out.below hb2)
     clear hb2 H3 HL B4
     go_wp2_with fail
     refine (rone_any p c x2).mono ?_
     rintro e x3 ⟨rfl, hb2⟩
     have B6 := Lib.hid (B5.out.trans (hb2.mono B5.out.size))
     have H6 := Lib.hid (H5.out.below hb2)
     have L6 := Lib.hid (L5.out.below hb2)
     clear hb2 H5 L5 B5 hwb
     generalize one p c = oc
     go_wp2_with fail
     go_loopw [6] (fun i wr => ∃ j : Nat, j ≤ 6 ∧ i = .int .i64 j ∧ Hid (hrow wr w.heap.size endsC 3 ∧ hrow wr gl cs 9 ∧ Below w.heap.size w wr)) (fun i _ => 6 - (intOf i).toNat)
     case atStart => exact ⟨0, by omega, rfl, H6.out, L6.out, B6.out⟩
     case round =>
      obtain ⟨j, hj, rfl, hI⟩ := hrel
      have H7 := Lib.hid hI.out.1
      have L7 := Lib.hid hI.out.2.1
      have B7 := Lib.hid hI.out.2.2
      clear hI H6 L6 B6
      by_cases hjlt : j < 6
      ·have hjI : (j : Int) < 6 := by omega
       have hj0 : (0 : Int) ≤ j := by omega
       obtain ⟨s, hcs, hsz⟩ := HX.out.at j hjlt
       have hs0 := (L7.out.cell j).trans hcs
       have HS0 := Lib.hid hs0
       clear hcs
       have HLc : Hid (∀ w', Below wr.heap.size wr w' → w'.cell? ⟨gl, j, none⟩ = some (.string s)) := fun w' hb => (hb.cell (p := ⟨gl, j, none⟩) L7.out.lt).trans HS0.out
       have hlc : ∀ (x : Later wr), x.val.cell? ⟨gl, j, none⟩ = some (.string s) := fun x => HLc.out _ x.ok
       have HCx : Hid (∀ (x : Later wr), Calls Tryd.prog 12 #[.int .i64 p, .string s, .int .i64 0] x.val fun r w' => r = .returned (.bool true) ∧ ∃ y : Later wr, w' = y.val) := fun x => Calls.later (reads_any p s 0 _ (Nat.le_trans hsz (by decide)))
       clear hs0 HS0 HLc
       by_cases hm : b % 16 = 0
       ·have hmt : (((b : Int).tmod 16) == 0) = true := by rw [tmod16]; simp; omega
        have hmt2 : (((b : Int) % 16) == 0) = true := by simp; omega
        obtain ⟨m, hme⟩ := endsC_at ((j + b / 16) % 8) (by omega)
        have hec : ∀ (x : Later wr), x.val.cell? ⟨w.heap.size, (j + b / 16) % 8, none⟩ = some (.int .i64 m) := fun x => ((H7.out.below x.ok).cell _).trans hme
        have HCy : Hid (∀ (x : Later wr), Calls Tryd.prog 12 #[.int .i64 p, .string (⟨#[97]⟩ ++ s), .int .i64 m] x.val fun r w' => r = .returned (.bool true) ∧ ∃ y : Later wr, w' = y.val) := fun x => Calls.later (reads_any p _ m _ (by rw [ByteArray.size_append]; show 1 + s.size ≤ 1000000; omega))
        clear hm hme
        go_wp2_with fail
        refine wp_region_later (by kernel_rfl) (by kernel_rfl) ?_
        repeat (go_big_quiet_step (first
          | (go_at_call 12; with_reducible exact HCx.out _)
          | (go_at_call 12; with_reducible exact HCy.out _)))
        refine wpQuiet_nil ?_
        intro w5 hw5
        obtain ⟨x, rfl⟩ := hw5
        have H8 := Lib.hid (H7.out.below x.ok)
        have L8 := Lib.hid (L7.out.below x.ok)
        have B8 := Lib.hid (B7.out.trans (x.ok.mono B7.out.size))
        clear hlc HCx HCy hec H7 L7 B7
        generalize x.val = wy at *
        clear x
        go_wp2_with fail
        go_roundw
        case rel => exact ⟨j + 1, by omega, by go_num, H8.out, L8.out, B8.out⟩
        case measure => simp [intOf]; omega
       ·have hmt : (((b : Int).tmod 16) == 0) = false := by rw [tmod16]; simp; omega
        have hmt2 : (((b : Int) % 16) == 0) = false := by simp; omega
        clear hm
        go_wp2_with fail
        refine wp_region_later (by kernel_rfl) (by kernel_rfl) ?_
        repeat (go_big_quiet_step (first
          | (go_at_call 12; exact HCx.out _)))
        refine wpQuiet_nil ?_
        intro w5 hw5
        obtain ⟨x, rfl⟩ := hw5
        have H8 := Lib.hid (H7.out.below x.ok)
        have L8 := Lib.hid (L7.out.below x.ok)
        have B8 := Lib.hid (B7.out.trans (x.ok.mono B7.out.size))
        clear hlc HCx H7 L7 B7
        generalize x.val = wy at *
        clear x
        go_wp2_with fail
        go_roundw
        case rel => exact ⟨j + 1, by omega, by go_num, H8.out, L8.out, B8.out⟩
        case measure => simp [intOf]; omega
      ·have hge : ¬ (j : Int) < 6 := by omega
       go_wp2_with fail
       go_roundw
       case rel => exact ⟨b + 1, by omega, by go_num, H7.out, B7.out⟩
       case measure => simp [intOf]; omega
    ·have hge : ¬ (b : Int) < 256 := by omega
     go_wp2_with fail
     go_loopw [7] (fun i wr => ∃ k : Nat, k ≤ 8 ∧ i = .int .i64 k ∧ Hid (hrow wr w.heap.size endsC 3 ∧ Below w.heap.size w wr)) (fun i _ => 8 - (intOf i).toNat)
     case atStart => exact ⟨0, by omega, rfl, H2.out, B2.out⟩
     case round =>
      obtain ⟨k, hk, rfl, hI⟩ := hrel
      have H7 := Lib.hid hI.out.1
      have B7 := Lib.hid hI.out.2
      clear hI H2 B2
      by_cases hklt : k < 8
      ·have hkI : (k : Int) < 8 := by omega
       have hk0 : (0 : Int) ≤ k := by omega
       obtain ⟨m, hme⟩ := endsC_at k hklt
       have e1 := (H7.out.cell k).trans hme
       have HM := Lib.hid hme; clear hme
       go_wp2_with fail
       refine (reads_any p ⟨#[92, 120, 52]⟩ m wr (by show 3 ≤ 1000000; omega)).mono ?_
       rintro e y ⟨rfl, hb8⟩
       have H8 := Lib.hid (H7.out.below hb8)
       have B8 := Lib.hid (B7.out.trans (hb8.mono B7.out.size))
       have e2 := (H8.out.cell k).trans HM.out
       clear hb8 e1 H7 B7
       go_wp2_with fail
       refine (reads_any p ⟨#[]⟩ m y (by show 0 ≤ 1000000; omega)).mono ?_
       rintro e y2 ⟨rfl, hb8⟩
       have H9 := Lib.hid (H8.out.below hb8)
       have B9 := Lib.hid (B8.out.trans (hb8.mono B8.out.size))
       clear hb8 e2 H8 B8
       go_wp2_with fail
       go_roundw
       case rel => exact ⟨k + 1, by omega, by go_num, H9.out, B9.out⟩
       case measure => simp [intOf]; omega
      ·have hge2 : ¬ (k : Int) < 8 := by omega
       go_wp2_with fail
       go_roundw
       case rel => exact ⟨p + 1, by omega, by go_num, H7.out, B7.out⟩
       case measure => simp [intOf]; omega
  ·have hge : ¬ (p : Int) < 4 := by omega
   go_wp2_with fail
   refine (awake_any _ (HT.out.below B1.out)).mono ?_
   rintro e x ⟨rfl, hb⟩
   have B2 := Lib.hid (B1.out.trans (hb.mono B1.out.size)); clear hb
   go_wp2_with fail
   go_ret
   exact ⟨rfl, B2.out⟩
end Go.Proofs.YtlfnniipkdcpdaaDoor
