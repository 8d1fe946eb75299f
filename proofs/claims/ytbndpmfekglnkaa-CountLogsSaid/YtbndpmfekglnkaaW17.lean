/- Walk: CountTells, given that the two plain functions agree. -/
import Derived.Test.YtbndpmfekglnkaaW15
import Derived.Test.YtbndpmfekglnkaaW16
namespace Go.Proofs.Ytbndpmfekglnkaa
open Go.RowKit

theorem tells_long (ao : Option Addr) (cap : Nat) (zs : List Int) (w : World) (hs : Sl w ao cap zs) (hlong : 150 < zs.length) :
    Calls Try.prog 3 #[.slice ao zs.length cap] w fun r w' => r = .returned (.bool true) ∧ Below w.heap.size w w' := by
  obtain ⟨h1, h2⟩ := hs.bound
  clear hs
  go_enter Try.func3, Try.ntmps3
  go_wp2_with (go_at_call 9; refine (awake_any _).mono ?_; rintro e w' ⟨rfl, hb⟩)
  go_ret
  exact ⟨rfl, by assumption⟩

set_option maxRecDepth 100000 in
set_option maxHeartbeats 2000000 in
theorem tells_short (ao : Option Addr) (cap : Nat) (zs : List Int) (w : World) (hs : Sl w ao cap zs) (hshort : zs.length ≤ 150) (hEq : ofM zs = ofR zs) :
    Calls Try.prog 3 #[.slice ao zs.length cap] w fun r w' => r = .returned (.bool true) ∧ Below w.heap.size w w' := by
  obtain ⟨h1, h2⟩ := hs.bound
  have hbig : zs.length ≤ 100000 := by omega
  have HSl := Lib.hid hs; clear hs
  have HP := Lib.hid (fun a c w h => hEq ▸ ofP_any a c zs w h hbig)
  have HRf := Lib.hid (fun a c w h => of_any a c zs w h hbig)
  have HK := Lib.hid (fun g w hl hs => kept_any g ao cap zs w hl hs hbig)
  clear hEq
  generalize ofR zs = R at *
  obtain ⟨c, e⟩ := R
  simp only [] at HP HRf
  go_enter Try.func3, Try.ntmps3
  go_wp2_with (first
    | (go_at_call 10; refine (lent_any _ _ _ _ HSl.out hbig).mono ?_; rintro e' w1 ⟨rfl, hl1, hb1⟩; have HL1 := Lib.hid hl1; have HB1 := Lib.hid hb1; clear hl1 hb1)
    | (go_at_call 11; refine (HP.out _ _ _ (HL1.out.sl (by omega))).mono ?_; rintro e' w2 ⟨rfl, hb2⟩; have HB2 := Lib.hid hb2; clear hb2; simp only [Cn.vals])
    | (go_at_call 12; refine (HRf.out _ _ _ (HSl.out.below (HB1.out.trans ((HB2.out.mono HB1.out.size).alloc (by have := HB1.out.size; have := HB2.out.size; omega) _)))).mono ?_; rintro e' w3 ⟨rfl, hb3⟩; have HB3 := Lib.hid hb3; clear hb3; simp only [Cn.vals]))
  have hb3 := HB3.out
  have hA : Below w.heap.size w (w2.alloc (.cells #[.int .i64 c.calls, .int .i64 c.bodies, .int .i64 c.grows, .int .i64 c.seeds, .int .i64 c.hits, .int .i64 c.puts, .int .i64 c.drops, .int .i64 c.ends, .int .i64 c.live, .int .i64 c.peak, .int .i64 c.opn, .int .i64 c.deep, .int .i64 c.most] 26)) := (HB1.out.trans (HB2.out.mono HB1.out.size)).alloc (by have := HB1.out.size; have := HB2.out.size; omega) _
  have hw3 : Below w.heap.size w w3 := hA.trans (hb3.mono hA.size)
  have h4 : (w3.alloc (.cells #[.int .i64 c.calls, .int .i64 c.bodies, .int .i64 c.grows, .int .i64 c.seeds, .int .i64 c.hits, .int .i64 c.puts, .int .i64 c.drops, .int .i64 c.ends, .int .i64 c.live, .int .i64 c.peak, .int .i64 c.opn, .int .i64 c.deep, .int .i64 c.most] 30)).heap[w2.heap.size]? = some (.cells #[.int .i64 c.calls, .int .i64 c.bodies, .int .i64 c.grows, .int .i64 c.seeds, .int .i64 c.hits, .int .i64 c.puts, .int .i64 c.drops, .int .i64 c.ends, .int .i64 c.live, .int .i64 c.peak, .int .i64 c.opn, .int .i64 c.deep, .int .i64 c.most] 26 (0, 0)) := by
    rw [Below.heap_alloc _ _ _ (by have := hb3.size; simp at this; omega), hb3.block _ (by simp)]; exact heap_alloc_new _ _
  have h6 := heap_alloc_new w3 (.cells #[.int .i64 c.calls, .int .i64 c.bodies, .int .i64 c.grows, .int .i64 c.seeds, .int .i64 c.hits, .int .i64 c.puts, .int .i64 c.drops, .int .i64 c.ends, .int .i64 c.live, .int .i64 c.peak, .int .i64 c.opn, .int .i64 c.deep, .int .i64 c.most] 30)
  have hwb : Below w.heap.size w (w3.alloc (.cells #[.int .i64 c.calls, .int .i64 c.bodies, .int .i64 c.grows, .int .i64 c.seeds, .int .i64 c.hits, .int .i64 c.puts, .int .i64 c.drops, .int .i64 c.ends, .int .i64 c.live, .int .i64 c.peak, .int .i64 c.opn, .int .i64 c.deep, .int .i64 c.most] 30)) := hw3.alloc hw3.size _
  have hle : LentAt (w3.alloc (.cells #[.int .i64 c.calls, .int .i64 c.bodies, .int .i64 c.grows, .int .i64 c.seeds, .int .i64 c.hits, .int .i64 c.puts, .int .i64 c.drops, .int .i64 c.ends, .int .i64 c.live, .int .i64 c.peak, .int .i64 c.opn, .int .i64 c.deep, .int .i64 c.most] 30)) w.heap.size zs := (((HL1.out.later HB2.out).later ((Below.refl _ _).alloc (Nat.le_refl _) _)).later hb3).later ((Below.refl _ _).alloc (Nat.le_refl _) _)
  have H4 := Lib.hid h4; have H6 := Lib.hid h6; have HWB := Lib.hid hwb; have HLE := Lib.hid hle
  clear h4 h6 hwb hle hb3 hA hw3 HB1 HB2 HB3 HL1 HP HRf
  revert H4 H6 HWB HLE
  generalize w2.heap.size = g4
  generalize w3.heap.size = g6
  generalize w3.alloc (.cells #[.int .i64 c.calls, .int .i64 c.bodies, .int .i64 c.grows, .int .i64 c.seeds, .int .i64 c.hits, .int .i64 c.puts, .int .i64 c.drops, .int .i64 c.ends, .int .i64 c.live, .int .i64 c.peak, .int .i64 c.opn, .int .i64 c.deep, .int .i64 c.most] 30) = wb
  intro H4 H6 HWB HLE
  have hc4 : ∀ (x : Later wb) o, x.val.cell? ⟨g4, o, none⟩ = _ := fun x o => cell_of_row _ _ o _ _ _ ((x.ok.block _ (lt_of_block H4.out)).trans H4.out)
  have hc6 : ∀ (x : Later wb) o, x.val.cell? ⟨g6, o, none⟩ = _ := fun x o => cell_of_row _ _ o _ _ _ ((x.ok.block _ (lt_of_block H6.out)).trans H6.out)
  have HKx : Hid (∀ x : Later wb, Calls Try.prog 14 #[.slice (some ⟨w.heap.size, 0, none⟩) zs.length (zs.length + 12), .slice ao zs.length cap] x.val fun r w' => r = .returned (.bool true) ∧ Below x.val.heap.size x.val w') := fun x => HK.out _ _ (HLE.out.later x.ok) ((HSl.out.below HWB.out).below x.ok)
  have HCx : Hid (∀ x : Later wb, Calls Try.prog 13 #[.agg #[.int .i64 c.calls, .int .i64 c.bodies, .int .i64 c.grows, .int .i64 c.seeds, .int .i64 c.hits, .int .i64 c.puts, .int .i64 c.drops, .int .i64 c.ends, .int .i64 c.live, .int .i64 c.peak, .int .i64 c.opn, .int .i64 c.deep, .int .i64 c.most]] x.val fun r w' => r = .returned (.agg #[.int .i64 c.calls, .int .i64 c.bodies, .int .i64 c.grows, .int .i64 c.seeds, .int .i64 c.hits, .int .i64 c.puts, .int .i64 c.drops, .int .i64 c.ends, .int .i64 c.live, .int .i64 c.peak, .int .i64 c.opn, .int .i64 c.deep, .int .i64 c.most]) ∧ Below x.val.heap.size x.val w') := fun x => conv_any c x.val
  refine wp_region_later (by kernel_rfl) (by kernel_rfl) ?_
  repeat (go_big_quiet_step (first
    | (go_at_call 13; exact Calls.later (HCx.out _))
    | (go_at_call 14; exact Calls.later (HKx.out _))
    | (go_at_call 9; exact Calls.later (awake_any _))))
  refine wpQuiet_nil ?_
  intro w5 hw5
  obtain ⟨x, rfl⟩ := hw5
  go_wp2_with fail
  go_ret
  exact ⟨rfl, HWB.out.trans (x.ok.mono HWB.out.size)⟩
end Go.Proofs.Ytbndpmfekglnkaa
