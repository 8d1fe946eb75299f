/- Walks: sets of bytes, third part; what may be an operator. -/
import Derived.Test.YtmpccinbeepbgaaC2
namespace Go.Proofs.Ytmpccinbeepbgaa
open Go.RowKit

set_option maxRecDepth 100000 in
set_option maxHeartbeats 1000000 in
theorem orF_any (w : World) (ao : Option Addr) (cap n : Nat) (Ws : List (Nat → Nat)) (hs : Sv w ao n cap 4 (cws Ws)) (hW : ∀ W ∈ Ws, Words W) :
    Calls Try.prog 65 #[.slice ao n cap] w fun r w' => r = .returned (.agg (cw (orL Ws))) ∧ Below w.heap.size w w' := by
  have HSl := Lib.hid hs; clear hs
  have HZ := Lib.hid hW; clear hW
  have K2 : Hid ((Try.prog.info? 132).map (·.size) = some (cw (orL Ws)).size) := cw_info.1
  go_enter Try.func65, Try.ntmps65
  go_wp2_with fail
  have HB := Lib.hid ((Below.refl w.heap.size w).alloc (Nat.le_refl _) (.cells #[.int .u64 0, .int .u64 0, .int .u64 0, .int .u64 0] 132))
  have HR := Lib.hid (show hrow (w.alloc (.cells #[.int .u64 0, .int .u64 0, .int .u64 0, .int .u64 0] 132)) w.heap.size (cw noW) 132 from hrow.new _ _ _)
  revert HB HR
  generalize w.alloc (.cells #[.int .u64 0, .int .u64 0, .int .u64 0, .int .u64 0] 132) = wb
  intro HB HR
  refine (fold_any wb ao cap n Ws (HSl.out.below HB.out) HZ.out).mono ?_
  rintro e w2 ⟨rfl, hb2⟩
  have HB2 := Lib.hid hb2; clear hb2
  have HR2 := Lib.hid (HR.out.below HB2.out)
  go_wp2_with (first
    | (with_reducible refine wpList_store_row rfl 132 (.tmp 2) (.tmp 5) rfl w.heap.size (cw (orL Ws)) rfl rfl 132 _ HR2.out.h K2.out rfl (cw_one _) ?_))
  refine bodyPost_ret (results_cell_row rfl _ _ w.heap.size 132 _ _ _ rfl (setRow_heap _ _ _ _ _ _ HR2.out) Try.underlying132 rfl K2.out) rfl ?_
  exact ⟨rfl, below_setRow (HB.out.trans (HB2.out.mono HB.out.size)) (Nat.le_refl _) _⟩

set_option maxRecDepth 100000 in
set_option maxHeartbeats 1000000 in
theorem hasF_any (w : World) (W : Nat → Nat) (hW : Words W) (b : Nat) (hb : b < 256) :
    Calls Try.prog 64 #[.agg (cw W), .int .u8 b] w fun r w' => r = .returned (.bool (inW W b)) ∧ Below w.heap.size w w' := by
  have HW := Lib.hid hW; clear hW
  have K1 : Hid ((Try.prog.info? 132).map (·.size) = some (cw W).size) := cw_info.1
  have K2 : Hid ((Try.prog.info? 177).map (·.size) = some (cw W).size) := cw_info.2
  have HN := Lib.hid (heap_alloc2_new w (.cells (cw W) 132) (.cells #[.int .u64 0, .int .u64 0, .int .u64 0, .int .u64 0] 177))
  go_enter Try.func64, Try.ntmps64
  go_upto_region 2 with (first
    | (with_reducible refine wpList_load_row rfl 132 (.tmp 2) rfl w.heap.size rfl 132 _ _ _ (heap_alloc_new _ _) Try.underlying132 rfl K1.out ?_)
    | (with_reducible refine wpList_store_row rfl 177 (.tmp 5) (.tmp 6) rfl (w.heap.size + 1) (cw W) rfl rfl 177 _ HN.out K2.out rfl (cw_one W) ?_))
  have hr := setRow_heap ((w.alloc (.cells (cw W) 132)).alloc (.cells #[.int .u64 0, .int .u64 0, .int .u64 0, .int .u64 0] 177)) (w.heap.size + 1) _ (cw W) 177 _ HN.out
  have hb := below_setRow (((Below.refl w.heap.size w).alloc (Nat.le_refl _) (.cells (cw W) 132)).alloc (by simp) (.cells #[.int .u64 0, .int .u64 0, .int .u64 0, .int .u64 0] 177)) (show w.heap.size ≤ w.heap.size + 1 by omega) (cw W)
  have HR := Lib.hid hr; have HB := Lib.hid hb
  clear hr hb HN
  revert HR HB
  generalize ((w.alloc (.cells (cw W) 132)).alloc (.cells #[.int .u64 0, .int .u64 0, .int .u64 0, .int .u64 0] 177)).setRow (w.heap.size + 1) (cw W) = wb
  intro HR HB
  go_frame
  go_wp2_with (go_at_call 88; refine (has_any _ _ W HR.out HW.out b hb).mono ?_; rintro e w2 ⟨rfl, rfl⟩)
  go_ret
  exact ⟨rfl, HB.out⟩

theorem range48 (w : World) : Calls Try.prog 66 #[.int .u8 48, .int .u8 57] w fun r w' => ∃ W, r = .returned (.agg (cw W)) ∧ Words W ∧ (∀ c, inW W c = decide (48 ≤ c ∧ c ≤ 57)) ∧ Below w.heap.size w w' :=
  range_any w 48 57 (by decide) (by decide)

theorem of40 (w : World) (g : Nat) (h : hrow w g #[.int .u8 40, .int .u8 41] 5) : Calls Try.prog 67 #[.slice (some ⟨g, 0, none⟩) 2 2] w fun r w' => ∃ W, r = .returned (.agg (cw W)) ∧ Words W ∧ (∀ c, inW W c = decide (c = 40 ∨ c = 41)) ∧ Below w.heap.size w w' :=
  (of_any w _ 2 2 [40, 41] (Sv.of_hrow h 2 1 (by unfold maxLen; omega) rfl) (by simp)).mono fun _ _ ⟨W, h1, h2, h3, h4⟩ => ⟨W, h1, h2, fun c => by rw [h3]; simp, h4⟩

theorem or2 (w : World) (g : Nat) (W1 W2 : Nat → Nat) (h : hrow w g #[.int .u64 (W1 0), .int .u64 (W1 1), .int .u64 (W1 2), .int .u64 (W1 3), .int .u64 (W2 0), .int .u64 (W2 1), .int .u64 (W2 2), .int .u64 (W2 3)] 132) (h1 : Words W1) (h2 : Words W2) :
    Calls Try.prog 65 #[.slice (some ⟨g, 0, none⟩) 2 2] w fun r w' => r = .returned (.agg (cw (orL [W1, W2]))) ∧ Below w.heap.size w w' :=
  orF_any w _ 2 2 [W1, W2] (Sv.of_hrow h 2 4 (by unfold maxLen; omega) rfl) (fun W hW => by simp at hW; rcases hW with rfl | rfl <;> assumption)

def mayB (c : Nat) : Bool := !(decide (48 ≤ c ∧ c ≤ 57) || decide (c = 40 ∨ c = 41))

set_option maxRecDepth 100000 in
set_option maxHeartbeats 2000000 in
theorem may_any (w : World) (c : Nat) (hc : c < 256) (r : Bool) :
    Calls Try.prog 36 #[.agg #[.int .u8 c, .bool r]] w fun e w' => e = .returned (.bool (mayB c)) ∧ Below w.heap.size w w' := by
  go_enter Try.func36, Try.ntmps36
  go_wp2_with fail
  have hc0 := heap_alloc_new w (.cells #[.int .u8 c, .bool r] 43)
  have hb0 := (Below.refl w.heap.size w).alloc (Nat.le_refl _) (.cells #[.int .u8 c, .bool r] 43)
  have HC := Lib.hid hc0; have HB := Lib.hid hb0
  clear hc0 hb0
  revert HC HB
  generalize w.alloc (.cells #[.int .u8 c, .bool r] 43) = wb
  intro HC HB
  have hlt : w.heap.size < wb.heap.size := lt_block HC.out
  have hcl : ∀ w' : World, Below wb.heap.size wb w' → w'.cell? ⟨w.heap.size, 0, none⟩ = some (.int .u8 c) := fun w' hb => (hrow.below HC.out hb).cell 0
  have HCl := Lib.hid hcl
  have hcb : wb.cell? ⟨w.heap.size, 0, none⟩ = some (.int .u8 c) := hcl wb (Below.refl _ _)
  clear hcl
  have HR := Lib.hid (fun w' : World => range48 w')
  go_region_with (first
    | (go_at_call 66; refine (HR.out _).mono ?_; rintro e w2 ⟨W1, rfl, hW1, hin1, hb2⟩; have HW1 := Lib.hid hW1; have HI1 := Lib.hid hin1; have HB2 : Hid (Below wb.heap.size wb w2) := Lib.hid (by first | exact (Below.refl wb.heap.size wb).drew.trans hb2 | exact (((Below.refl wb.heap.size wb).alloc (Nat.le_refl _) (.cells #[.int .u8 40, .int .u8 41] 5)).drew).trans (hb2.mono (by simp))); have HP2 := Lib.hid hb2; have hcx : w2.cell? ⟨w.heap.size, 0, none⟩ = some (.int .u8 c) := HCl.out _ HB2.out; have hlt2 : w.heap.size < w2.heap.size := Nat.lt_of_lt_of_le hlt HB2.out.size; clear hW1 hin1 hb2; simp only [cw])
    | (go_at_call 67; refine (of40 _ _ ?_).mono ?_; (first | exact hrow.new _ _ _ | exact hrow.below (w := (wb.alloc (.cells #[.int .u8 40, .int .u8 41] 5)).drew) (hrow.new wb _ 5) HP2.out); rintro e w3 ⟨W2, rfl, hW2, hin2, hb3⟩; have HW2 := Lib.hid hW2; have HI2 := Lib.hid hin2; have HB3 : Hid (Below wb.heap.size wb w3) := Lib.hid (by first | exact HB2.out.trans (hb3.mono HB2.out.size) | exact (HB2.out.alloc HB2.out.size (.cells #[.int .u8 40, .int .u8 41] 5)).trans (hb3.mono (by have := HB2.out.size; simp; omega))); have hcx3 : w3.cell? ⟨w.heap.size, 0, none⟩ = some (.int .u8 c) := HCl.out _ HB3.out; have hlt3 : w.heap.size < w3.heap.size := Nat.lt_of_lt_of_le hlt HB3.out.size; clear hW2 hin2 hb3; simp only [cw])
    | (go_at_call 65; refine (or2 _ _ W1 W2 ?_ HW1.out HW2.out).mono ?_; exact hrow.new _ _ _; rintro e w4 ⟨rfl, hb4⟩; have HB4 := Lib.hid ((HB3.out.alloc HB3.out.size _).trans (hb4.mono (by have := HB3.out.size; simp; omega))); have hcx4 : w4.cell? ⟨w.heap.size, 0, none⟩ = some (.int .u8 c) := HCl.out _ HB4.out; clear hb4)
    | (go_at_call 64; refine (hasF_any _ (orL [W1, W2]) (orW_words (orW_words noW_words HW1.out) HW2.out) c hc).mono ?_; rintro e w5 ⟨rfl, hb5⟩; have HB5 := Lib.hid (HB4.out.trans (hb5.mono HB4.out.size)); clear hb5))
  all_goals
    have hm : mayB c = !(inW (orL [W1, W2]) c) := by
      show mayB c = !(inW (orW (orW noW W1) W2) c)
      rw [inW_or, inW_or, inW_no, HI1.out, HI2.out]; rfl
    have HM := Lib.hid hm
    clear hm
    generalize inW (orL [W1, W2]) c = bb at *
    go_wp2_with fail
    go_ret
    exact ⟨ret_bool HM.out.symm, HB.out.trans (HB5.out.mono HB.out.size)⟩
end Go.Proofs.Ytmpccinbeepbgaa
