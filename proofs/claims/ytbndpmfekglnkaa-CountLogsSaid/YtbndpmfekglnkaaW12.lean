/- Walks: the log's counts, New. -/
import Derived.Test.YtbndpmfekglnkaaW10
import Derived.Test.YtbndpmfekglnkaaW6
namespace Go.Proofs.Ytbndpmfekglnkaa
open Go.RowKit

theorem new_any (w : World) : Calls Try.prog 16 #[] w fun r w' => r = .returned (.pointer (some ⟨w.heap.size, 0, none⟩)) ∧ w' = w.alloc (.cells (Mt.zero.cells (.slice none 0 0) (.bool true) (.slice none 0 0)) 55) := by
  go_enter Try.func16, Try.ntmps16
  go_wp2
  go_ret
  exact ⟨rfl, rfl⟩

theorem new_log (w : World) : LogAt (w.alloc (.cells (Mt.zero.cells (.slice none 0 0) (.bool true) (.slice none 0 0)) 55)) w.heap.size Mt.zero [] (.slice none 0 0) (.slice none 0 0) :=
  ⟨heap_alloc_new _ _, World.ownsRow_nil _ _ _ _, World.ownsRow_nil _ _ _ _⟩

set_option maxRecDepth 100000 in
set_option maxHeartbeats 2000000 in
theorem counts_any (w : World) (p : Nat) (m : Mt) (tr : List Int) (ov tv : Value) (n : Nat) (h : LogAt w p m tr ov tv) (hk : m.ok n) (hn : n ≤ 1000000) :
    Calls Try.prog 26 #[.pointer (some ⟨p, 0, none⟩)] w fun r w' => r = .returned (.agg m.cn.vals) ∧ Below w.heap.size w w' := by
  have hc : ∀ o, w.cell? ⟨p, o, none⟩ = _ := fun o => h.cell o
  simp only [Mt.cells] at hc
  have hp := h.lt
  have hov : ∃ ao cap, ov = .slice ao m.opn.length cap := by
    rcases h.own.2 with ⟨h1, h0⟩ | ⟨g, cap, cur, h1, _⟩
    · exact ⟨none, 0, by rw [h1, h0]⟩
    · exact ⟨_, cap, h1⟩
  obtain ⟨ao, cap, rfl⟩ := hov
  have HL := Lib.hid h
  have HK := Lib.hid hk
  clear h hk
  go_enter Try.func26, Try.ntmps26
  go_wp2_with fail
  have hb0 := ((Below.refl _ _).alloc (Nat.le_refl w.heap.size) (.cells #[.int .i64 0, .int .i64 0, .int .i64 0, .int .i64 0, .int .i64 0, .int .i64 0, .int .i64 0, .int .i64 0, .int .i64 0, .int .i64 0, .int .i64 0, .int .i64 0, .int .i64 0] 26)).alloc (by simp) (.cells #[.int .i64 m.a0, .int .i64 m.a1, .int .i64 m.a2, .int .i64 m.a3, .int .i64 m.a4, .int .i64 m.a5, .int .i64 m.a6, .int .i64 m.a7, .int .i64 m.a8] 50)
  have hr0 := heap_alloc2_old w (.cells #[.int .i64 0, .int .i64 0, .int .i64 0, .int .i64 0, .int .i64 0, .int .i64 0, .int .i64 0, .int .i64 0, .int .i64 0, .int .i64 0, .int .i64 0, .int .i64 0, .int .i64 0] 26) (.cells #[.int .i64 m.a0, .int .i64 m.a1, .int .i64 m.a2, .int .i64 m.a3, .int .i64 m.a4, .int .i64 m.a5, .int .i64 m.a6, .int .i64 m.a7, .int .i64 m.a8] 50)
  have ht0 := heap_alloc2_new w (.cells #[.int .i64 0, .int .i64 0, .int .i64 0, .int .i64 0, .int .i64 0, .int .i64 0, .int .i64 0, .int .i64 0, .int .i64 0, .int .i64 0, .int .i64 0, .int .i64 0, .int .i64 0] 26) (.cells #[.int .i64 m.a0, .int .i64 m.a1, .int .i64 m.a2, .int .i64 m.a3, .int .i64 m.a4, .int .i64 m.a5, .int .i64 m.a6, .int .i64 m.a7, .int .i64 m.a8] 50)
  have HB0 := Lib.hid hb0; have HR0 := Lib.hid hr0; have HT0 := Lib.hid ht0
  clear hb0 hr0 ht0 hc
  revert HB0 HR0 HT0
  generalize (w.alloc (.cells #[.int .i64 0, .int .i64 0, .int .i64 0, .int .i64 0, .int .i64 0, .int .i64 0, .int .i64 0, .int .i64 0, .int .i64 0, .int .i64 0, .int .i64 0, .int .i64 0, .int .i64 0] 26)).alloc (.cells #[.int .i64 m.a0, .int .i64 m.a1, .int .i64 m.a2, .int .i64 m.a3, .int .i64 m.a4, .int .i64 m.a5, .int .i64 m.a6, .int .i64 m.a7, .int .i64 m.a8] 50) = wb
  intro HB0 HR0 HT0
  have HLb := Lib.hid (HL.out.later HB0.out)
  have hA : ∀ (x : Later wb) o, x.val.cell? ⟨w.heap.size + 1, o, none⟩ = _ := fun x o => cell_of_row _ _ o _ _ _ ((x.ok.block _ (lt_of_block HT0.out)).trans HT0.out)
  have hP : ∀ (x : Later wb) o, x.val.cell? ⟨p, o, none⟩ = _ := fun x o => (HLb.out.later x.ok).cell o
  simp only [Mt.cells] at hP
  have HLV : Hid (∀ x : Later wb, Calls Try.prog 37 #[.pointer (some ⟨p, 0, none⟩)] x.val fun r w' => r = .returned (.int .i64 m.live) ∧ Below x.val.heap.size x.val w') := fun x => live_any _ p m tr _ tv _ (HLb.out.later x.ok) HK.out hn
  refine wp_region_later_tail 36 (by kernel_rfl) (by kernel_rfl) ?_
  simp only [List.take_succ_cons, List.take_zero, List.drop_succ_cons, List.drop_zero]
  repeat (go_big_quiet_step ((go_at_call 37; exact Calls.later (HLV.out _))))
  refine wpQuiet_nil ?_
  intro w5 hw5
  obtain ⟨x, rfl⟩ := hw5
  have HR5 := Lib.hid ((x.ok.block _ (lt_of_block HR0.out)).trans HR0.out)
  have K1 : Hid ((Try.prog.info? 26).map (·.size) = some (m.cn).vals.size) := by unfold Hid; kernel_rfl
  have K3 : Hid ((m.cn).vals.all (·.oneCell') = true) := by unfold Hid; simp [Mt.cn, Cn.vals, Value.oneCell']
  go_wp2_with (first
    | (refine wpList_store_row rfl 26 (.tmp 2) (.tmp 43) rfl w.heap.size m.cn.vals rfl rfl 26 _ HR5.out K1.out rfl K3.out ?_))
  refine bodyPost_ret (results_cell_row rfl _ _ w.heap.size 26 _ _ _ rfl (setRow_heap _ _ _ _ _ _ HR5.out) Try.underlying26 rfl (by kernel_rfl)) rfl ?_
  exact ⟨rfl, below_setRow (HB0.out.trans (x.ok.mono HB0.out.size)) (Nat.le_refl _) _⟩
end Go.Proofs.Ytbndpmfekglnkaa
