/- Walks: what is no log. -/
import Derived.Test.YtbndpmfekglnkaaW21
namespace Go.Proofs.Ytbndpmfekglnkaa
open Go.RowKit

/-- A log that none has made, or none. -/
def NoLog (w : World) (v : Option Addr) : Prop :=
  v = none ∨ ∃ p, v = some ⟨p, 0, none⟩ ∧ w.heap[p]? = some (.cells (Mt.zero.cells (.slice none 0 0) (.bool false) (.slice none 0 0)) 55 (0, 0))

theorem NoLog.later {w w' : World} {v : Option Addr} (h : NoLog w v) (hb : Below w.heap.size w w') : NoLog w' v := by
  rcases h with h | ⟨p, h, hh⟩
  · exact .inl h
  · exact .inr ⟨p, h, (hb.block _ (lt_of_block hh)).trans hh⟩

theorem is_no (w : World) (v : Option Addr) (h : NoLog w v) : Calls Try.prog 30 #[.pointer v] w fun r w' => r = .returned (.bool false) ∧ w = w' := by
  rcases h with rfl | ⟨p, rfl, hh⟩
  · exact is_nil w
  · have hc := cell_of_row _ p 13 _ _ _ hh
    simp [Mt.cells] at hc
    clear hh
    go_enter Try.func30, Try.ntmps30
    go_wp2
    go_ret
    exact ⟨rfl, rfl⟩

theorem add_no (w : World) (v : Option Addr) (h : NoLog w v) (s : Option Addr) (n c : Nat) :
    Calls Try.prog 17 #[.pointer v, .slice s n c] w fun r w' => r = .returned (.tuple #[.int .i64 0, .int .i64 1]) ∧ w = w' := by
  have H := Lib.hid h; clear h
  go_enter Try.func17, Try.ntmps17
  go_wp2_with (first
    | (go_at_call 30; refine (is_no _ v H.out).mono ?_; rintro e w' ⟨rfl, rfl⟩))
  go_ret2
  exact ⟨rfl, rfl⟩

theorem trace_no (w : World) (v : Option Addr) (h : NoLog w v) : Calls Try.prog 19 #[.pointer v] w fun r w' => r = .returned (.slice none 0 0) ∧ w = w' := by
  have H := Lib.hid h; clear h
  go_enter Try.func19, Try.ntmps19
  go_wp2_with (first
    | (go_at_call 30; refine (is_no _ v H.out).mono ?_; rintro e w' ⟨rfl, rfl⟩))
  go_ret
  exact ⟨rfl, rfl⟩

theorem copy_no (w : World) (v : Option Addr) (h : NoLog w v) : Calls Try.prog 20 #[.pointer v] w fun r w' => r = .returned (.pointer none) ∧ w = w' := by
  have H := Lib.hid h; clear h
  go_enter Try.func20, Try.ntmps20
  go_wp2_with (first
    | (go_at_call 30; refine (is_no _ v H.out).mono ?_; rintro e w' ⟨rfl, rfl⟩))
  go_ret
  exact ⟨rfl, rfl⟩

theorem counts_no (w : World) (v : Option Addr) (h : NoLog w v) : Calls Try.prog 18 #[.pointer v] w fun r w' => r = .returned (.agg Cn.zero.vals) ∧ Below w.heap.size w w' := by
  have H := Lib.hid h; clear h
  have K1 : Hid ((Try.prog.info? 26).map (·.size) = some (Cn.zero).vals.size) := by unfold Hid; kernel_rfl
  have K3 : Hid ((Cn.zero).vals.all (·.oneCell') = true) := by unfold Hid; simp [Cn.vals, Value.oneCell']
  go_enter Try.func18, Try.ntmps18
  go_wp2_with (first
    | (go_at_call 30; refine (is_no _ v (H.out.later ((Below.refl _ _).alloc (Nat.le_refl _) _))).mono ?_; rintro e w' ⟨rfl, rfl⟩)
    | (with_reducible refine wpList_store_row rfl 26 (.tmp 2) (.tmp 6) rfl w.heap.size Cn.zero.vals rfl rfl 26 _ (heap_alloc_new _ _) K1.out rfl K3.out ?_))
  first
    | refine bodyPost_ret (results_cell_row rfl _ _ w.heap.size 26 _ _ _ rfl (setRow_heap _ _ _ _ _ _ (heap_alloc_new _ _)) Try.underlying26 rfl (by kernel_rfl)) rfl ?_
    | refine bodyPost_ret (results_cell_row rfl _ _ w.heap.size 26 _ _ _ rfl (heap_alloc_new _ _) Try.underlying26 rfl (by kernel_rfl)) rfl ?_
  first
    | exact ⟨rfl, below_setRow ((Below.refl _ _).alloc (Nat.le_refl _) _) (Nat.le_refl _) _⟩
    | exact ⟨rfl, ((Below.refl _ _).alloc (Nat.le_refl _) _)⟩
end Go.Proofs.Ytbndpmfekglnkaa
