/- Walks: Counts, Trace of a log; a clone of a list of events. -/
import Derived.Test.YtbndpmfekglnkaaW13
import Derived.Test.YtbndpmfekglnkaaW17
namespace Go.Proofs.Ytbndpmfekglnkaa
open Go.RowKit

set_option maxRecDepth 100000 in
set_option maxHeartbeats 2000000 in
theorem countsL_any (w : World) (p : Nat) (m : Mt) (tr : List Int) (ov tv : Value) (n : Nat) (h : LogAt w p m tr ov tv) (hk : m.ok n) (hn : n ≤ 1000000) :
    Calls Try.prog 18 #[.pointer (some ⟨p, 0, none⟩)] w fun r w' => r = .returned (.agg m.cn.vals) ∧ Below w.heap.size w w' := by
  have HL := Lib.hid h
  have HK := Lib.hid hk
  clear h hk
  have K1 : Hid ((Try.prog.info? 26).map (·.size) = some (m.cn).vals.size) := by unfold Hid; kernel_rfl
  have K3 : Hid ((m.cn).vals.all (·.oneCell') = true) := by unfold Hid; simp [Mt.cn, Cn.vals, Value.oneCell']
  go_enter Try.func18, Try.ntmps18
  go_wp2_with fail
  have hb0 := (Below.refl w.heap.size w).alloc (Nat.le_refl w.heap.size) (.cells #[.int .i64 0, .int .i64 0, .int .i64 0, .int .i64 0, .int .i64 0, .int .i64 0, .int .i64 0, .int .i64 0, .int .i64 0, .int .i64 0, .int .i64 0, .int .i64 0, .int .i64 0] 26)
  have hr0 := heap_alloc_new w (.cells #[.int .i64 0, .int .i64 0, .int .i64 0, .int .i64 0, .int .i64 0, .int .i64 0, .int .i64 0, .int .i64 0, .int .i64 0, .int .i64 0, .int .i64 0, .int .i64 0, .int .i64 0] 26)
  have HB0 := Lib.hid hb0; have HR0 := Lib.hid hr0
  clear hb0 hr0
  revert HB0 HR0
  generalize w.alloc (.cells #[.int .i64 0, .int .i64 0, .int .i64 0, .int .i64 0, .int .i64 0, .int .i64 0, .int .i64 0, .int .i64 0, .int .i64 0, .int .i64 0, .int .i64 0, .int .i64 0, .int .i64 0] 26) = wb
  intro HB0 HR0
  have HLb := Lib.hid (HL.out.later HB0.out)
  refine (is_any wb p m tr ov tv HLb.out).mono ?_
  rintro e w1 ⟨rfl, rfl⟩
  go_wp2_with (first
    | (go_at_call 26; refine (counts_any _ _ m _ _ _ _ HLb.out HK.out hn).mono ?_; rintro e' w4 ⟨rfl, hb4⟩; have HB4 := Lib.hid hb4; have HR4 := Lib.hid ((hb4.block _ (lt_of_block HR0.out)).trans HR0.out); clear hb4)
    | (with_reducible refine wpList_store_row rfl 26 (.tmp 2) (.tmp 10) rfl w.heap.size m.cn.vals rfl rfl 26 _ HR4.out K1.out rfl K3.out ?_))
  refine bodyPost_ret (results_cell_row rfl _ _ w.heap.size 26 _ _ _ rfl (setRow_heap _ _ _ _ _ _ HR4.out) Try.underlying26 rfl (by kernel_rfl)) rfl ?_
  exact ⟨rfl, below_setRow (HB0.out.trans (HB4.out.mono HB0.out.size)) (Nat.le_refl _) _⟩

/-- A clone of a list of events: a row of the call's own. -/
theorem clone_any (v : Value) (tr : List Int) (w : World) (h : w.ownsRow 0 36 1 v tr.length (tr.map (.int .i64))) (hbig : tr.length ≤ 1000000) :
    Calls Try.prog 33 #[v] w fun r w' => ∃ u, r = .returned u ∧ Own w w' 36 u tr := by
  rcases h.2 with ⟨rfl, h0⟩ | ⟨g, cap, cur, rfl, hrest⟩
  · have ht : tr = [] := List.eq_nil_of_length_eq_zero h0
    subst ht
    have hq : ∀ (w : World) (n c : Nat), (binOp .eql 22 (.slice none n c) (.slice none 0 0)).run Try.prog w = .ok (.bool true) w := fun w n c => Lib.run_eql_slice_nil (P := Try.prog) w 22 36 none n c 0 0 Try.underlying22
    clear h
    go_enter Try.func33, Try.ntmps33
    go_wp2
    go_ret
    exact ⟨_, rfl, Own.nil w 36⟩
  · obtain ⟨ao, cap', hv, hsl⟩ := Sl.of_owns h
    simp only [Value.slice.injEq] at hv
    obtain ⟨rfl, _, rfl⟩ := hv
    have HSl := Lib.hid hsl
    clear h hrest hsl
    have hq : ∀ (w : World) (a : Addr) (n c : Nat), (binOp .eql 22 (.slice (some a) n c) (.slice none 0 0)).run Try.prog w = .ok (.bool false) w := fun w a n c => Lib.run_eql_slice_nil (P := Try.prog) w 22 36 (some a) n c 0 0 Try.underlying22
    go_enter Try.func33, Try.ntmps33
    go_wp2_with (first
      | (at_builtin; refine wpList_apps w _ rfl _ _ 22 36 rfl Try.ie22 _ [] rfl (Own.lit w 36 [] (by simp)) (some ⟨g, 0, none⟩) cap tr rfl (HSl.out.below ((Below.refl _ _).alloc (Nat.le_refl _) _)) (by simp; omega) ?_; intro v' w3 hO1; have HO1 := Lib.hid hO1; clear hO1))
    go_ret
    exact ⟨_, rfl, by simpa using HO1.out⟩

theorem trace_any (w : World) (p : Nat) (m : Mt) (tr : List Int) (ov tv : Value) (h : LogAt w p m tr ov tv) (hbig : tr.length ≤ 1000000) :
    Calls Try.prog 19 #[.pointer (some ⟨p, 0, none⟩)] w fun r w' => ∃ u, r = .returned u ∧ Own w w' 36 u tr := by
  have hc := h.cell 14
  simp [Mt.cells] at hc
  have HL := Lib.hid h; clear h
  go_enter Try.func19, Try.ntmps19
  go_wp2_with (first
    | (go_at_call 30; refine (is_any _ p m tr ov tv HL.out).mono ?_; rintro e w' ⟨rfl, rfl⟩)
    | (go_at_call 33; refine (clone_any _ tr _ HL.out.trc hbig).mono ?_; rintro e w1 ⟨u, rfl, hO⟩; have HO := Lib.hid hO; clear hO))
  go_ret
  exact ⟨_, rfl, HO.out⟩

theorem traceN_any (w : World) (p : Nat) (m : Mt) (tr : List Int) (ov tv : Value) (h : LogAt w p m tr ov tv) (hbig : tr.length ≤ 1000000) :
    Calls Try.prog 19 #[.pointer (some ⟨p, 0, none⟩)] w fun r w' => ∃ ao cap, r = .returned (.slice ao tr.length cap) ∧ Below w.heap.size w w' :=
  (trace_any w p m tr ov tv h hbig).mono fun e w' ⟨u, he, hO⟩ => by
    obtain ⟨ao, cap, rfl, _⟩ := hO.sl
    exact ⟨ao, cap, he, hO.2⟩
end Go.Proofs.Ytbndpmfekglnkaa
