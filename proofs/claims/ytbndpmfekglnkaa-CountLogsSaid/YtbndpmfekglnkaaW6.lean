/- Walks: the reference's Of, whole. -/
import Derived.Test.YtbndpmfekglnkaaW5
namespace Go.Proofs.Ytbndpmfekglnkaa
open Go.RowKit

set_option maxRecDepth 100000 in
set_option maxHeartbeats 2000000 in
theorem of_err (ao : Option Addr) (cap : Nat) (zs : List Int) (w : World) (hs : Sl w ao cap zs) (hbig : zs.length ≤ 100000) (hp2 : (putR [] zs 0).2 ≠ 0) :
    Calls Try.prog 12 #[.slice ao zs.length cap] w fun r w' => r = .returned (.tuple #[.agg (ofR zs).1.vals, .int .i64 (ofR zs).2]) ∧ Below w.heap.size w w' := by
  obtain ⟨h1, h2⟩ := hs.bound
  have HSl := Lib.hid hs; clear hs
  obtain ⟨p, hp⟩ : ∃ p, putR [] zs 0 = p := ⟨_, rfl⟩
  have HPut := Lib.hid (fun w' (h : Sl w' ao cap zs) => hp ▸ put_any none ao 0 cap [] zs w' (Sl.nil _) h (by simp; omega))
  have HF : Hid (ofR zs = (Cn.zero, p.2)) := by unfold Hid; rw [hp] at hp2; simp only [ofR, hp, if_pos hp2]
  rw [hp] at hp2
  clear hp
  obtain ⟨p1, p2⟩ := p
  simp only [List.length_nil] at HPut hp2
  have hne : (p2 != 0) = true := by rw [bne_iff_ne]; exact hp2
  clear hp2
  have K1 : Hid ((Try.prog.info? 30).map (·.size) = some (Array.size (#[.int .i64 0, .int .i64 0, .int .i64 0, .int .i64 0, .int .i64 0, .int .i64 0, .int .i64 0, .int .i64 0, .int .i64 0, .int .i64 0, .int .i64 0, .int .i64 0, .int .i64 0] : Array Value))) := by unfold Hid; kernel_rfl
  have K2 : Hid (Cn.zero.vals.size = Array.size (#[.int .i64 0, .int .i64 0, .int .i64 0, .int .i64 0, .int .i64 0, .int .i64 0, .int .i64 0, .int .i64 0, .int .i64 0, .int .i64 0, .int .i64 0, .int .i64 0, .int .i64 0] : Array Value)) := rfl
  have K3 : Hid ((#[.int .i64 0, .int .i64 0, .int .i64 0, .int .i64 0, .int .i64 0, .int .i64 0, .int .i64 0, .int .i64 0, .int .i64 0, .int .i64 0, .int .i64 0, .int .i64 0, .int .i64 0] : Array Value).all (·.oneCell') = true) := by unfold Hid; simp [Value.oneCell']
  go_enter Try.func12, Try.ntmps12
  go_wp2_with (first
    | (go_at_call 21; refine (HPut.out _ (HSl.out.below ((Below.refl _ _).alloc (Nat.le_refl _) _))).mono ?_; rintro e w1 ⟨rfl, hb1⟩; have HB1 := Lib.hid hb1; clear hb1; have HR1 := Lib.hid (show w1.heap[w.heap.size]? = some (.cells Cn.zero.vals 30 (0, 0)) by rw [HB1.out.block _ (by simp)]; exact heap_alloc_new w _))
    | (with_reducible refine wpList_store_row rfl 30 (.tmp 2) (.tmp 15) rfl w.heap.size _ rfl rfl 30 _ HR1.out K1.out K2.out K3.out ?_))
  refine bodyPost_ret (results_row_tmp rfl _ _ w.heap.size 30 _ _ _ rfl (setRow_heap _ _ _ _ _ _ HR1.out) Try.underlying30 rfl (by kernel_rfl)) rfl ?_
  refine ⟨?_, ?_⟩
  · rw [HF.out]; rfl
  · exact below_setRow (((Below.refl _ _).alloc (Nat.le_refl _) _).trans (HB1.out.mono (by simp))) (Nat.le_refl _) _

theorem of_any (ao : Option Addr) (cap : Nat) (zs : List Int) (w : World) (hs : Sl w ao cap zs) (hbig : zs.length ≤ 100000) :
    Calls Try.prog 12 #[.slice ao zs.length cap] w fun r w' => r = .returned (.tuple #[.agg (ofR zs).1.vals, .int .i64 (ofR zs).2]) ∧ Below w.heap.size w w' := by
  by_cases hp2 : (putR [] zs 0).2 = 0
  · exact of_ok ao cap zs w hs hbig hp2
  · exact of_err ao cap zs w hs hbig hp2
end Go.Proofs.Ytbndpmfekglnkaa
