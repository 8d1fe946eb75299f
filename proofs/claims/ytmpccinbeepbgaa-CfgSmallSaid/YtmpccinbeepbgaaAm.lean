/- Walks: marks. -/
import Derived.Test.YtmpccinbeepbgaaTt
import Derived.Test.YtmpccinbeepbgaaCD
namespace Go.Proofs.Ytmpccinbeepbgaa
open Go.RowKit

/-- The mark of a place in a list. -/
def mkI (k i : Int) : Int := 1000003 * (k + 7) + i
set_option maxRecDepth 100000 in
theorem mark_any (w : World) (k i : Int) (h0 : 0 ≤ k) (h1 : k ≤ 1000) (h2 : 0 ≤ i) (h3 : i ≤ 10000) :
    Calls Try.prog 44 #[.int .i64 k, .int .i64 i] w fun r w' => r = .returned (.int .i64 (mkI k i)) ∧ w = w' := by
  go_enter Try.func44, Try.ntmps44
  go_wp2_with fail
  go_ret
  exact ⟨rfl, rfl⟩
/-- A twig of a mark; what a mark is, is left open: a large number in it would cost the kernel too much. -/
def mkT (μ : Int → Int → Int) (k i : Int) : Tw := ⟨μ k i, 0, 0, 0, 0⟩
/-- The marks are those of μ. -/
def MkC (μ : Int → Int → Int) : Prop := ∀ (w : World) (k i : Int), 0 ≤ k → k ≤ 1000 → 0 ≤ i → i ≤ 10000 →
    Calls Try.prog 78 #[.int .i64 k, .int .i64 i] w fun r w' => r = .returned (.agg #[.int .i64 (μ k i), .int .i64 0, .int .i64 0, .int .i64 0, .int .i64 0]) ∧ Below w.heap.size w w'
set_option maxRecDepth 100000 in
theorem markTw_any (w : World) (k i : Int) (h0 : 0 ≤ k) (h1 : k ≤ 1000) (h2 : 0 ≤ i) (h3 : i ≤ 10000) :
    Calls Try.prog 78 #[.int .i64 k, .int .i64 i] w fun r w' => r = .returned (.agg #[.int .i64 (mkI k i), .int .i64 0, .int .i64 0, .int .i64 0, .int .i64 0]) ∧ Below w.heap.size w w' := by
  have HM := Lib.hid (fun w' => mark_any w' k i h0 h1 h2 h3)
  clear h0 h1 h2 h3
  go_enter Try.func78, Try.ntmps78
  go_wp2_with (first | (go_at_call 44; refine (HM.out _).mono ?_; rintro e w2 ⟨rfl, rfl⟩))
  exact bodyPost_ret (v := .agg #[.int .i64 (mkI k i), .int .i64 0, .int .i64 0, .int .i64 0, .int .i64 0]) (by simp [results, Try.results78, go_sem]) rfl ⟨rfl, (Below.refl _ _).alloc (Nat.le_refl _) _⟩
end Go.Proofs.Ytmpccinbeepbgaa
