/- Walk: SameTwigs of the same twigs. -/
import Derived.Test.YtmpccinbeepbgaaCD
namespace Go.Proofs.Ytmpccinbeepbgaa
open Go.RowKit

theorem Sv.tw5 {w : World} {ao : Option Addr} {n cap : Nat} {t : List Tw} (h : Sv w ao n cap 5 (t.flatMap twc)) {k : Nat} (hk : k < t.length) :
    ∃ a, ao = some a ∧ w.cell? (a.add (k * 5)) = some (.int .i64 t[k].rule) ∧ w.cell? ⟨(a.add (k * 5)).block, (a.add (k * 5)).off + 1, none⟩ = some (.int .i64 t[k].lev) ∧ w.cell? ⟨(a.add (k * 5)).block, (a.add (k * 5)).off + 2, none⟩ = some (.int .i64 t[k].fr) ∧
      w.cell? ⟨(a.add (k * 5)).block, (a.add (k * 5)).off + 3, none⟩ = some (.int .i64 t[k].to) ∧ w.cell? ⟨(a.add (k * 5)).block, (a.add (k * 5)).off + 4, none⟩ = some (.int .i64 t[k].kids) := by
  obtain ⟨a, ha, hc⟩ := h.elem twc_len k hk (by decide)
  refine ⟨a, ha, ?_, ?_, ?_, ?_, ?_⟩
  · exact hc 0 _ rfl
  · exact hc 1 _ rfl
  · exact hc 2 _ rfl
  · exact hc 3 _ rfl
  · exact hc 4 _ rfl

set_option maxRecDepth 100000 in
set_option maxHeartbeats 2000000 in
theorem sameTw_any (w : World) (ao bo : Option Addr) (n ac bc : Nat) (t : List Tw) (ha : Sv w ao n ac 5 (t.flatMap twc)) (hb : Sv w bo n bc 5 (t.flatMap twc)) :
    Calls Try.prog 18 #[.slice ao n ac, .slice bo n bc] w fun r w' => r = .returned (.bool true) ∧ Below w.heap.size w w' := by
  obtain ⟨h1, h2⟩ := ha.bound
  obtain ⟨h3, h4⟩ := hb.bound
  have hl := ha.elems_len twc_len (by omega)
  have HA := Lib.hid ha; have HB := Lib.hid hb; have HL := Lib.hid hl
  clear ha hb hl
  go_enter Try.func18, Try.ntmps18
  go_wp2_with fail
  go_loopw [5] (fun i wr => ∃ k : Nat, k ≤ n ∧ i = .int .i64 k ∧ Hid (Below w.heap.size w wr)) (fun i _ => n - (intOf i).toNat)
  case atStart => exact ⟨0, by omega, rfl, Below.refl _ _⟩
  case round =>
    obtain ⟨k, hk, rfl, HBr⟩ := hrel
    by_cases hlt : k < n
    · have hlt' : (k : Int) < n := by omega
      have hkl : k < t.length := by have := HL.out; omega
      obtain ⟨a, rfl, a0, a1, a2, a3, a4⟩ := (HA.out.below HBr.out).tw5 hkl
      obtain ⟨b, rfl, b0, b1, b2, b3, b4⟩ := (HB.out.below HBr.out).tw5 hkl
      generalize t[k] = x at *
      obtain ⟨x1, x2, x3, x4, x5⟩ := x
      simp only [] at a0 a1 a2 a3 a4 b0 b1 b2 b3 b4
      clear hkl
      go_wp2_with fail
      go_quiet (fail)
      go_wp2_with fail
      go_roundw
      case rel => exact ⟨k + 1, by omega, by go_num, HBr.out.trans (below_drewN (Below.refl _ _) _ |>.mono HBr.out.size)⟩
      case measure => simp [intOf]; omega
    · have hge : (n : Int) ≤ k := by omega
      go_wp2_with fail
      go_ret
      exact ⟨rfl, HBr.out⟩
end Go.Proofs.Ytmpccinbeepbgaa
