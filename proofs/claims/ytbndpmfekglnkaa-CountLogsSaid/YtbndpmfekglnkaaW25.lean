/- Walks: two rows are the same; a lent row is written over. -/
import Derived.Test.YtbndpmfekglnkaaW24
namespace Go.Proofs.Ytbndpmfekglnkaa
open Go.RowKit

set_option maxHeartbeats 1000000 in
theorem same_any (ao bo : Option Addr) (n ca cb : Nat) (zs : List Int) (w : World) (hn : n = zs.length) (ha : Sl w ao ca zs) (hb : Sl w bo cb zs) :
    Calls Try.prog 23 #[.slice ao n ca, .slice bo n cb] w fun r w' => r = .returned (.bool true) ∧ Below w.heap.size w w' := by
  subst hn
  obtain ⟨h1, h2⟩ := ha.bound
  obtain ⟨h3, h4⟩ := hb.bound
  have HA := Lib.hid ha; have HB := Lib.hid hb
  clear ha hb
  go_enter Try.func23, Try.ntmps23
  go_wp2_with fail
  go_loopw [5] (fun i wr => ∃ k : Nat, k ≤ zs.length ∧ i = .int .i64 k ∧ Hid (Below w.heap.size w wr)) (fun i _ => zs.length - (intOf i).toNat)
  case atStart => exact ⟨0, by omega, rfl, Below.refl _ _⟩
  case round =>
    obtain ⟨k, hk, rfl, hI⟩ := hrel
    by_cases hlt : k < zs.length
    · have hca : ∀ x : Later wr, ∃ a, ao = some a ∧ x.val.cell? (a.add k) = some (.int .i64 (zs.getD k 0)) := fun x => ((HA.out.below hI.out).below x.ok).2.2.2 k hlt
      have hcb : ∀ x : Later wr, ∃ a, bo = some a ∧ x.val.cell? (a.add k) = some (.int .i64 (zs.getD k 0)) := fun x => ((HB.out.below hI.out).below x.ok).2.2.2 k hlt
      obtain ⟨a, rfl, _⟩ := hca default
      obtain ⟨b, rfl, _⟩ := hcb default
      have hca' : ∀ x : Later wr, x.val.cell? (a.add k) = some (.int .i64 (zs.getD k 0)) := fun x => by obtain ⟨a', h, hc⟩ := hca x; cases h; exact hc
      have hcb' : ∀ x : Later wr, x.val.cell? (b.add k) = some (.int .i64 (zs.getD k 0)) := fun x => by obtain ⟨a', h, hc⟩ := hcb x; cases h; exact hc
      clear hca hcb
      generalize zs.getD k 0 = y at *
      have hk0 : (0 : Int) ≤ k := by omega
      have hkl : (k : Int) < zs.length := by omega
      go_upto_region 6 with (fail)
      refine wp_region_later (by kernel_rfl) (by kernel_rfl) ?_
      repeat (go_big_quiet_step (fail))
      refine wpQuiet_nil ?_
      intro w5 hw5
      obtain ⟨x, rfl⟩ := hw5
      clear hca' hcb'
      go_wp2_with fail
      go_roundw
      case rel => exact ⟨k + 1, by omega, by go_num, hI.out.trans (x.ok.mono hI.out.size)⟩
      case measure => simp [intOf]; omega
    · go_wp2_with fail
      go_ret
      exact ⟨rfl, hI.out⟩

set_option maxHeartbeats 1000000 in
theorem over_any (g n : Nat) (cs : Array Value) (w : World) (hr : hrow w g cs 36) (hs : cs.size = n + 12) (hbig : n ≤ 500) :
    Calls Try.prog 22 #[.slice (some ⟨g, 0, none⟩) n (n + 12)] w fun r w' => r = .returned (.tuple #[]) ∧ Fr (fun k => k = g) w w' := by
  have HR := Lib.hid hr; have HS := Lib.hid hs
  clear hr hs
  go_enter Try.func22, Try.ntmps22
  go_wp2_with fail
  go_loopw [3] (fun i wr => ∃ k : Nat, k ≤ n + 12 ∧ i = .int .i64 k ∧ Hid (∃ cs, hrow wr g cs 36 ∧ cs.size = n + 12 ∧ Fr (fun k => k = g) w wr)) (fun i _ => n + 12 - (intOf i).toNat)
  case atStart => exact ⟨0, by omega, rfl, cs, HR.out, HS.out, Fr.refl _ _⟩
  case round =>
    obtain ⟨k, hk, rfl, hI⟩ := hrel
    obtain ⟨cs1, hr1, hs1, hf1⟩ := hI.out
    have HR1 := Lib.hid hr1; have HS1 := Lib.hid hs1; have HF1 := Lib.hid hf1
    clear hI hr1 hs1 hf1
    by_cases hlt : k < n + 12
    · have hc : wr.cell? ⟨g, k, none⟩ = some cs1[k]! := by
        rw [HR1.out.cell k]
        have := HS1.out
        simp [show k < cs1.size from by omega]
      have hf : wr.frozen? ⟨g, k, none⟩ = false := frozen_of_row _ g k _ _ HR1.out
      generalize cs1[k]! = old at *
      go_wp2_with (go_at_call 25; refine (markEvent_any _ _ _ (by decide) (by decide) (by omega) (by omega)).mono ?_; rintro e w' ⟨rfl, rfl⟩)
      go_roundw
      case rel =>
        refine ⟨k + 1, by omega, by go_num, _, heap_setCell_same _ _ _ _ _ _ HR1.out, by simpa using HS1.out, HF1.out.trans (Fr.setCell _ _ _) (fun _ _ h => h)⟩
      case measure => simp [intOf]; omega
    · go_wp2_with fail
      go_end0
      exact ⟨rfl, HF1.out⟩
end Go.Proofs.Ytbndpmfekglnkaa
