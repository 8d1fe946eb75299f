/- Walks: the reference's small functions. -/
import Derived.Test.YtbndpmfekglnkaaRows
import Derived.WalkKit
import Derived.WalkSpells
import Derived.WalkLawsBesides
import Derived.Handy
import Derived.Test.YtbndpmfekglnkaaLib
import Derived.Test.YtbndpmfekglnkaaPl
namespace Go.Proofs.Ytbndpmfekglnkaa
open Go.RowKit

set_option maxHeartbeats 400000 in
theorem times_any (ao : Option Addr) (cap : Nat) (zs : List Int) (e : Int) (w : World) (hs : Sl w ao cap zs) :
    Calls Try.prog 27 #[.slice ao zs.length cap, .int .i64 e] w fun r w' => r = .returned (.int .i64 (cnt e zs)) ∧ w = w' := by
  obtain ⟨h1, h2⟩ := hs.bound
  have H3 := Lib.hid hs.2.2.2; clear hs
  go_enter Try.func27, Try.ntmps27
  go_wp2
  go_loop [5, 6] (fun n i => ∃ k : Nat, k ≤ zs.length ∧ i = .int .i64 k ∧ n = .int .i64 (cnt e (zs.take k))) (fun _ i => zs.length - (intOf i).toNat)
  case atStart => exact ⟨0, Nat.zero_le _, rfl, rfl⟩
  case round =>
    obtain ⟨k, hk, rfl, rfl⟩ := hrel
    have hc : cnt e (zs.take k) ≤ k := Nat.le_trans (cnt_le _ _) (List.length_take_le _ _)
    by_cases hlt : k < zs.length
    · obtain ⟨a, rfl, hcell⟩ := H3.out k hlt
      have hsn := cnt_snoc e (zs.take k) (zs.getD k 0)
      rw [← take_snoc zs k hlt] at hsn
      generalize zs.getD k 0 = x at *
      have HS := Lib.hid hsn; clear hsn
      go_wp2
      all_goals
        go_round
        case rel => exact ⟨k + 1, by omega, by go_num, by rw [HS.out]; first | (rw [if_pos (by simp_all)]; go_num) | (rw [if_neg (by simp_all)]; go_num)⟩
        case measure => simp [intOf]; omega
    · have ht : zs.take k = zs := List.take_of_length_le (by omega)
      rw [ht]
      go_wp2
      go_ret
      exact ⟨rfl, rfl⟩

set_option maxHeartbeats 400000 in
theorem bodies_any (ao : Option Addr) (cap : Nat) (zs : List Int) (w : World) (hs : Sl w ao cap zs) :
    Calls Try.prog 28 #[.slice ao zs.length cap] w fun r w' => r = .returned (.int .i64 (bodiesR zs)) ∧ w = w' := by
  unfold bodiesR
  obtain ⟨h1, h2⟩ := hs.bound
  have H3 := Lib.hid hs.2.2.2; clear hs
  go_enter Try.func28, Try.ntmps28
  go_wp2
  go_loop [3, 4] (fun n i => ∃ k : Nat, k ≤ zs.length ∧ i = .int .i64 k ∧ n = .int .i64 (cnt 2 (zs.take k))) (fun _ i => zs.length - (intOf i).toNat)
  case atStart => exact ⟨0, Nat.zero_le _, rfl, rfl⟩
  case round =>
    obtain ⟨k, hk, rfl, rfl⟩ := hrel
    have hc : cnt 2 (zs.take k) ≤ k := Nat.le_trans (cnt_le _ _) (List.length_take_le _ _)
    by_cases hlt : k < zs.length
    · obtain ⟨a, rfl, hcell⟩ := H3.out k hlt
      have hsn := cnt_snoc 2 (zs.take k) (zs.getD k 0)
      rw [← take_snoc zs k hlt] at hsn
      generalize zs.getD k 0 = x at *
      have HS := Lib.hid hsn; clear hsn
      go_wp2
      all_goals
        go_round
        case rel => exact ⟨k + 1, by omega, by go_num, by rw [HS.out]; first | (rw [if_pos (by simp_all)]; go_num) | (rw [if_neg (by simp_all)]; go_num)⟩
        case measure => simp [intOf]; omega
    · have ht : zs.take k = zs := List.take_of_length_le (by omega)
      rw [ht]
      go_wp2
      go_ret
      exact ⟨rfl, rfl⟩

set_option maxHeartbeats 400000 in
theorem inner_any (ao : Option Addr) (cap : Nat) (zs : List Int) (w : World) (hs : Sl w ao cap zs) :
    Calls Try.prog 45 #[.slice ao zs.length cap] w fun r w' => r = .returned (.int .i64 (innerR zs)) ∧ w = w' := by
  obtain ⟨h1, h2⟩ := hs.bound
  have H3 := Lib.hid hs.2.2.2; clear hs
  go_enter Try.func45, Try.ntmps45
  go_wp2
  go_loop [3, 4] (fun s i => ∃ k n : Nat, k + n ≤ zs.length ∧ i = .int .i64 ((k : Int) - 1) ∧ s = .int .i64 n ∧ Hid (innerGo (zs.take k).reverse n = innerR zs)) (fun _ i => (intOf i + 1).toNat)
  case atStart => exact ⟨zs.length, 0, by omega, rfl, rfl, by unfold Hid; rw [List.take_length]; rfl⟩
  case round =>
    obtain ⟨k, n, hk, rfl, rfl, hR⟩ := hrel
    rcases k with _ | k
    · go_wp2
      go_ret
      exact ⟨ret_int (by rw [← hR.out]; rfl), rfl⟩
    · obtain ⟨a, rfl, hcell⟩ := H3.out k (by omega)
      have hR' := hR.out
      rw [take_snoc zs k (by omega), List.reverse_append] at hR'
      simp only [List.reverse_cons, List.reverse_nil, List.nil_append, List.cons_append, innerGo, List.length_reverse, List.length_take] at hR'
      generalize zs.getD k 0 = x at *
      have HS := Lib.hid hR'; clear hR' hR
      have e1 : ((k + 1 : Nat) : Int) - 1 = (k : Int) := by omega
      simp only [e1]
      by_cases h8 : x = 8
      · subst h8
        go_wp2
        go_round
        case rel => exact ⟨k, n + 1, by omega, by go_num, by go_num, by unfold Hid; have := HS.out; simpa using this⟩
        case measure => simp [intOf]
      · by_cases hx : x = 1
        · subst hx
          have hn0 : n = 0 ∨ 0 < n := by omega
          rcases hn0 with hn0 | hn0
          · subst hn0
            go_wp2
            go_ret
            exact ⟨ret_int (by have := HS.out; simp at this; omega), rfl⟩
          · have hne : ((n : Int) == 0) = false := by simp; omega
            go_wp2
            go_round
            case rel => exact ⟨k, n - 1, by omega, by go_num, by go_num, by have := HS.out; rw [if_neg (by decide), if_pos rfl, if_neg (by omega)] at this; exact this⟩
            case measure => simp [intOf]
        · have b8 : (x == 8) = false := by simpa using h8
          have b1 : (x == 1) = false := by simpa using hx
          have HS' := Lib.hid (by have := HS.out; rw [if_neg h8, if_neg hx] at this; exact this)
          clear HS h8 hx
          go_wp2
          go_round
          case rel => exact ⟨k, n, by omega, by go_num, rfl, HS'⟩
          case measure => simp [intOf]
end Go.Proofs.Ytbndpmfekglnkaa
