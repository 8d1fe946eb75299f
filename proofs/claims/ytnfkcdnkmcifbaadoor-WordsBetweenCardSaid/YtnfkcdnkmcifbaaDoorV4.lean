/- Walks: words: the number of digits. -/
import Derived.Test.YtnfkcdnkmcifbaaDoorV3
import Derived.Laws.RangeAny
import Derived.Lib.OthersKept
namespace Go.Proofs.YtnfkcdnkmcifbaaDoor
open Go.RowKit
set_option maxRecDepth 100000
set_option maxHeartbeats 4000000

theorem lvF_bd : ∀ (ds : List UInt8), (∀ c ∈ ds, isDg c = true) → 0 ≤ lvF ds ∧ lvF ds < 10 ^ ds.length := by
 intro ds
 unfold lvF
 suffices h : ∀ (ds : List UInt8) (n : Int) (m : Nat), 0 ≤ n → n < 10 ^ m → (∀ c ∈ ds, isDg c = true) → 0 ≤ ds.foldl (fun n c => 10 * n + ((c.toNat : Int) - 48)) n ∧ ds.foldl (fun n c => 10 * n + ((c.toNat : Int) - 48)) n < 10 ^ (m + ds.length) by
  intro hd
  have := h ds 0 0 (by omega) (by simp) hd
  simpa using this
 intro ds
 induction ds with
 | nil => intro n m h0 h1 _; exact ⟨h0, by simpa using h1⟩
 | cons c ds ih =>
  intro n m h0 h1 hd
  have hc := hd c (by simp)
  have hc2 := u8_all (P := fun c => isDg c = true → 48 ≤ (c.toNat : Int) ∧ (c.toNat : Int) ≤ 57) (by decide +kernel) c hc
  rw [List.foldl_cons, List.length_cons, show m + (ds.length + 1) = (m + 1) + ds.length by omega]
  refine ih _ (m + 1) (by omega) ?_ (fun x hx => hd x (by simp [hx]))
  rw [Int.pow_succ]; omega
theorem lvF_snoc (ds : List UInt8) (k : Nat) (h : k < ds.length) : lvF (ds.take (k + 1)) = 10 * lvF (ds.take k) + ((ds[k].toNat : Int) - 48) := by
 unfold lvF
 rw [List.take_succ_eq_append_getElem h, List.foldl_append]; rfl
theorem level_any (ds : List UInt8) (hd : ∀ c ∈ ds, isDg c = true) (hl : ds.length ≤ 1000000) (w : World) : Calls Tryd.prog 27 #[.string (tx ds)] w fun e w' => e = .returned (.int .i64 (lvl ds)) ∧ Below w.heap.size w w' := by
 have hs : (tx ds).size = ds.length := tx_size ds
 by_cases h4 : 4 < ds.length
 ·have h4I : (4 : Int) < ds.length := by omega
  have HE : Hid (lvl ds = 9999) := if_pos h4
  rw [HE.out]
  clear hd h4
  go_enter Tryd.func27, Tryd.ntmps27
  go_wp2_with fail
  go_ret
  exact ⟨rfl, Below.refl _ _⟩
 ·have h4I : ¬ (4 : Int) < ds.length := by omega
  have HE : Hid (lvl ds = lvF ds) := if_neg h4
  have hd3 : decide (4 < ds.length) = false := decide_eq_false h4
  rw [HE.out]
  have HDg := Lib.hid hd; clear hd
  go_enter Tryd.func27, Tryd.ntmps27
  go_wp2_with fail
  have HSz := Lib.hid hs; clear hs
  go_loopw [2] (fun n wr => ∃ k : Nat, k ≤ ds.length ∧ n = .int .i64 (lvF (ds.take k)) ∧ Hid (wr.heap[w.heap.size]? = some (.stringIter (tx ds) k)) ∧ Hid (Below w.heap.size w wr)) (fun _ wr => ds.length - wr.iterPos w.heap.size)
  case atStart => exact ⟨0, by omega, rfl, World.iter_heap w (tx ds) 0, (Below.refl _ _).alloc (Nat.le_refl _) _⟩
  case round =>
   obtain ⟨k, hk, rfl, HI, HB⟩ := hrel
   by_cases hkl : k < ds.length
   ·have hks : k < (tx ds).size := by rw [HSz.out]; exact hkl
    have hcd : isDg ds[k] = true := HDg.out _ (List.getElem_mem hkl)
    have hcc := u8_all (P := fun c => isDg c = true → 48 ≤ (c.toNat : Int) ∧ (c.toNat : Int) ≤ 57) (by decide +kernel) ds[k] hcd
    have hg : (tx ds)[k]'hks = ds[k] := rfl
    have hnx : ∀ ty, (Instr.next (.pointer (some ⟨w.heap.size, 0, none⟩)) true ty).run Tryd.prog wr = _ := fun ty => Lib.run_next_ascii_at wr w.heap.size (tx ds) k ty HI.out hks (by rw [hg]; omega)
    rw [hg] at hnx
    have HI2 := Lib.hid (Lib.iterAt_heap wr w.heap.size (tx ds) k (k + 1) HI.out)
    have HB2 := Lib.hid (Lib.below_iterAt HB.out (k := w.heap.size) (Nat.le_refl _) (tx ds) (k + 1))
    have HS := Lib.hid (lvF_snoc ds k hkl)
    have hbd := lvF_bd (ds.take k) (fun c hc => HDg.out c (List.mem_of_mem_take hc))
    have hbd2 : lvF (ds.take k) < 10000 := by
     have h5 : (ds.take k).length = 0 ∨ (ds.take k).length = 1 ∨ (ds.take k).length = 2 ∨ (ds.take k).length = 3 ∨ (ds.take k).length = 4 := by rw [List.length_take]; omega
     have h3 : (10 : Int) ^ (ds.take k).length ≤ 10000 := by rcases h5 with h | h | h | h | h <;> rw [h] <;> decide
     omega
    obtain ⟨hb0, _⟩ := hbd
    generalize wr.iterAt w.heap.size (tx ds) (k + 1) = w2 at *
    generalize hcn : ds[k] = c at *
    obtain ⟨hc1, hc2⟩ := hcc
    clear hcn hg hcd
    generalize lvF (ds.take k) = n at *
    go_wp2_with fail
    go_roundw
    case rel => exact ⟨k + 1, by omega, by rw [HS.out], HI2.out, HB2.out⟩
    case measure =>
     have e1 : w2.iterPos w.heap.size = k + 1 := by unfold World.iterPos; rw [HI2.out]
     have e2 : wr.iterPos w.heap.size = k := by unfold World.iterPos; rw [HI.out]
     rw [e1, e2]; omega
   ·have hks : ¬ k < (tx ds).size := by rw [HSz.out]; exact hkl
    have hnx : ∀ ty, (Instr.next (.pointer (some ⟨w.heap.size, 0, none⟩)) true ty).run Tryd.prog wr = _ := fun ty => Lib.run_next_end_at wr w.heap.size (tx ds) k ty HI.out hks
    have HT : Hid (ds.take k = ds) := List.take_of_length_le (by omega)
    rw [HT.out]
    go_wp2_with fail
    go_ret
    exact ⟨rfl, HB.out⟩
end Go.Proofs.YtnfkcdnkmcifbaaDoor
