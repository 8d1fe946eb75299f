/- Walks: the operator that has a sign; the symbol behind a sign; is a byte here? -/
import Derived.Test.YtmpccinbeepbgaaC4
namespace Go.Proofs.Ytmpccinbeepbgaa
open Go.RowKit

theorem eq_byte (w : World) (b : Nat) (c x : Int) (r : Bool) (hb : w.cell? ⟨b, 0, none⟩ = some (.int .u8 c)) :
    Calls Try.prog 96 #[.agg #[.int .u8 x, .bool r], .pointer (some ⟨b, 0, none⟩)] w fun e w' => e = .returned (.bool (x == c)) ∧ Below w.heap.size w w' := by
  have hlt := World.block_lt_of_cell? w _ hb
  simp only at hlt
  go_enter Try.func96, Try.ntmps96
  go_wp2
  go_ret
  exact ⟨rfl, (Below.refl _ _).alloc (Nat.le_refl _) _⟩

def ixI (l : Tab) (c : Int) : Int := match ix l c with | some j => (j : Int) | none => -1

theorem ix_first {l : Tab} {c : Int} {k : Nat} (hk : k < l.length) (h : ∀ j (hj : j < k), (l[j]'(by omega)).1 ≠ c) (hc : (l[k]).1 = c) : ix l c = some k := by
  unfold ix
  rw [List.findIdx?_eq_some_iff_getElem]
  exact ⟨hk, by simpa using hc, fun j hj => by simpa using h j hj⟩
theorem ix_never {l : Tab} {c : Int} (h : ∀ j (hj : j < l.length), (l[j]).1 ≠ c) : ix l c = none := by
  unfold ix
  rw [List.findIdx?_eq_none_iff]
  intro o ho
  obtain ⟨i, hi, rfl⟩ := List.getElem_of_mem ho
  simpa using h i hi

set_option maxRecDepth 100000 in
set_option maxHeartbeats 1000000 in
theorem index_any (w : World) (ao : Option Addr) (cap n : Nat) (l : Tab) (hs : Sv w ao n cap 2 (opc l)) (b : Nat) (c : Int) (hb : hrow w b #[.int .u8 c] 5) :
    Calls Try.prog 95 #[.slice ao n cap, .func (.func 96) #[] #[.pointer (some ⟨b, 0, none⟩)]] w fun r w' => r = .returned (.int .i64 (ixI l c)) ∧ Below w.heap.size w w' := by
  obtain ⟨h1, h2⟩ := hs.bound
  have hl := hs.ops_len
  have HSl := Lib.hid hs; clear hs
  have HL := Lib.hid hl; clear hl
  have HB := Lib.hid hb; clear hb
  go_enter Try.func95, Try.ntmps95
  go_wp2_with fail
  go_loopw [8] (fun i wr => ∃ k : Nat, k ≤ n ∧ i = .int .i64 k ∧ Hid ((∀ j (hj : j < l.length), j < k → (l[j]).1 ≠ c) ∧ Below w.heap.size w wr)) (fun i _ => n - (intOf i).toNat)
  case atStart => exact ⟨0, by omega, rfl, (fun j hj h => by omega), Below.refl _ _⟩
  case round =>
    obtain ⟨k, hk, rfl, hI⟩ := hrel
    have HN := Lib.hid hI.out.1; have HBl := Lib.hid hI.out.2
    clear hI
    by_cases hlt : k < n
    · have hkz : k < l.length := by have := HL.out; omega
      obtain ⟨a, rfl, hc0, hc1⟩ := (HSl.out.below HBl.out).op k hkz
      have HF := Lib.hid (fun hc : (l[k]).1 = c => ix_first hkz (fun j hj => HN.out j (by omega) hj) hc)
      have HG := Lib.hid (fun hc : (l[k]).1 ≠ c => fun j (hj : j < l.length) (hjk : j < k + 1) => show (l[j]).1 ≠ c from by
        rcases Nat.lt_or_ge j k with h | h
        · exact HN.out j hj h
        · obtain rfl : j = k := by omega
          exact hc)
      generalize l[k]'_ = o at *
      clear hkz
      obtain ⟨x, r⟩ := o
      simp only [] at hc0 hc1 HF HG
      have h0k : (0 : Int) ≤ k := by omega
      have e2 : (a.add (k * 2)).add 1 = a.add (k * 2 + 1) := add_add _ _ _
      rw [← e2] at hc1
      have HCp := Lib.hid (two_cells hc0 hc1)
      have K2 : Hid ((Try.prog.info? 43).map (·.size) = some (#[Value.int .u8 x, .bool r] : Array Value).size) := by unfold Hid; kernel_rfl
      have HBc : Hid (wr.cell? ⟨b, 0, none⟩ = some (.int .u8 c)) := (HB.out.later HBl.out HB.out.lt).cell 0
      clear hc0 hc1
      by_cases hx : x = c
      · have hbq : (x == c) = true := by simp [hx]
        have HX := Lib.hid hx; clear hx
        go_wp2_with (first
          | (refine wpList_load_part rfl 43 (.tmp 14) rfl (a.add (k * 2)) rfl #[.int .u8 x, .bool r] _ HCp.out Try.underlying43 rfl K2.out ?_)
          | (go_at_call 96; refine (eq_byte _ b c x r HBc.out).mono ?_; rintro e w2 ⟨rfl, hb2⟩; have HB2 := Lib.hid hb2; clear hb2))
        go_ret
        exact ⟨ret_int (by unfold ixI; rw [HF.out HX.out]), HBl.out.trans (HB2.out.mono HBl.out.size)⟩
      · have hbq : (x == c) = false := by simp [hx]
        have HX := Lib.hid hx; clear hx
        go_wp2_with (first
          | (refine wpList_load_part rfl 43 (.tmp 14) rfl (a.add (k * 2)) rfl #[.int .u8 x, .bool r] _ HCp.out Try.underlying43 rfl K2.out ?_)
          | (go_at_call 96; refine (eq_byte _ b c x r HBc.out).mono ?_; rintro e w2 ⟨rfl, hb2⟩; have HB2 := Lib.hid hb2; clear hb2))
        go_roundw
        case rel => exact ⟨k + 1, by omega, by go_num, HG.out HX.out, HBl.out.trans (HB2.out.mono HBl.out.size)⟩
        case measure => simp [intOf]; omega
    · have HE := Lib.hid (ix_never (l := l) (c := c) (fun j hj => HN.out j hj (by have := HL.out; omega)))
      go_wp2_with fail
      go_ret
      exact ⟨ret_int (by unfold ixI; rw [HE.out]), HBl.out⟩
end Go.Proofs.Ytmpccinbeepbgaa
