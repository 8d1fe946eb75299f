/- Walks: the operator that binds; the symbol behind; a byte that is passed. -/
import Derived.Test.YtmpccinbeepbgaaC6
namespace Go.Proofs.Ytmpccinbeepbgaa
open Go.RowKit

theorem ixI_bd (l : Tab) (c : Int) : -1 ≤ ixI l c ∧ ixI l c < l.length := by
  unfold ixI
  split
  · rename_i j h; have := (ix_some h).1; omega
  · omega

set_option maxRecDepth 100000 in
set_option maxHeartbeats 1000000 in
theorem of74_any (w : World) (ao : Option Addr) (cap n : Nat) (l : Tab) (hs : Sv w ao n cap 2 (opc l)) (c lv : Int) :
    Calls Try.prog 74 #[.agg #[.slice ao n cap], .int .u8 c, .int .i64 lv] w fun r w' => r = .returned (.tuple #[.int .i64 (ixI l c), .bool (decide (lv ≤ ixI l c) && decide (0 ≤ ixI l c))]) ∧ Below w.heap.size w w' := by
  obtain ⟨h1, h2⟩ := ixI_bd l c
  have HIx := Lib.hid (fun w' hs b hb => index_any w' ao cap n l hs b c hb)
  generalize ixI l c = i at *
  have HSl := Lib.hid hs; clear hs
  go_enter Try.func74, Try.ntmps74
  go_wp2_with fail
  have HB := Lib.hid (((Below.refl w.heap.size w).alloc (Nat.le_refl _) (.cells #[.slice ao n cap] 110)).alloc (by simp) (.cells #[.int .u8 c] 5))
  have HR := Lib.hid (hrow.new (w.alloc (.cells #[.slice ao n cap] 110)) #[.int .u8 c] 5)
  simp only [World.size_alloc] at HR
  revert HB HR
  generalize (w.alloc (.cells #[.slice ao n cap] 110)).alloc (.cells #[.int .u8 c] 5) = wb
  intro HB HR
  refine (HIx.out wb (HSl.out.below HB.out) (w.heap.size + 1) HR.out).mono ?_
  rintro e w2 ⟨rfl, hb2⟩
  have HB2 := Lib.hid hb2; clear hb2
  by_cases hq : lv ≤ i
  · have hd : decide (lv ≤ i) = true := decide_eq_true hq
    go_wp2_with fail
    go_ret2
    exact ⟨by simp [hd], HB.out.trans (HB2.out.mono HB.out.size)⟩
  · have hd : decide (lv ≤ i) = false := decide_eq_false hq
    go_wp2_with fail
    go_ret2
    exact ⟨by simp [hd], HB.out.trans (HB2.out.mono HB.out.size)⟩

theorem left_any (w : World) (v : Value) (i : Int) (h : i ≤ 1000) (h0 : 0 ≤ i) : Calls Try.prog 97 #[.agg #[v], .int .i64 i] w fun r w' => r = .returned (.int .i64 (i + 1)) ∧ Below w.heap.size w w' := by
  go_enter Try.func97, Try.ntmps97
  go_wp2
  go_ret
  exact ⟨rfl, (Below.refl _ _).alloc (Nat.le_refl _) _⟩
theorem rightm_any (w : World) (v : Value) (i : Int) : Calls Try.prog 98 #[.agg #[v], .int .i64 i] w fun r w' => r = .returned (.int .i64 i) ∧ Below w.heap.size w w' := by
  go_enter Try.func98, Try.ntmps98
  go_wp2
  go_ret
  exact ⟨rfl, (Below.refl _ _).alloc (Nat.le_refl _) _⟩

set_option maxRecDepth 100000 in
set_option maxHeartbeats 1000000 in
theorem behind_any (w : World) (ao : Option Addr) (cap n : Nat) (l : Tab) (hs : Sv w ao n cap 2 (opc l)) (i : Nat) (hi : i < l.length) (h1000 : l.length ≤ 1000) :
    Calls Try.prog 75 #[.agg #[.slice ao n cap], .int .i64 i] w fun r w' => r = .returned (.int .i64 (bh l i)) ∧ Below w.heap.size w w' := by
  obtain ⟨h1, h2⟩ := hs.bound
  have hl := hs.ops_len
  obtain ⟨a, rfl, hc0, hc1⟩ := hs.op i hi
  have hr : rg l i = (l[i]).2 := by unfold rg; simp [List.getD_eq_getElem?_getD, hi]
  have hbh : bh l i = if (l[i]).2 = true then i else i + 1 := by unfold bh; rw [hr]
  have HBh := Lib.hid hbh
  clear hr hbh hs
  have hi0 : (0 : Int) ≤ i := by omega
  have hin : (i : Int) < n := by omega
  have hin' : i < n := by omega
  have hi1 : (i : Int) ≤ 1000 := by omega
  have hlt := World.block_lt_of_cell? w _ hc1
  generalize (l[i]'hi).2 = r at *
  generalize (l[i]'hi).1 = x at *
  clear hl hi h1000
  have e3 : a.add (i * 2 + 1) = ⟨(a.add (i * 2)).block, (a.add (i * 2)).off + 1, none⟩ := by rw [← add_add]; rfl
  rw [e3] at hc1 hlt
  simp only at hlt
  clear hc0 e3
  have hc1' : (w.alloc (.cells #[.slice (some a) n cap] 110)).cell? ⟨(a.add (i * 2)).block, (a.add (i * 2)).off + 1, none⟩ = some (.bool r) := (((Below.refl w.heap.size w).alloc (Nat.le_refl _) _).cell (p := ⟨(a.add (i * 2)).block, (a.add (i * 2)).off + 1, none⟩) hlt).trans hc1
  cases r
  · go_enter Try.func75, Try.ntmps75
    go_wp2_with (first
      | (go_at_call 97; refine (left_any _ _ _ hi1 hi0).mono ?_; rintro e w2 ⟨rfl, hb2⟩; have HB2 := Lib.hid hb2; clear hb2))
    go_ret
    exact ⟨ret_int (by rw [HBh.out]; simp), ((Below.refl _ _).alloc (Nat.le_refl _) _).trans (HB2.out.mono (by simp))⟩
  · go_enter Try.func75, Try.ntmps75
    go_wp2_with (first
      | (go_at_call 98; refine (rightm_any _ _ _).mono ?_; rintro e w2 ⟨rfl, hb2⟩; have HB2 := Lib.hid hb2; clear hb2))
    go_ret
    exact ⟨ret_int (by rw [HBh.out]; simp), ((Below.refl _ _).alloc (Nat.le_refl _) _).trans (HB2.out.mono (by simp))⟩
end Go.Proofs.Ytmpccinbeepbgaa
