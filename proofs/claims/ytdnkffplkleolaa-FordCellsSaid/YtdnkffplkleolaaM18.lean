/- Walks and plain laws: V2. -/
import Derived.Test.YtdnkffplkleolaaM16
import Derived.Test.YtdnkffplkleolaaM17
import Derived.BigRegion
namespace Go.Proofs.Ytdnkffplkleolaa
open Go.RowKit
set_option maxRecDepth 100000
set_option maxHeartbeats 4000000

theorem knd (k : Int) : k = 1 ∨ k = 2 ∨ k = 3 ∨ k = 4 ∨ k = 5 ∨ k = 6 ∨ k = 7 ∨ k = 8 ∨ k = 9 ∨ k = 10 ∨ k = 11 ∨ k = 12 ∨ ((k == 1) = false ∧ (k == 2) = false ∧ (k == 3) = false ∧ (k == 4) = false ∧ (k == 5) = false ∧ (k == 6) = false ∧ (k == 7) = false ∧ (k == 8) = false ∧ (k == 9) = false ∧ (k == 10) = false ∧ (k == 11) = false ∧ (k == 12) = false) := by
 simp only [beq_eq_false_iff_ne]
 omega
theorem cls_b {kind a b c d : Int} {t : ByteArray} {r l : Int} {kids : List Int} : clsB ⟨kind, a, b, c, d, t, r, l, kids⟩ = !(!(a == 0) || !(b == 0) || !(c == 0) || !(d == 0)) := by
 unfold clsB
 simp only []
 cases a == 0 <;> cases b == 0 <;> cases c == 0 <;> cases d == 0 <;> rfl
theorem txt_b {kind a b c d : Int} {t : ByteArray} {r l : Int} {kids : List Int} : txtB ⟨kind, a, b, c, d, t, r, l, kids⟩ = !(!t.toList.isEmpty) := by
 unfold txtB
 rw [Bool.not_not, Bool.eq_iff_iff]
 simp [str_nil]

theorem rnode_00 (w : World) (kind a b c d : Int) (t : ByteArray) (kids : List Int) (ka : Option Addr) (kc : Nat) (n : Nat) (ht : t.size ≤ 9223372036854775807) :
  Calls Try.prog 34 #[ndv ⟨kind, a, b, c, d, t, 0, 0, kids⟩ ka kc, .int .i64 n] w fun e w' => e = .returned (.bool (nodeB n ⟨kind, a, b, c, d, t, 0, 0, kids⟩)) ∧ Below w.heap.size w w' := by
 unfold ndv
 have hce := cls_eq
 go_enter Try.func34, Try.ntmps34
 go_wp2_with fail
 go_region
 have HC := Lib.hid (cls_b (kind := kind) (a := a) (b := b) (c := c) (d := d) (t := t) (r := 0) (l := 0) (kids := kids))
 have HT := Lib.hid (txt_b (kind := kind) (a := a) (b := b) (c := c) (d := d) (t := t) (r := 0) (l := 0) (kids := kids))
 have HL : Hid (calB ⟨kind, a, b, c, d, t, 0, 0, kids⟩ = true) := by show _ = _; unfold calB; simp
 have HB := Lib.hid ((al2 (Below.refl w.heap.size w) (.cells #[.int .i64 kind, .int .u64 a, .int .u64 b, .int .u64 c, .int .u64 d, .string t, .int .i64 0, .int .i64 0, .slice ka kids.length kc] 57) (.cells #[.int .u64 0, .int .u64 0, .int .u64 0, .int .u64 0] 54)).drew)
 have HX := Lib.hid (((hrow.new w #[.int .i64 kind, .int .u64 a, .int .u64 b, .int .u64 c, .int .u64 d, .string t, .int .i64 0, .int .i64 0, .slice ka kids.length kc] 57).below ((Below.refl _ _).alloc (Nat.le_refl _) (.cells #[.int .u64 0, .int .u64 0, .int .u64 0, .int .u64 0] 54))).below (Below.refl _ _).drew)
 revert HC HT HB HX
 generalize ((w.alloc (.cells #[.int .i64 kind, .int .u64 a, .int .u64 b, .int .u64 c, .int .u64 d, .string t, .int .i64 0, .int .i64 0, .slice ka kids.length kc] 57)).alloc (.cells #[.int .u64 0, .int .u64 0, .int .u64 0, .int .u64 0] 54)).drew = w2
 generalize (!(a == 0) || !(b == 0) || !(c == 0) || !(d == 0)) = cb
 generalize (!t.toList.isEmpty) = tb
 intro HC HT HB HX
 have x0 : w2.cell? ⟨w.heap.size, 0, none⟩ = some (.int .i64 kind) := HX.out.cell 0
 have x5 : w2.cell? ⟨w.heap.size, 5, none⟩ = some (.string t) := HX.out.cell 5
 have x6 : w2.cell? ⟨w.heap.size, 6, none⟩ = some (.int .i64 0) := HX.out.cell 6
 have x7 : w2.cell? ⟨w.heap.size, 7, none⟩ = some (.int .i64 0) := HX.out.cell 7
 have x8 : w2.cell? ⟨w.heap.size, 8, none⟩ = some (.slice ka kids.length kc) := HX.out.cell 8
 clear hce HX
 rcases knd kind with rfl | rfl | rfl | rfl | rfl | rfl | rfl | rfl | rfl | rfl | rfl | rfl | hk
 ·cases cb <;> cases tb
  all_goals
   go_wp2_with fail
   all_goals
    go_ret
    refine ⟨ret_bool ?_, HB.out⟩
    have hC := HC.out
    have hT := HT.out
    have hL := HL.out
    unfold nodeB
    simp only [hC, hT, hL]
    (rw [Bool.eq_iff_iff]; simp; first | done | omega | grind)
 ·cases cb <;> cases tb
  all_goals
   go_wp2_with fail
   all_goals
    go_ret
    refine ⟨ret_bool ?_, HB.out⟩
    have hC := HC.out
    have hT := HT.out
    have hL := HL.out
    unfold nodeB
    simp only [hC, hT, hL]
    (rw [Bool.eq_iff_iff]; simp; first | done | omega | grind)
 ·cases cb <;> cases tb
  all_goals
   go_wp2_with fail
   all_goals
    go_ret
    refine ⟨ret_bool ?_, HB.out⟩
    have hC := HC.out
    have hT := HT.out
    have hL := HL.out
    unfold nodeB
    simp only [hC, hT, hL]
    (rw [Bool.eq_iff_iff]; simp; first | done | omega | grind)
 ·cases cb <;> cases tb
  all_goals
   go_wp2_with fail
   all_goals
    go_ret
    refine ⟨ret_bool ?_, HB.out⟩
    have hC := HC.out
    have hT := HT.out
    have hL := HL.out
    unfold nodeB
    simp only [hC, hT, hL]
    (rw [Bool.eq_iff_iff]; simp; first | done | omega | grind)
 ·cases cb <;> cases tb
  all_goals
   go_wp2_with fail
   all_goals
    go_ret
    refine ⟨ret_bool ?_, HB.out⟩
    have hC := HC.out
    have hT := HT.out
    have hL := HL.out
    unfold nodeB
    simp only [hC, hT, hL]
    (rw [Bool.eq_iff_iff]; simp; first | done | omega | grind)
 ·cases cb <;> cases tb
  all_goals
   go_wp2_with fail
   all_goals
    go_ret
    refine ⟨ret_bool ?_, HB.out⟩
    have hC := HC.out
    have hT := HT.out
    have hL := HL.out
    unfold nodeB
    simp only [hC, hT, hL]
    (rw [Bool.eq_iff_iff]; simp; first | done | omega | grind)
 ·cases cb <;> cases tb
  all_goals
   go_wp2_with fail
   all_goals
    go_ret
    refine ⟨ret_bool ?_, HB.out⟩
    have hC := HC.out
    have hT := HT.out
    have hL := HL.out
    unfold nodeB
    simp only [hC, hT, hL]
    (rw [Bool.eq_iff_iff]; simp; first | done | omega | grind)
 ·cases cb <;> cases tb
  all_goals
   go_wp2_with fail
   all_goals
    go_ret
    refine ⟨ret_bool ?_, HB.out⟩
    have hC := HC.out
    have hT := HT.out
    have hL := HL.out
    unfold nodeB
    simp only [hC, hT, hL]
    (rw [Bool.eq_iff_iff]; simp; first | done | omega | grind)
 ·cases cb <;> cases tb
  all_goals
   go_wp2_with fail
   all_goals
    go_ret
    refine ⟨ret_bool ?_, HB.out⟩
    have hC := HC.out
    have hT := HT.out
    have hL := HL.out
    unfold nodeB
    simp only [hC, hT, hL]
    (rw [Bool.eq_iff_iff]; simp; first | done | omega | grind)
 ·cases cb <;> cases tb
  all_goals
   go_wp2_with fail
   all_goals
    go_ret
    refine ⟨ret_bool ?_, HB.out⟩
    have hC := HC.out
    have hT := HT.out
    have hL := HL.out
    unfold nodeB
    simp only [hC, hT, hL]
    (rw [Bool.eq_iff_iff]; simp; first | done | omega | grind)
 ·cases cb <;> cases tb
  all_goals
   go_wp2_with fail
   all_goals
    go_ret
    refine ⟨ret_bool ?_, HB.out⟩
    have hC := HC.out
    have hT := HT.out
    have hL := HL.out
    unfold nodeB
    simp only [hC, hT, hL]
    (rw [Bool.eq_iff_iff]; simp; first | done | omega | grind)
 ·cases cb <;> cases tb
  all_goals
   go_wp2_with fail
   all_goals
    go_ret
    refine ⟨ret_bool ?_, HB.out⟩
    have hC := HC.out
    have hT := HT.out
    have hL := HL.out
    unfold nodeB
    simp only [hC, hT, hL]
    (rw [Bool.eq_iff_iff]; simp; first | done | omega | grind)
 ·obtain ⟨k1, k2, k3, k4, k5, k6, k7, k8, k9, k10, k11, k12⟩ := hk
  have HN : Hid (nodeB n ⟨kind, a, b, c, d, t, 0, 0, kids⟩ = false) := by
   show _ = _
   have k1' := beq_eq_false_iff_ne.1 k1
   have k2' := beq_eq_false_iff_ne.1 k2
   have k3' := beq_eq_false_iff_ne.1 k3
   have k4' := beq_eq_false_iff_ne.1 k4
   have k5' := beq_eq_false_iff_ne.1 k5
   have k6' := beq_eq_false_iff_ne.1 k6
   have k7' := beq_eq_false_iff_ne.1 k7
   have k8' := beq_eq_false_iff_ne.1 k8
   have k9' := beq_eq_false_iff_ne.1 k9
   have k10' := beq_eq_false_iff_ne.1 k10
   have k11' := beq_eq_false_iff_ne.1 k11
   have k12' := beq_eq_false_iff_ne.1 k12
   unfold nodeB
   simp only []
   rw [if_neg (by omega), if_neg (by omega), if_neg (by omega), if_neg (by omega), if_neg (by omega), if_neg (by omega)]
  go_wp2_with fail
  go_ret
  exact ⟨ret_bool HN.out.symm, HB.out⟩
end Go.Proofs.Ytdnkffplkleolaa
