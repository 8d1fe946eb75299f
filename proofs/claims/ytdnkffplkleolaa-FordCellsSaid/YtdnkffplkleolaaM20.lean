/- Walks and plain laws: V4. -/
import Derived.Test.YtdnkffplkleolaaM18
namespace Go.Proofs.Ytdnkffplkleolaa
open Go.RowKit
set_option maxRecDepth 100000
set_option maxHeartbeats 4000000

theorem rnode_r (w : World) (kind a b c d : Int) (t : ByteArray) (r l : Int) (kids : List Int) (ka : Option Addr) (kc : Nat) (n : Nat) (hr : (r == 0) = false) :
  Calls Try.prog 34 #[ndv ⟨kind, a, b, c, d, t, r, l, kids⟩ ka kc, .int .i64 n] w fun e w' => e = .returned (.bool (nodeB n ⟨kind, a, b, c, d, t, r, l, kids⟩)) ∧ Below w.heap.size w w' := by
 have hr2 : (!(r == 0)) = true := by rw [hr]; rfl
 have hr3 : (r != 0) = true := hr2
 unfold ndv
 have hce := cls_eq
 go_enter Try.func34, Try.ntmps34
 go_wp2_with fail
 go_region
 have HC := Lib.hid (cls_b (kind := kind) (a := a) (b := b) (c := c) (d := d) (t := t) (r := r) (l := l) (kids := kids))
 have HT := Lib.hid (txt_b (kind := kind) (a := a) (b := b) (c := c) (d := d) (t := t) (r := r) (l := l) (kids := kids))
 have HL : Hid (calB ⟨kind, a, b, c, d, t, r, l, kids⟩ = false) := by show _ = _; unfold calB; simp only [beq_eq_false_iff_ne, ne_eq, Bool.and_eq_false_iff]; simp_all; first | done | omega
 have HB := Lib.hid ((al2 (Below.refl w.heap.size w) (.cells #[.int .i64 kind, .int .u64 a, .int .u64 b, .int .u64 c, .int .u64 d, .string t, .int .i64 r, .int .i64 l, .slice ka kids.length kc] 57) (.cells #[.int .u64 0, .int .u64 0, .int .u64 0, .int .u64 0] 54)).drew)
 have HX := Lib.hid (((hrow.new w #[.int .i64 kind, .int .u64 a, .int .u64 b, .int .u64 c, .int .u64 d, .string t, .int .i64 r, .int .i64 l, .slice ka kids.length kc] 57).below ((Below.refl _ _).alloc (Nat.le_refl _) (.cells #[.int .u64 0, .int .u64 0, .int .u64 0, .int .u64 0] 54))).below (Below.refl _ _).drew)
 revert HC HT HB HX
 generalize ((w.alloc (.cells #[.int .i64 kind, .int .u64 a, .int .u64 b, .int .u64 c, .int .u64 d, .string t, .int .i64 r, .int .i64 l, .slice ka kids.length kc] 57)).alloc (.cells #[.int .u64 0, .int .u64 0, .int .u64 0, .int .u64 0] 54)).drew = w2
 generalize (!(a == 0) || !(b == 0) || !(c == 0) || !(d == 0)) = cb
 generalize (!t.toList.isEmpty) = tb
 intro HC HT HB HX
 have x0 : w2.cell? ⟨w.heap.size, 0, none⟩ = some (.int .i64 kind) := HX.out.cell 0
 have x5 : w2.cell? ⟨w.heap.size, 5, none⟩ = some (.string t) := HX.out.cell 5
 have x6 : w2.cell? ⟨w.heap.size, 6, none⟩ = some (.int .i64 r) := HX.out.cell 6
 have x7 : w2.cell? ⟨w.heap.size, 7, none⟩ = some (.int .i64 l) := HX.out.cell 7
 have x8 : w2.cell? ⟨w.heap.size, 8, none⟩ = some (.slice ka kids.length kc) := HX.out.cell 8
 clear hce HX
 rcases knd kind with rfl | rfl | rfl | rfl | rfl | rfl | rfl | rfl | rfl | rfl | rfl | rfl | hk
 ·cases cb <;> cases tb
  all_goals
   go_wp2_with fail
   all_goals
    go_ret
    refine ⟨ret_bool ?_, HB.out⟩
    have hC := HC.out
    have hT := HT.out
    have hL := HL.out
    unfold nodeB
    simp only [hC, hT, hL]
    (rw [Bool.eq_iff_iff]; simp; first | done | omega | grind)
 ·cases cb <;> cases tb
  all_goals
   go_wp2_with fail
   all_goals
    go_ret
    refine ⟨ret_bool ?_, HB.out⟩
    have hC := HC.out
    have hT := HT.out
    have hL := HL.out
    unfold nodeB
    simp only [hC, hT, hL]
    (rw [Bool.eq_iff_iff]; simp; first | done | omega | grind)
 ·cases cb <;> cases tb
  all_goals
   go_wp2_with fail
   all_goals
    go_ret
    refine ⟨ret_bool ?_, HB.out⟩
    have hC := HC.out
    have hT := HT.out
    have hL := HL.out
    unfold nodeB
    simp only [hC, hT, hL]
    (rw [Bool.eq_iff_iff]; simp; first | done | omega | grind)
 ·cases cb <;> cases tb
  all_goals
   go_wp2_with fail
   all_goals
    go_ret
    refine ⟨ret_bool ?_, HB.out⟩
    have hC := HC.out
    have hT := HT.out
    have hL := HL.out
    unfold nodeB
    simp only [hC, hT, hL]
    (rw [Bool.eq_iff_iff]; simp; first | done | omega | grind)
 ·cases cb <;> cases tb
  all_goals
   go_wp2_with fail
   all_goals
    go_ret
    refine ⟨ret_bool ?_, HB.out⟩
    have hC := HC.out
    have hT := HT.out
    have hL := HL.out
    unfold nodeB
    simp only [hC, hT, hL]
    (rw [Bool.eq_iff_iff]; simp; first | done | omega | grind)
 ·cases cb <;> cases tb
  all_goals
   go_wp2_with fail
   all_goals
    go_ret
    refine ⟨ret_bool ?_, HB.out⟩
    have hC := HC.out
    have hT := HT.out
    have hL := HL.out
    unfold nodeB
    simp only [hC, hT, hL]
    (rw [Bool.eq_iff_iff]; simp; first | done | omega | grind)
 ·cases cb <;> cases tb
  all_goals
   go_wp2_with fail
   all_goals
    go_ret
    refine ⟨ret_bool ?_, HB.out⟩
    have hC := HC.out
    have hT := HT.out
    have hL := HL.out
    unfold nodeB
    simp only [hC, hT, hL]
    (rw [Bool.eq_iff_iff]; simp; first | done | omega | grind)
 ·cases cb <;> cases tb
  all_goals
   go_wp2_with fail
   all_goals
    go_ret
    refine ⟨ret_bool ?_, HB.out⟩
    have hC := HC.out
    have hT := HT.out
    have hL := HL.out
    unfold nodeB
    simp only [hC, hT, hL]
    (rw [Bool.eq_iff_iff]; simp; first | done | omega | grind)
 ·cases cb <;> cases tb
  all_goals
   go_wp2_with fail
   all_goals
    go_ret
    refine ⟨ret_bool ?_, HB.out⟩
    have hC := HC.out
    have hT := HT.out
    have hL := HL.out
    unfold nodeB
    simp only [hC, hT, hL]
    (rw [Bool.eq_iff_iff]; simp; first | done | omega | grind)
 ·cases cb <;> cases tb
  all_goals
   go_wp2_with fail
   all_goals
    go_ret
    refine ⟨ret_bool ?_, HB.out⟩
    have hC := HC.out
    have hT := HT.out
    have hL := HL.out
    unfold nodeB
    simp only [hC, hT, hL]
    (rw [Bool.eq_iff_iff]; simp; first | done | omega | grind)
 ·cases cb <;> cases tb
  all_goals
   go_wp2_with fail
   all_goals
    go_ret
    refine ⟨ret_bool ?_, HB.out⟩
    have hC := HC.out
    have hT := HT.out
    have hL := HL.out
    unfold nodeB
    simp only [hC, hT, hL]
    (rw [Bool.eq_iff_iff]; simp; first | done | omega | grind)
 ·cases cb <;> cases tb
  all_goals
   go_wp2_with fail
   all_goals
    go_ret
    refine ⟨ret_bool ?_, HB.out⟩
    have hC := HC.out
    have hT := HT.out
    have hL := HL.out
    unfold nodeB
    simp only [hC, hT, hL]
    (rw [Bool.eq_iff_iff]; simp; first | done | omega | grind)
 ·obtain ⟨k1, k2, k3, k4, k5, k6, k7, k8, k9, k10, k11, k12⟩ := hk
  have HN : Hid (nodeB n ⟨kind, a, b, c, d, t, r, l, kids⟩ = false) := by
   show _ = _
   have k1' := beq_eq_false_iff_ne.1 k1
   have k2' := beq_eq_false_iff_ne.1 k2
   have k3' := beq_eq_false_iff_ne.1 k3
   have k4' := beq_eq_false_iff_ne.1 k4
   have k5' := beq_eq_false_iff_ne.1 k5
   have k6' := beq_eq_false_iff_ne.1 k6
   have k7' := beq_eq_false_iff_ne.1 k7
   have k8' := beq_eq_false_iff_ne.1 k8
   have k9' := beq_eq_false_iff_ne.1 k9
   have k10' := beq_eq_false_iff_ne.1 k10
   have k11' := beq_eq_false_iff_ne.1 k11
   have k12' := beq_eq_false_iff_ne.1 k12
   unfold nodeB
   simp only []
   rw [if_neg (by omega), if_neg (by omega), if_neg (by omega), if_neg (by omega), if_neg (by omega), if_neg (by omega)]
  go_wp2_with fail
  go_ret
  exact ⟨ret_bool HN.out.symm, HB.out⟩
end Go.Proofs.Ytdnkffplkleolaa
