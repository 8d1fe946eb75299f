/- Walks and plain laws: Qo. -/
import Derived.Test.YthfefbmkgebmkaaGreatDoorT09
namespace Go.Proofs.YthfefbmkgebmkaaGreatDoor
open Go.RowKit
set_option maxRecDepth 100000
set_option maxHeartbeats 16000000

theorem drn (w : World) : w.drew.heap = w.heap := rfl
theorem rtext_walk (s : ByteArray) (w : World) (hs : s.size ≤ 16384) : Calls Tryz.prog 28 #[.string s] w fun e w' => TxtP s.data.toList w e w' := by
 have HA := Lib.hid (fun x => rall_any s x hs)
 unfold RAllP at HA
 cases hw : (wordsOf s.data.toList).2 with
 | some p =>
  have HRT : Hid (readT s.data.toList = (([], []), 7, p)) := by
   unfold Hid readT
   rw [hw]
  rw [hw] at HA
  simp only [] at HA
  clear hw
  go_enter Tryz.func28, Tryz.ntmps28
  go_wp2_with fail
  refine (HA.out _).mono ?_
  rintro e x ⟨rfl, hb⟩
  have HB := Lib.hid hb
  clear hb HA
  have hw1 := (Below.refl _ w).alloc (Nat.le_refl _) (.cells #[.slice none 0 0, .slice none 0 0, .slice none 0 0, .slice none 0 0, .slice none 0 0] 78)
  have hw2 := hw1.alloc hw1.size (.cells #[.int .i64 0, .int .i64 0] 33)
  have h2 := ((hrow.new w #[.slice none 0 0, .slice none 0 0, .slice none 0 0, .slice none 0 0, .slice none 0 0] 78).below ((Below.refl _ _).alloc (Nat.le_refl _) (.cells #[.int .i64 0, .int .i64 0] 33))).below HB.out
  have h3 := (hrow.new (w.alloc (.cells #[.slice none 0 0, .slice none 0 0, .slice none 0 0, .slice none 0 0, .slice none 0 0] 78)) #[.int .i64 0, .int .i64 0] 33).below HB.out
  rw [World.size_alloc] at h3
  have HW := Lib.hid (hw2.trans (HB.out.mono hw2.size))
  have H2 := Lib.hid h2; have H3 := Lib.hid h3
  have k0 := H2.out.cell 0; have k1 := H2.out.cell 1; have k2 := H2.out.cell 2; have k3 := H2.out.cell 3; have k4 := H2.out.cell 4
  have m0 := H2.out.frozen 0; have m1 := H2.out.frozen 1; have m2 := H2.out.frozen 2; have m3 := H2.out.frozen 3; have m4 := H2.out.frozen 4
  have l0 := H3.out.cell 0; have l1 := H3.out.cell 1; have n0 := H3.out.frozen 0; have n1 := H3.out.frozen 1
  clear hw1 hw2 h2 h3 HB
  generalize hg2 : w.heap.size = g2 at *
  have hne : g2 ≠ g2 + 1 := by omega
  go_wp2_with fail
  clear k0 k1 k2 k3 k4 m0 m1 m2 m3 m4 l0 l1 n0 n1
  obtain ⟨z, hz, z2, z3, zf⟩ := stores7q (.slice none 0 0) (.slice none 0 0) (.slice none 0 0) (.slice none 0 0) (.slice none 0 0) (.int .i64 7) (.int .i64 p) H2.out H3.out hne
  rw [hz]
  refine bodyPost_ret (results_c2 rfl _ _ _ _ _ _ rfl rfl (treeq_ld z2) (diag_ld z3)) rfl ?_
  unfold TxtP
  rw [HRT.out]
  exact ⟨_, _, _, _, _, rfl, treeOut_nil _ _, by rw [hg2]; exact HW.out.trans (zf.below (by rw [← hg2]; exact HW.out.size) (fun k hk e => by omega))⟩
 | none =>
  have hok := (words_at hw).ok
  have hll := words_len s.data.toList
  have hsl : s.data.toList.length = s.size := ba_len s
  have HRT : Hid (readT s.data.toList = match readW (wordsOf s.data.toList).1 with | .ok x _ => (treeF 0 x, 0, 0) | .err e a => (([], []), e, a)) := by
   unfold Hid readT
   rw [hw]
   simp only []
   generalize readW (wordsOf s.data.toList).1 = r
   cases r <;> rfl
  rw [hw] at HA
  simp only [] at HA
  clear hw
  generalize (wordsOf s.data.toList).1 = L at *
  have hL2 : L.length ≤ 16385 := by omega
  have HL := Lib.hid hL2; have HW := Lib.hid hok
  obtain ⟨rr, hrr⟩ : ∃ rr, rulsP L (6 * L.length + 4) (L.length + 1) [] 0 = some rr := by
   cases h : rulsP L (6 * L.length + 4) (L.length + 1) [] 0 with
   | none => exact absurd h (rulsP_tot hok _ (Nat.le_refl _) _ _ _ hok.pos (by omega))
   | some r => exact ⟨r, rfl⟩
  have HRW : Hid (readW L = rr) := by unfold Hid readW; rw [hrr]
  have HC : Hid (CnT L rr [] [] 0 0 0) := .inl ⟨rfl, rfl, [], L.length, rfl, rfl, by rw [if_pos rfl]; exact hrr⟩
  clear hrr hll hsl hL2 hok
  go_enter Tryz.func28, Tryz.ntmps28
  go_wp2_with fail
  refine (HA.out _).mono ?_
  rintro e x ⟨v, rfl, how⟩
  obtain ⟨ao, cap, rfl, hsv⟩ := how.sv
  have HB := Lib.hid how.2
  have HSV := Lib.hid hsv
  clear HA how hsv
  have hw1 := (Below.refl _ w).alloc (Nat.le_refl _) (.cells #[.slice none 0 0, .slice none 0 0, .slice none 0 0, .slice none 0 0, .slice none 0 0] 78)
  have hw2 := hw1.alloc hw1.size (.cells #[.int .i64 0, .int .i64 0] 33)
  have h2 := ((hrow.new w #[.slice none 0 0, .slice none 0 0, .slice none 0 0, .slice none 0 0, .slice none 0 0] 78).below ((Below.refl _ _).alloc (Nat.le_refl _) (.cells #[.int .i64 0, .int .i64 0] 33))).below HB.out
  have h3 := (hrow.new (w.alloc (.cells #[.slice none 0 0, .slice none 0 0, .slice none 0 0, .slice none 0 0, .slice none 0 0] 78)) #[.int .i64 0, .int .i64 0] 33).below HB.out
  rw [World.size_alloc] at h3
  have HWW := Lib.hid (hw2.trans (HB.out.mono hw2.size))
  have H2 := Lib.hid h2; have H3 := Lib.hid h3
  clear hw1 hw2 h2 h3 HB
  obtain ⟨g2, hg2⟩ : ∃ g2, w.heap.size = g2 := ⟨_, rfl⟩
  rw [hg2] at H2 H3
  rw [hg2]
  have HG2 := Lib.hid hg2
  clear hg2
  have hlt3 : g2 + 1 < x.heap.size := H3.out.lt
  have hba := (Below.refl _ x).alloc (Nat.le_refl _) (.cells #[.slice none 0 0, .slice none 0 0, .slice none 0 0, .slice none 0 0, .slice none 0 0] 78)
  have hbb := hba.alloc hba.size (.cells #[.slice ao L.length cap, .int .i64 0, .int .i64 0, .int .i64 0, .int .i64 0] 117)
  have HI0 : Hid (RqI L (x.heap.size + 1) x.heap.size g2 w ((x.alloc (.cells #[.slice none 0 0, .slice none 0 0, .slice none 0 0, .slice none 0 0, .slice none 0 0] 78)).alloc (.cells #[.slice ao L.length cap, .int .i64 0, .int .i64 0, .int .i64 0, .int .i64 0] 117)) (fun k => if k = x.heap.size then 1 else 0) [] [] [] 0 0 0) := {
   tr := ⟨⟨_, _, _, _, _, (hrow.new x #[.slice none 0 0, .slice none 0 0, .slice none 0 0, .slice none 0 0, .slice none 0 0] 78).below ((Below.refl _ _).alloc (Nat.le_refl _) _), ⟨fun k hk => if_neg (fun e => by subst e; have := hbb.size; simp only [World.size_alloc] at hk; omega), RowT.nil _ _ _ _ _, RowT.nil _ _ _ _ _, RowT.nil _ _ _ _ _, RowT.nil _ _ _ _ _, RowT.nil _ _ _ _ _, fun i h => by simp at h⟩⟩, if_pos rfl, rfl, rfl⟩
   nk := rfl
   rd := by
    have := RqW.start (HSV.out.below hba) HW.out.pos
    rw [World.size_alloc] at this
    exact this
   ap := ⟨Nat.lt_succ_self _, fun k _ hn => if_neg hn⟩
   lt := HW.out.pos
   nb := Nat.zero_le _
   rb := Nat.zero_le _
   z2 := H2.out.below hbb
   z3 := H3.out.below hbb
   lo := HWW.out.trans (hbb.mono HWW.out.size)
   fresh := fun k hk => by
    by_cases e : k = x.heap.size
    ·have := HWW.out.size; omega
    ·simp only [if_neg e] at hk; exact absurd rfl hk
   g3 := hlt3
   le := Nat.le_of_eq HG2.out }
  clear H2 H3 HSV hba hbb hlt3 HWW
  go_upto_region 6 with (fail)
  revert HI0
  generalize (x.alloc (.cells #[.slice none 0 0, .slice none 0 0, .slice none 0 0, .slice none 0 0, .slice none 0 0] 78)).alloc (.cells #[.slice ao L.length cap, .int .i64 0, .int .i64 0, .int .i64 0, .int .i64 0] 117) = x2
  generalize (fun k => if k = x.heap.size then 1 else 0) = τ0
  generalize x.heap.size = gt
  intro HI0
  go_loopw [9, 10] (fun _ _ wr => ∃ (R : List Rr) (N : List Rn) (NK : List Nk) (τ : Nat → Nat) (j e a : Nat), Hid (CnT L rr R N j e a) ∧ Hid (RqI L (gt + 1) gt g2 w wr τ R N NK j e a)) (fun _ _ wr => L.length - posOf wr (gt + 1))
  case atStart => exact ⟨_, _, _, _, _, _, _, HC.out, HI0.out⟩
  case round =>
   clear HC HI0
   obtain ⟨R, N, NK, τ, j, e, a, HC, HI⟩ := hrel
   have HPO : Hid (posOf wr (gt + 1) = j) := HI.out.rd.pos
   obtain ⟨a1, a2, a3, a4, a5, d1, d2, d3, d4, d5, hQ⟩ := HI.out.tr.start (Fr.refl (fun k => τ k ≠ 0) wr) (fun _ _ => rfl)
   have HQ := Lib.hid hQ
   obtain ⟨ao, cap, pw, hrw, rfl, hc, hna⟩ := HI.out.rd.at HI.out.lt
   have hiI : (j : Int) < L.length := by have := HI.out.lt; omega
   obtain ⟨x, hx⟩ : ∃ x, wdAt L j = x := ⟨_, rfl⟩
   have HX := Lib.hid hx
   rw [hx] at hc
   unfold wdD wdA at hc
   have HC9 := Lib.hid hc; have HRQ0 := Lib.hid hrw
   obtain ⟨rn, hrn⟩ : ∃ n, R.length = n := ⟨_, rfl⟩
   have q2 : wr.cell? ⟨gt, 2, none⟩ = some (.slice a3 rn d3) := by rw [← hrn]; exact hQ.obj.cell 2
   have r0 : wr.cell? ⟨gt + 1, 0, none⟩ = some (.slice (some pw) L.length cap) := hrw.cell 0
   have r1 : wr.cell? ⟨gt + 1, 1, none⟩ = some (.int .i64 j) := hrw.cell 1
   have r3 : wr.cell? ⟨gt + 1, 3, none⟩ = some (.int .i64 e) := hrw.cell 3
   have n0 : wr.cell? (pw.add (j * 9)) = some (.int .i64 x.kind) := by
    have := hc 0 _ rfl
    rwa [show (pw.add (j * 9)).add 0 = pw.add (j * 9) by unfold Addr.add; simp] at this
   clear hQ hc hrw hna hx
   by_cases he : e = 0
   ·subst he
    have e0 : (((0 : Nat) : Int) == 0) = true := rfl
    by_cases hR : R.length = 0
    ·have g0 : ((rn : Int) == 0) = true := by rw [← hrn, hR]; rfl
     have HASK := Lib.hid (HC.out.ask (.inl hR))
     clear hR hrn
     go_upto_region 6 with (fail)
     refine wp_region_quiet_lit (by kernel_rfl) (by kernel_rfl) ?_
     repeat (go_big_quiet_step (fail))
     refine wpQuiet_nil ?_
     intro _ hw'
     obtain ⟨nq, hw''⟩ := hw'
     subst hw''
     have HI1 := Lib.hid (HI.out.below (below_drewN (Below.refl _ _) nq))
     have HC1 : Hid (∀ i v, (#[.int .i64 x.kind, .int .i64 x.at_, .int .i64 x.nx, .string (tx x.tx), .int .i64 x.lv, .int .u64 (clsW x.cl 0), .int .u64 (clsW x.cl 1), .int .u64 (clsW x.cl 2), .int .u64 (clsW x.cl 3)] : Array Value).toList[i]? = some v → (wr.drewN nq).cell? ((pw.add (j * 9)).add i) = some v) := fun i v hv => ((below_drewN (Below.refl _ _) nq).cell (World.block_lt_of_cell? wr _ (HC9.out i v hv))).trans (HC9.out i v hv)
     clear HI HC9 HRQ0 HQ HC q2 r0 r1 r3 n0
     generalize wr.drewN nq = w1 at HI1 HC1 ⊢
     obtain ⟨ha0, r1, hr1, hok, herr⟩ := HASK.out
     subst ha0
     have HR1 := Lib.hid hr1; have HOK := Lib.hid hok; have HER := Lib.hid herr
     clear hr1 hok herr HASK
     -- the rule's name
     obtain ⟨ao9, cap9, hrw, -, -⟩ := HI1.out.rd.row
     have hrw0 := hrw
     obtain ⟨aoW, capW, pW, hrW, haW, hcW, -⟩ := HI1.out.rd.at HI1.out.lt
     subst haW
     rw [HX.out] at hcW
     unfold wdD wdA at hcW
     have HC2 := Lib.hid hcW
     have c0 : ∀ y : Later w1, y.val.cell? ⟨gt + 1, 0, none⟩ = some (.slice (some pW) L.length capW) := fun y => (hrW.below y.ok).cell 0
     have c1 : ∀ y : Later w1, y.val.cell? ⟨gt + 1, 1, none⟩ = some (.int .i64 j) := fun y => (hrW.below y.ok).cell 1
     have HP := Lib.hid (later_all (rpart_later (wx := w1) HC2.out))
     clear hrw hrw0 hrW hcW HC1
     go_upto_region 7 with (fail)
     refine wp_region_noPanic ?_
     refine wp_region_T (fun z => ∃ y : Later w1, z = y.val) [0, 1, 2, 3, 4, 5, 6, 7, 8, 9, 10] 11 1 rfl (by kernel_rfl) ?_
     refine wpAnyT_reads (f := 1) [0, 1, 2, 3, 4, 5, 6, 7, 8, 9] (by kernel_rfl) (by kernel_rfl) ⟨⟨w1.drew, (Below.refl _ _).drew⟩, rfl⟩ (fun _ _ _ _ h => h) ?_
     simp only [pickOps, List.getD_cons_zero, List.getD_cons_succ]
     repeat (first
      | (refine wpRead_load rfl 119 (.tmp 60) rfl (pW.add (j * 9)) rfl _ HP.out ?_; simp only [Act.put, List.setIfInBounds_toArray, List.set_cons_zero, List.set_cons_succ])
      | (refine wpRead_cons (v := ?_) rfl ?_ ?_; rotate_left; (· (intro z hz; obtain ⟨y, rfl⟩ := hz; have f0 := c0 y; have f1 := c1 y; go_simp; try with_reducible rfl)); simp only [Act.put, List.setIfInBounds_toArray, List.set_cons_zero, List.set_cons_succ]))
     refine wpRead_nil ?_
     refine wpAnyT_one 10 (by kernel_rfl) (by kernel_rfl) rfl ?_
     simp only [List.getD_cons_zero, List.getD_cons_succ]
     go_wp2_with fail
     refine ⟨⟨⟨_, ((Below.refl w1.heap.size w1).drew).alloc (Nat.le_refl _) _⟩, rfl⟩, ?_⟩
     refine wpAnyT_tail [11] (by kernel_rfl) (by kernel_rfl) (by kernel_rfl) ?_
     simp only [pickOps, List.getD_cons_zero, List.getD_cons_succ]
     go_wp2_with fail
     refine noPanic_normal ?_
     have HB2 := Lib.hid (((Below.refl w1.heap.size w1).alloc (Nat.le_refl _) (.cells #[.int .i64 x.kind, .int .i64 x.at_, .int .i64 x.nx, .string (tx x.tx), .int .i64 x.lv, .int .u64 (clsW x.cl 0), .int .u64 (clsW x.cl 1), .int .u64 (clsW x.cl 2), .int .u64 (clsW x.cl 3)] 119)).drew)
     have HG2' := Lib.hid (show hrow (w1.alloc (.cells #[.int .i64 x.kind, .int .i64 x.at_, .int .i64 x.nx, .string (tx x.tx), .int .i64 x.lv, .int .u64 (clsW x.cl 0), .int .u64 (clsW x.cl 1), .int .u64 (clsW x.cl 2), .int .u64 (clsW x.cl 3)] 119)).drew w1.heap.size #[.int .i64 x.kind, .int .i64 x.at_, .int .i64 x.nx, .string (tx x.tx), .int .i64 x.lv, .int .u64 (clsW x.cl 0), .int .u64 (clsW x.cl 1), .int .u64 (clsW x.cl 2), .int .u64 (clsW x.cl 3)] 119 from hrow.new w1 _ _)
     have HI2 := Lib.hid (HI1.out.below HB2.out)
     have HT9 : Hid (τ w1.heap.size = 0) := by obtain ⟨⟨v1, v2, v3, v4, v5, h1, h2⟩, _, _, _⟩ := HI1.out.tr; exact h2.new _ (Nat.le_refl _)
     have HGW : Hid (gt + 1 < w1.heap.size) := by have := HI1.out.rd.lt; have := HI1.out.rd.le; unfold Hid; omega
     clear c0 c1 HP HC2 HB2 HI1
     generalize (w1.alloc (.cells #[.int .i64 x.kind, .int .i64 x.at_, .int .i64 x.nx, .string (tx x.tx), .int .i64 x.lv, .int .u64 (clsW x.cl 0), .int .u64 (clsW x.cl 1), .int .u64 (clsW x.cl 2), .int .u64 (clsW x.cl 3)] 119)).drew = w2 at HI2 HG2' ⊢
     generalize w1.heap.size = g9 at HG2' HGW HT9 ⊢
     have k0 : w2.cell? ⟨g9, 0, none⟩ = some (.int .i64 x.kind) := HG2'.out.cell 0
     have k4 : w2.cell? ⟨g9, 4, none⟩ = some (.int .i64 x.lv) := HG2'.out.cell 4
     by_cases hgo : x.kind = 2 ∧ x.lv < 0
     ·have hk2 : ((x.kind : Int) != 2) = false := by simp; omega
      have hl0 : ¬ (0 : Int) ≤ x.lv := by omega
      have HKL := Lib.hid hgo
      clear hgo
      have hlt1 : j + 1 < L.length := HW.out.next HI2.out.lt (by rw [HX.out, HKL.out.1]; decide)
      have HLT1 := Lib.hid hlt1
      have hjI : (j : Int) + 1 ≤ 50000 := by have := HL.out; omega
      obtain ⟨hqs, hfs⟩ := HI2.out.rd.set (i' := j + 1) (d' := ((0 : Nat) : Int)) (e' := 0) (a' := 0) 1 (.int .i64 ((j : Int) + 1)) (fun y => by simp)
      have HI2nb := Lib.hid HI2.out.nb; have HI2rb := Lib.hid HI2.out.rb
      have HI3 := Lib.hid (HI2.out.call hfs hqs hlt1 (by omega))
      have HG3 := Lib.hid (HG2'.out.fr hfs (fun e => by have := HGW.out; omega))
      obtain ⟨ao9, cap9, hrw, -, -⟩ := HI2.out.rd.row
      have c1 : w2.cell? ⟨gt + 1, 1, none⟩ = some (.int .i64 j) := hrw.cell 1
      have f1 : w2.frozen? ⟨gt + 1, 1, none⟩ = false := hrw.frozen 1
      clear hqs hfs hrw hlt1
      go_upto_region 11 with (fail)
      generalize w2.setCell ⟨gt + 1, 1, none⟩ (.int .i64 ((j : Int) + 1)) = w3 at HI3 HG3 ⊢
      clear c1 f1 k0 k4 HG2' HI2
      have HWT := Lib.hid (qwant_any L (gt + 1 + 1) (gt + 1) (j + 1) ((0 : Nat) : Int) 0 0 w3 HI3.out.rd HLT1.out (by have := HL.out; omega) [60, 45])
      unfold ptr QwP at HWT
      go_wp2_with fail
      refine HWT.out.mono ?_
      rintro rr1 w4 ⟨rfl, ⟨i1, e1, a1', hq4, hw1, hw0, -⟩, hf4⟩
      have hi1 : i1 < L.length ∧ j + 1 ≤ i1 := by
       cases hh : hereW L (j + 1) [60, 45] with
       | true => obtain ⟨h1, -⟩ := hw1 trivial hh; have := HW.out.after HLT1.out hh; omega
       | false => obtain ⟨h1, -⟩ := hw0 trivial hh; have := HLT1.out; omega
      have HI4 := Lib.hid (HI3.out.call hf4 hq4 hi1.1 hi1.2)
      have HG4 := Lib.hid (HG3.out.fr hf4 (fun e => by have := HGW.out; omega))
      obtain ⟨ra, hra, hras⟩ := rulP_as HR1.out (by rw [HX.out]; exact HKL.out.1) (by rw [HX.out]; exact HKL.out.2) (fun h => hw1 trivial h) (fun h => hw0 trivial h)
      have HRAS := Lib.hid hras
      have HII := Lib.hid hi1
      have hg4 : gt + 1 < w4.heap.size := by have := HI4.out.rd.lt; have := HI4.out.rd.le; omega
      have HAL := Lib.hid (qalt_any L (gt + 1) HW.out (by have := HL.out; omega) (6 * L.length + 4) w4.heap.size i1 0 e1 a1' w4 ra hra (HI4.out.rd.base hg4 (Nat.le_refl _)) hi1.1 (by omega))
      have HG9 : Hid (g9 < w4.heap.size) := HG4.out.lt
      have HNEW : Hid (∀ k, w4.heap.size ≤ k → τ k = 0) := by obtain ⟨⟨v1, v2, v3, v4, v5, h1, h2⟩, _, _, _⟩ := HI4.out.tr; exact h2.new
      clear hq4 hw1 hw0 hf4 hi1 hra hras hg4 HWT HI3 HG3
      unfold ptr PqP at HAL
      go_wp2_with fail
      refine HAL.out.mono ?_
      rintro rr2 w5 ⟨q, cs, i2, e2, a2', rfl, hpv, hrq, hfr, hi1, hi2, hsz, hm⟩
      obtain ⟨kq, cl, tq, lv, aq, nm, ks⟩ := q
      have hpv0 := hpv
      unfold PvW at hpv
      obtain ⟨ko, kc, vs0, rfl, -⟩ := hpv
      unfold ptC at hpv0 ⊢
      have HI5 := Lib.hid (HI4.out.call hfr (hrq.base (Nat.lt_succ_self _) (by have := HI4.out.rd.le; have := hfr.size; omega)) hi2 hi1)
      have HG5 := Lib.hid (HG4.out.fr hfr (fun e => by have := HGW.out; omega))
      have HSZ := Lib.hid hsz; have HM := Lib.hid hm; have HIJ := Lib.hid hi1
      have HPV := Lib.hid (PvW.bound _ _ hpv0)
      have HS5 := Lib.hid hfr.size
      clear hpv0 hrq hfr hi1 hi2 hsz hm HAL HI4 HG4
      -- the part's block
      have hbl := (Below.refl w5.heap.size w5).alloc (Nat.le_refl _) (.cells #[.int .i64 kq, .int .u64 (clsW cl 0), .int .u64 (clsW cl 1), .int .u64 (clsW cl 2), .int .u64 (clsW cl 3), .string (tx tq), .int .i64 0, .int .i64 lv, .slice none 0 0, .int .i64 aq, .string (tx nm), .slice ko ks.length kc] 122)
      have HI6 := Lib.hid (HI5.out.below hbl)
      have HG6 := Lib.hid (HG5.out.below hbl)
      have HPV6 := Lib.hid (HPV.out.below hbl)
      have HRP6 := Lib.hid (hrow.new w5 #[.int .i64 kq, .int .u64 (clsW cl 0), .int .u64 (clsW cl 1), .int .u64 (clsW cl 2), .int .u64 (clsW cl 3), .string (tx tq), .int .i64 0, .int .i64 lv, .slice none 0 0, .int .i64 aq, .string (tx nm), .slice ko ks.length kc] 122)
      have HWT := Lib.hid (qwant_any L (gt + 1 + 1) (gt + 1) i2 ((0 : Nat) : Int) e2 a2' (w5.alloc (.cells #[.int .i64 kq, .int .u64 (clsW cl 0), .int .u64 (clsW cl 1), .int .u64 (clsW cl 2), .int .u64 (clsW cl 3), .string (tx tq), .int .i64 0, .int .i64 lv, .slice none 0 0, .int .i64 aq, .string (tx nm), .slice ko ks.length kc] 122)) HI6.out.rd HI5.out.lt (by have := HL.out; omega) [59])
      unfold ptr QwP at HWT
      clear hbl
      go_wp2_with fail
      generalize w5.alloc (.cells #[.int .i64 kq, .int .u64 (clsW cl 0), .int .u64 (clsW cl 1), .int .u64 (clsW cl 2), .int .u64 (clsW cl 3), .string (tx tq), .int .i64 0, .int .i64 lv, .slice none 0 0, .int .i64 aq, .string (tx nm), .slice ko ks.length kc] 122) = w6 at HI6 HG6 HPV6 HRP6 HWT ⊢
      refine HWT.out.mono ?_
      rintro rr3 w7 ⟨rfl, ⟨i3, e3, a3', hq7, g1, g0, gn⟩, hf7⟩
      have hi3 : i3 < L.length ∧ i2 ≤ i3 := by
       by_cases h0 : e2 = 0
       ·cases hh : hereW L i2 [59] with
        | true => obtain ⟨h1, -⟩ := g1 h0 hh; have := HW.out.after HI5.out.lt hh; omega
        | false => obtain ⟨h1, -⟩ := g0 h0 hh; have := HI5.out.lt; omega
       ·obtain ⟨h1, -⟩ := gn h0; have := HI5.out.lt; omega
      have HI7 := Lib.hid (HI6.out.call hf7 hq7 hi3.1 hi3.2)
      have HG7 := Lib.hid (HG6.out.fr hf7 (fun e => by have := HGW.out; omega))
      have HGP7 := Lib.hid (HRP6.out.fr hf7 (fun e => by have := HGW.out; have := HG9.out; have := HS5.out; omega))
      have HPV7 : Hid (PvW w7 (fun k => w4.heap.size ≤ k) (Pt.mk kq cl tq lv aq nm ks) #[.int .i64 kq, .int .u64 (clsW cl 0), .int .u64 (clsW cl 1), .int .u64 (clsW cl 2), .int .u64 (clsW cl 3), .string (tx tq), .int .i64 0, .int .i64 lv, .slice none 0 0, .int .i64 aq, .string (tx nm), .slice ko ks.length kc]) := PvW.fr hf7 (fun k hk e => by have := HGW.out; have := HG9.out; have h3 := hk.1; omega) (fun k hk => hk.1) _ _ HPV6.out
      have HAFT := Lib.hid (HRAS.out (Pt.mk kq cl tq lv aq nm ks) i2 e2 a2' i3 e3 a3' HM.out g1 g0 gn)
      have HI33 := Lib.hid hi3
      clear hq7 g1 g0 gn hf7 hi3 HWT HI6 HG6 HPV6 HRP6 HRAS HM HI5 HG5 HPV
      generalize w5.heap.size = gp at HGP7 HS5 ⊢
      -- the rule is put
      have HTG : Hid (τ gt ≠ 0) := by have := HI7.out.tr.tag; unfold Hid; omega
      obtain ⟨o1, o2, o3, o4, o5, b1, b2, b3, b4, b5, hQ⟩ := HI7.out.tr.start (Fr.refl (fun k => τ k ≠ 0) w7) (fun _ _ => rfl)
      have HQ7 := Lib.hid hQ
      have HG9x : Hid (∀ z, Fr (fun k => τ k ≠ 0) w7 z → hrow z g9 #[.int .i64 x.kind, .int .i64 x.at_, .int .i64 x.nx, .string (tx x.tx), .int .i64 x.lv, .int .u64 (clsW x.cl 0), .int .u64 (clsW x.cl 1), .int .u64 (clsW x.cl 2), .int .u64 (clsW x.cl 3)] 119) := fun z hz => HG7.out.fr hz (fun e => e HT9.out)
      have HGPx : Hid (∀ z, Fr (fun k => τ k ≠ 0) w7 z → hrow z gp #[.int .i64 kq, .int .u64 (clsW cl 0), .int .u64 (clsW cl 1), .int .u64 (clsW cl 2), .int .u64 (clsW cl 3), .string (tx tq), .int .i64 0, .int .i64 lv, .slice none 0 0, .int .i64 aq, .string (tx nm), .slice ko ks.length kc] 122) := fun z hz => HGP7.out.fr hz (fun e => e (HNEW.out gp HS5.out))
      have HRB : Hid (R.length ≤ 20000) := by have h1 := HI7.out.rb; have h2 := HI7.out.lt; have h3 := HL.out; unfold Hid; omega
      have q0 : w7.cell? ⟨gt, 0, none⟩ = some (.slice o1 R.length b1) := hQ.obj.cell 0
      have q3 : w7.cell? ⟨gt, 3, none⟩ = some (.slice o4 N.length b4) := hQ.obj.cell 3
      have k3 : w7.cell? ⟨g9, 3, none⟩ = some (.string (tx x.tx)) := HG7.out.cell 3
      have HQ8 := Lib.hid (hQ.below ((Below.refl _ w7).alloc (Nat.le_refl _) (.cells #[.string (tx x.tx), .int .i64 N.length] 48)))
      have HSL := Lib.hid (Sv.lit w7 48 #[.string (tx x.tx), .int .i64 N.length] 1 2 (by unfold maxLen; omega) rfl)
      have HOW := Lib.hid (show _ by have h := HQ8.out.tr.t2.1; rw [List.length_map] at h; exact h)
      clear hQ HGP7 HG7
      go_upto_region 15 with (at_builtin; refine wpList_append_tag _ rfl (.tmp 87) (.tmp 94) 23 48 rfl elRule 0 (.slice o1 R.length b1) R.length _ rfl HOW.out ⟨w7.heap.size, 0, none⟩ 1 1 _ rfl HSL.out (by simp [Value.oneCell']) (by have := HRB.out; omega) (by have := HRB.out; unfold maxLen; omega) (Nat.zero_le _) ?_; intro v' z3 ho hgr hb; obtain ⟨p1, p1c, rfl, -⟩ := Sv.of_owns ho; have HI9 := Lib.hid (HQ8.out.step hgr HQ8.out.tr.t2.2 (by omega) (HQ8.out.tr.rule (Rr.ru ⟨x.tx, N.length, x.at_⟩) (by rw [List.length_map]; exact ho) hgr hb)); have f0 := HI9.out.obj.frozen 0; have c0 := HI9.out.obj.cell 0; clear ho hgr hb)
      have HI10 := Lib.hid (HI9.out.put HTG.out 0 (.slice p1 (R.length + 1) p1c))
      clear HI9 HSL HOW HQ8 q0 q3 k3 f0 c0
      revert HI10
      generalize tagN τ (w7.alloc (.cells #[.string (tx x.tx), .int .i64 N.length] 48)).heap.size z3.heap.size 2 = τ1
      generalize z3.setCell ⟨gt, 0, none⟩ (.slice p1 (R.length + 1) p1c) = z4
      simp only [List.setIfInBounds_toArray, List.set_cons_zero]
      intro HI10
      have q2 : z4.cell? ⟨gt, 2, none⟩ = some (.slice o3 R.length b3) := HI10.out.obj.cell 2
      have k1 : z4.cell? ⟨g9, 1, none⟩ = some (.int .i64 x.at_) := (HG9x.out z4 HI10.out.fr).cell 1
      have HJ2 := Lib.hid (HI10.out.below ((Below.refl _ z4).alloc (Nat.le_refl _) (.cells #[.int .i64 x.at_] 3)))
      have HSL := Lib.hid (Sv.lit z4 3 #[.int .i64 x.at_] 1 1 (by unfold maxLen; omega) rfl)
      have HOW := Lib.hid (show _ by have h := HJ2.out.tr.t4.1; rw [List.length_map] at h; exact h)
      clear HI10
      go_upto_region 16 with (at_builtin; refine wpList_append_tag _ rfl (.tmp 99) (.tmp 102) 27 3 rfl elIntS 0 (.slice o3 R.length b3) R.length _ rfl HOW.out ⟨z4.heap.size, 0, none⟩ 1 1 _ rfl HSL.out (by simp [Value.oneCell']) (by have := HRB.out; omega) (by have := HRB.out; unfold maxLen; omega) (Nat.zero_le _) ?_; intro v' y3 ho hgr hb; obtain ⟨p3, p3c, rfl, -⟩ := Sv.of_owns ho; have HJ3 := Lib.hid (HJ2.out.step hgr HJ2.out.tr.t4.2 (by omega) (HJ2.out.tr.ra (x.at_ : Int) (by rw [List.length_map]; exact ho) hgr hb)); have f2 := HJ3.out.obj.frozen 2; have c2 := HJ3.out.obj.cell 2; clear ho hgr hb)
      have HJ4 := Lib.hid (HJ3.out.put HTG.out 2 (.slice p3 (R.length + 1) p3c))
      clear HJ3 HSL HOW HJ2 q2 k1 f2 c2
      revert HJ4
      generalize tagN τ1 (z4.alloc (.cells #[.int .i64 x.at_] 3)).heap.size y3.heap.size 4 = τ2
      generalize y3.setCell ⟨gt, 2, none⟩ (.slice p3 (R.length + 1) p3c) = y4
      simp only [List.setIfInBounds_toArray, List.set_cons_zero, List.set_cons_succ]
      intro HJ4
      have HT4 : Hid (TqW y4 gt τ2 (R ++ [⟨x.tx, N.length, x.at_⟩]) N NK NK) := HJ4.out.tree (by simp) (by simp) rfl rfl HI7.out.tr.nk HI7.out.tr.nl
      have HP8 : Hid (PvW y4 (fun k => τ2 k = 0) (Pt.mk kq cl tq lv aq nm ks) #[.int .i64 kq, .int .u64 (clsW cl 0), .int .u64 (clsW cl 1), .int .u64 (clsW cl 2), .int .u64 (clsW cl 3), .string (tx tq), .int .i64 0, .int .i64 lv, .slice none 0 0, .int .i64 aq, .string (tx nm), .slice ko ks.length kc]) := HJ4.out.part (F := fun k => τ2 k = 0) (PvW.fr (H := fun k => τ k = 0) (Fr.refl (fun _ => False) w7) (fun _ _ e => e) (fun k hk => HNEW.out k hk) _ _ HPV7.out) (fun k hk h0 => (HJ4.out.old k hk).trans h0)
      have HPT := Lib.hid (putQ_any (Pt.mk kq cl tq lv aq nm ks) #[.int .i64 kq, .int .u64 (clsW cl 0), .int .u64 (clsW cl 1), .int .u64 (clsW cl 2), .int .u64 (clsW cl 3), .string (tx tq), .int .i64 0, .int .i64 lv, .slice none 0 0, .int .i64 aq, .string (tx nm), .slice ko ks.length kc] gt τ2 _ N NK NK y4 HT4.out HP8.out (by have h1 := HI7.out.nb; have h2 := HI7.out.lt; have h3 := HL.out; have h4 := HSZ.out; have h5 := HI33.out; omega))
      have HGPy := Lib.hid (HGPx.out y4 HJ4.out.fr)
      have HF4 := Lib.hid HJ4.out.fr
      have HO4 := Lib.hid HJ4.out.old
      clear HJ4 HT4 HP8 HGPx HG9x HQ7
      unfold ptr at HPT
      go_wp2_with (refine load_partQ rfl (.tmp 10) rfl gp rfl #[.int .i64 kq, .int .u64 (clsW cl 0), .int .u64 (clsW cl 1), .int .u64 (clsW cl 2), .int .u64 (clsW cl 3), .string (tx tq), .int .i64 0, .int .i64 lv, .slice none 0 0, .int .i64 aq, .string (tx nm), .slice ko ks.length kc] HGPy.out rfl ?_)
      refine HPT.out.mono ?_
      rintro rr4 y5 ⟨rfl, τ3, X, hX, hT5, hf5, ho5⟩
      have HN := Lib.hid (HI7.out.turn hT5 (by rw [List.map_append, List.map_append, HI7.out.nk, hX]) (HF4.out.trans hf5 (fun k hk e => by have := HO4.out k hk; omega)) (fun k hk => (ho5 k (Nat.lt_of_lt_of_le hk HF4.out.size)).trans (HO4.out k hk))
       (by rw [List.length_append, flat_len]; have h1 := HI2nb.out; have h4 := HSZ.out; have h5 := HI33.out; have h6 := HIJ.out; have h7 := HII.out; omega) (by rw [List.length_append, List.length_singleton]; have h1 := HI2rb.out; have h5 := HI33.out; have h6 := HIJ.out; have h7 := HII.out; omega))
      have HCN : Hid (CnT L rr (R ++ [⟨x.tx, N.length, x.at_⟩]) (N ++ flat N.length (Pt.mk kq cl tq lv aq nm ks)) i3 e3 a3') := by
       rcases HAFT.out with ⟨h1, h2, h3⟩ | ⟨h1, h2⟩
       ·rw [h1, h2]
        have := HOK.out _ _ _ h3
        rw [HX.out] at this
        exact this
       ·exact HER.out _ _ _ _ _ h2 h1
      clear hX hT5 hf5 ho5 HPT HF4 HO4
      go_wp2_with fail
      go_roundw
      case rel => exact ⟨_, _, _, _, _, _, _, HCN.out, HN.out⟩
      case measure => rw [HPO.out, HN.out.rd.pos]; have h1 := HI33.out; have h5 := HIJ.out; have h7 := HII.out; omega
     ·have hbad : x.kind ≠ 2 ∨ 0 ≤ x.lv := by omega
      have HRB : Hid (r1 = .err 7 x.at_) := by
       have h := HR1.out
       unfold rulP at h
       simp only [] at h
       rw [HX.out, if_pos hbad] at h
       exact (Option.some.inj h).symm
      have HFL := Lib.hid (qfail_any L (gt + 1 + 1) (gt + 1) j ((0 : Nat) : Int) 0 0 w2 HI2.out.rd HI2.out.lt 7)
      unfold ptr at HFL
      have HBX := Lib.hid hbad
      clear hbad
      by_cases hk : x.kind = 2
      ·have hk2 : ((x.kind : Int) != 2) = false := by simp; omega
       have hl0 : (0 : Int) ≤ x.lv := by have := HBX.out; omega
       clear hk hgo
       go_wp2_with fail
       refine HFL.out.mono ?_
       rintro rr1 w3 ⟨rfl, h1, h2⟩
       simp only [if_true] at h1
       rw [HX.out] at h1
       have HI3 := Lib.hid (HI2.out.call h2 h1 HI2.out.lt (Nat.le_refl _))
       have HBD := Lib.hid ((HER.out R N j 7 x.at_ HRB.out (by decide)).bad (by decide))
       have H7 : Hid ((7 : Nat) ≠ 0) := by unfold Hid; decide
       clear h1 h2 HFL HI2 k0 k4 HG2'
       obtain ⟨aoE, capE, hrE, -, -⟩ := HI3.out.rd.row
       have s3 : w3.cell? ⟨gt + 1, 3, none⟩ = some (.int .i64 (7 : Nat)) := hrE.cell 3
       have s4 : w3.cell? ⟨gt + 1, 4, none⟩ = some (.int .i64 x.at_) := hrE.cell 4
       have z3ne : (((7 : Nat) : Int) != 0) = true := by have := H7.out; rw [bne_iff_ne]; omega
       clear hrE
       go_upto_region 18 with (fail)
       have HZ2 := Lib.hid HI3.out.z2; have HZ3 := Lib.hid HI3.out.z3
       have k0 := HZ2.out.cell 0; have k1 := HZ2.out.cell 1; have k2 := HZ2.out.cell 2; have k3 := HZ2.out.cell 3; have k4 := HZ2.out.cell 4
       have m0 := HZ2.out.frozen 0; have m1 := HZ2.out.frozen 1; have m2 := HZ2.out.frozen 2; have m3 := HZ2.out.frozen 3; have m4 := HZ2.out.frozen 4
       have l0 := HZ3.out.cell 0; have l1 := HZ3.out.cell 1; have n0 := HZ3.out.frozen 0; have n1 := HZ3.out.frozen 1
       have hne : g2 ≠ g2 + 1 := by omega
       have hn2 : ¬ (gt + 1 = g2) := by have := HI3.out.g3; omega
       have hn3 : ¬ (gt + 1 = g2 + 1) := by have := HI3.out.g3; omega
       go_region
       clear k0 k1 k2 k3 k4 m0 m1 m2 m3 m4 l0 l1 n0 n1
       clear s3 s4
       obtain ⟨z, hz, z2, z3, zf⟩ := stores7q (.slice none 0 0) (.slice none 0 0) (.slice none 0 0) (.slice none 0 0) (.slice none 0 0) (.int .i64 7) (.int .i64 x.at_) HZ2.out HZ3.out hne
       rw [hz]
       have hbd := (Below.refl z.heap.size z).drew
       have Z2 := Lib.hid (z2.below hbd); have Z3 := Lib.hid (z3.below hbd)
       have hlo := HI3.out.lo; have hle := HI3.out.le
       have ZF := Lib.hid (hlo.trans (zf.below hlo.size (fun k hk e => by omega))).drew
       clear hz z2 z3 zf hbd hlo hle
       generalize z.drew = z' at Z2 Z3 ZF ⊢
       go_wp2_with fail
       refine bodyPost_ret (results_c2 rfl _ _ _ _ _ _ rfl rfl (treeq_ld Z2.out) (diag_ld Z3.out)) rfl ?_
       unfold TxtP
       rw [HRT.out, HRW.out, HBD.out]
       exact ⟨_, _, _, _, _, rfl, treeOut_nil _ _, ZF.out⟩
      ·have hk2 : ((x.kind : Int) != 2) = true := by simp; omega
       clear hk hgo
       go_wp2_with fail
       refine HFL.out.mono ?_
       rintro rr1 w3 ⟨rfl, h1, h2⟩
       simp only [if_true] at h1
       rw [HX.out] at h1
       have HI3 := Lib.hid (HI2.out.call h2 h1 HI2.out.lt (Nat.le_refl _))
       have HBD := Lib.hid ((HER.out R N j 7 x.at_ HRB.out (by decide)).bad (by decide))
       have H7 : Hid ((7 : Nat) ≠ 0) := by unfold Hid; decide
       clear h1 h2 HFL HI2 k0 k4 HG2'
       obtain ⟨aoE, capE, hrE, -, -⟩ := HI3.out.rd.row
       have s3 : w3.cell? ⟨gt + 1, 3, none⟩ = some (.int .i64 (7 : Nat)) := hrE.cell 3
       have s4 : w3.cell? ⟨gt + 1, 4, none⟩ = some (.int .i64 x.at_) := hrE.cell 4
       have z3ne : (((7 : Nat) : Int) != 0) = true := by have := H7.out; rw [bne_iff_ne]; omega
       clear hrE
       go_upto_region 18 with (fail)
       have HZ2 := Lib.hid HI3.out.z2; have HZ3 := Lib.hid HI3.out.z3
       have k0 := HZ2.out.cell 0; have k1 := HZ2.out.cell 1; have k2 := HZ2.out.cell 2; have k3 := HZ2.out.cell 3; have k4 := HZ2.out.cell 4
       have m0 := HZ2.out.frozen 0; have m1 := HZ2.out.frozen 1; have m2 := HZ2.out.frozen 2; have m3 := HZ2.out.frozen 3; have m4 := HZ2.out.frozen 4
       have l0 := HZ3.out.cell 0; have l1 := HZ3.out.cell 1; have n0 := HZ3.out.frozen 0; have n1 := HZ3.out.frozen 1
       have hne : g2 ≠ g2 + 1 := by omega
       have hn2 : ¬ (gt + 1 = g2) := by have := HI3.out.g3; omega
       have hn3 : ¬ (gt + 1 = g2 + 1) := by have := HI3.out.g3; omega
       go_region
       clear k0 k1 k2 k3 k4 m0 m1 m2 m3 m4 l0 l1 n0 n1
       clear s3 s4
       obtain ⟨z, hz, z2, z3, zf⟩ := stores7q (.slice none 0 0) (.slice none 0 0) (.slice none 0 0) (.slice none 0 0) (.slice none 0 0) (.int .i64 7) (.int .i64 x.at_) HZ2.out HZ3.out hne
       rw [hz]
       have hbd := (Below.refl z.heap.size z).drew
       have Z2 := Lib.hid (z2.below hbd); have Z3 := Lib.hid (z3.below hbd)
       have hlo := HI3.out.lo; have hle := HI3.out.le
       have ZF := Lib.hid (hlo.trans (zf.below hlo.size (fun k hk e => by omega))).drew
       clear hz z2 z3 zf hbd hlo hle
       generalize z.drew = z' at Z2 Z3 ZF ⊢
       go_wp2_with fail
       refine bodyPost_ret (results_c2 rfl _ _ _ _ _ _ rfl rfl (treeq_ld Z2.out) (diag_ld Z3.out)) rfl ?_
       unfold TxtP
       rw [HRT.out, HRW.out, HBD.out]
       exact ⟨_, _, _, _, _, rfl, treeOut_nil _ _, ZF.out⟩
    ·have g0 : ((rn : Int) == 0) = false := by rw [beq_eq_false_iff_ne]; omega
     by_cases hk : x.kind = 1
     ·have q1 : ((x.kind : Int) != 1) = false := by simp; omega
      have HDN := Lib.hid (HC.out.done hR (by rw [HX.out]; exact hk))
      clear hR hk hrn
      go_upto_region 6 with (fail)
      refine wp_region_quiet_lit (by kernel_rfl) (by kernel_rfl) ?_
      repeat (go_big_quiet_step (fail))
      refine wpQuiet_nil ?_
      intro _ hw'
      obtain ⟨nq, hw''⟩ := hw'
      subst hw''
      have HI1 := Lib.hid (HI.out.below (below_drewN (Below.refl _ _) nq))
      have HC1 : Hid (∀ i v, (#[.int .i64 x.kind, .int .i64 x.at_, .int .i64 x.nx, .string (tx x.tx), .int .i64 x.lv, .int .u64 (clsW x.cl 0), .int .u64 (clsW x.cl 1), .int .u64 (clsW x.cl 2), .int .u64 (clsW x.cl 3)] : Array Value).toList[i]? = some v → (wr.drewN nq).cell? ((pw.add (j * 9)).add i) = some v) := fun i v hv => ((below_drewN (Below.refl _ _) nq).cell (World.block_lt_of_cell? wr _ (HC9.out i v hv))).trans (HC9.out i v hv)
      clear HI HC9 HRQ0 HQ HC q2 r0 r1 r3 n0
      generalize wr.drewN nq = w1 at HI1 HC1 ⊢
      obtain ⟨acc, hrr, hRa, hNa⟩ := HDN.out
      have HRR := Lib.hid hrr; have HRA := Lib.hid hRa; have HNA := Lib.hid hNa
      clear hrr hRa hNa
      obtain ⟨aoE, capE, hrE, -, -⟩ := HI1.out.rd.row
      have s3 : w1.cell? ⟨gt + 1, 3, none⟩ = some (.int .i64 (0 : Nat)) := hrE.cell 3
      clear hrE
      obtain ⟨a1, a2, a3, a4, a5, d1, d2, d3, d4, d5, hQ⟩ := HI1.out.tr.start (Fr.refl (fun k => τ k ≠ 0) w1) (fun _ _ => rfl)
      have t0 := hQ.obj.cell 0; have t1 := hQ.obj.cell 1; have t2 := hQ.obj.cell 2; have t3 := hQ.obj.cell 3; have t4 := hQ.obj.cell 4
      have HQ1 := Lib.hid hQ
      have HZ2 := Lib.hid HI1.out.z2; have HZ3 := Lib.hid HI1.out.z3
      have k0 := HZ2.out.cell 0; have k1 := HZ2.out.cell 1; have k2 := HZ2.out.cell 2; have k3 := HZ2.out.cell 3; have k4 := HZ2.out.cell 4
      have m0 := HZ2.out.frozen 0; have m1 := HZ2.out.frozen 1; have m2 := HZ2.out.frozen 2; have m3 := HZ2.out.frozen 3; have m4 := HZ2.out.frozen 4
      have l0 := HZ3.out.cell 0; have l1 := HZ3.out.cell 1; have n0 := HZ3.out.frozen 0; have n1 := HZ3.out.frozen 1
      have hne : g2 ≠ g2 + 1 := by omega
      clear hQ
      go_wp2_with fail
      clear k0 k1 k2 k3 k4 m0 m1 m2 m3 m4 l0 l1 n0 n1
      clear s3 t0 t1 t2 t3 t4
      obtain ⟨z, hz, z2, z3, zf⟩ := stores7q (.slice a1 R.length d1) (.slice a2 N.length d2) (.slice a3 R.length d3) (.slice a4 N.length d4) (.slice a5 N.length d5) (.int .i64 0) (.int .i64 0) HZ2.out HZ3.out hne
      rw [hz]
      refine bodyPost_ret (results_c2 rfl _ _ _ _ _ _ rfl rfl (treeq_ld z2) (diag_ld z3)) rfl ?_
      unfold TxtP
      rw [HRT.out, HRW.out, HRR.out]
      have hlo := HI1.out.lo; have hle := HI1.out.le; have hg3 := HI1.out.g3; have hap := HI1.out.ap.1
      have zz2 : τ g2 = 0 := HI1.out.ap.2 g2 (by omega) (by omega)
      have zz3 : τ (g2 + 1) = 0 := HI1.out.ap.2 (g2 + 1) (by omega) (by omega)
      simp only []
      rw [show (treeF 0 acc).1 = R from HRA.out.symm, show (treeF 0 acc).2 = N from HNA.out.symm]
      exact ⟨_, _, _, _, _, rfl, ⟨τ, NK, HQ1.out.tr.fr zf (fun k _ h1 h2 => by rcases h2 with h2 | h2 <;> subst h2 <;> omega), HI1.out.nk, HI1.out.fresh⟩, hlo.trans (zf.below hlo.size (fun k hk e => by omega))⟩
     ·have q1 : ((x.kind : Int) != 1) = true := by simp; omega
      have HASK := Lib.hid (HC.out.ask (.inr (by rw [HX.out]; exact hk)))
      clear hR hk hrn
      go_upto_region 6 with (fail)
      refine wp_region_quiet_lit (by kernel_rfl) (by kernel_rfl) ?_
      repeat (go_big_quiet_step (fail))
      refine wpQuiet_nil ?_
      intro _ hw'
      obtain ⟨nq, hw''⟩ := hw'
      subst hw''
      have HI1 := Lib.hid (HI.out.below (below_drewN (Below.refl _ _) nq))
      have HC1 : Hid (∀ i v, (#[.int .i64 x.kind, .int .i64 x.at_, .int .i64 x.nx, .string (tx x.tx), .int .i64 x.lv, .int .u64 (clsW x.cl 0), .int .u64 (clsW x.cl 1), .int .u64 (clsW x.cl 2), .int .u64 (clsW x.cl 3)] : Array Value).toList[i]? = some v → (wr.drewN nq).cell? ((pw.add (j * 9)).add i) = some v) := fun i v hv => ((below_drewN (Below.refl _ _) nq).cell (World.block_lt_of_cell? wr _ (HC9.out i v hv))).trans (HC9.out i v hv)
      clear HI HC9 HRQ0 HQ HC q2 r0 r1 r3 n0
      generalize wr.drewN nq = w1 at HI1 HC1 ⊢
      obtain ⟨ha0, r1, hr1, hok, herr⟩ := HASK.out
      subst ha0
      have HR1 := Lib.hid hr1; have HOK := Lib.hid hok; have HER := Lib.hid herr
      clear hr1 hok herr HASK
      -- the rule's name
      obtain ⟨ao9, cap9, hrw, -, -⟩ := HI1.out.rd.row
      have hrw0 := hrw
      obtain ⟨aoW, capW, pW, hrW, haW, hcW, -⟩ := HI1.out.rd.at HI1.out.lt
      subst haW
      rw [HX.out] at hcW
      unfold wdD wdA at hcW
      have HC2 := Lib.hid hcW
      have c0 : ∀ y : Later w1, y.val.cell? ⟨gt + 1, 0, none⟩ = some (.slice (some pW) L.length capW) := fun y => (hrW.below y.ok).cell 0
      have c1 : ∀ y : Later w1, y.val.cell? ⟨gt + 1, 1, none⟩ = some (.int .i64 j) := fun y => (hrW.below y.ok).cell 1
      have HP := Lib.hid (later_all (rpart_later (wx := w1) HC2.out))
      clear hrw hrw0 hrW hcW HC1
      go_upto_region 7 with (fail)
      refine wp_region_noPanic ?_
      refine wp_region_T (fun z => ∃ y : Later w1, z = y.val) [0, 1, 2, 3, 4, 5, 6, 7, 8, 9, 10] 11 1 rfl (by kernel_rfl) ?_
      refine wpAnyT_reads (f := 1) [0, 1, 2, 3, 4, 5, 6, 7, 8, 9] (by kernel_rfl) (by kernel_rfl) ⟨⟨w1.drew, (Below.refl _ _).drew⟩, rfl⟩ (fun _ _ _ _ h => h) ?_
      simp only [pickOps, List.getD_cons_zero, List.getD_cons_succ]
      repeat (first
       | (refine wpRead_load rfl 119 (.tmp 60) rfl (pW.add (j * 9)) rfl _ HP.out ?_; simp only [Act.put, List.setIfInBounds_toArray, List.set_cons_zero, List.set_cons_succ])
       | (refine wpRead_cons (v := ?_) rfl ?_ ?_; rotate_left; (· (intro z hz; obtain ⟨y, rfl⟩ := hz; have f0 := c0 y; have f1 := c1 y; go_simp; try with_reducible rfl)); simp only [Act.put, List.setIfInBounds_toArray, List.set_cons_zero, List.set_cons_succ]))
      refine wpRead_nil ?_
      refine wpAnyT_one 10 (by kernel_rfl) (by kernel_rfl) rfl ?_
      simp only [List.getD_cons_zero, List.getD_cons_succ]
      go_wp2_with fail
      refine ⟨⟨⟨_, ((Below.refl w1.heap.size w1).drew).alloc (Nat.le_refl _) _⟩, rfl⟩, ?_⟩
      refine wpAnyT_tail [11] (by kernel_rfl) (by kernel_rfl) (by kernel_rfl) ?_
      simp only [pickOps, List.getD_cons_zero, List.getD_cons_succ]
      go_wp2_with fail
      refine noPanic_normal ?_
      have HB2 := Lib.hid (((Below.refl w1.heap.size w1).alloc (Nat.le_refl _) (.cells #[.int .i64 x.kind, .int .i64 x.at_, .int .i64 x.nx, .string (tx x.tx), .int .i64 x.lv, .int .u64 (clsW x.cl 0), .int .u64 (clsW x.cl 1), .int .u64 (clsW x.cl 2), .int .u64 (clsW x.cl 3)] 119)).drew)
      have HG2' := Lib.hid (show hrow (w1.alloc (.cells #[.int .i64 x.kind, .int .i64 x.at_, .int .i64 x.nx, .string (tx x.tx), .int .i64 x.lv, .int .u64 (clsW x.cl 0), .int .u64 (clsW x.cl 1), .int .u64 (clsW x.cl 2), .int .u64 (clsW x.cl 3)] 119)).drew w1.heap.size #[.int .i64 x.kind, .int .i64 x.at_, .int .i64 x.nx, .string (tx x.tx), .int .i64 x.lv, .int .u64 (clsW x.cl 0), .int .u64 (clsW x.cl 1), .int .u64 (clsW x.cl 2), .int .u64 (clsW x.cl 3)] 119 from hrow.new w1 _ _)
      have HI2 := Lib.hid (HI1.out.below HB2.out)
      have HT9 : Hid (τ w1.heap.size = 0) := by obtain ⟨⟨v1, v2, v3, v4, v5, h1, h2⟩, _, _, _⟩ := HI1.out.tr; exact h2.new _ (Nat.le_refl _)
      have HGW : Hid (gt + 1 < w1.heap.size) := by have := HI1.out.rd.lt; have := HI1.out.rd.le; unfold Hid; omega
      clear c0 c1 HP HC2 HB2 HI1
      generalize (w1.alloc (.cells #[.int .i64 x.kind, .int .i64 x.at_, .int .i64 x.nx, .string (tx x.tx), .int .i64 x.lv, .int .u64 (clsW x.cl 0), .int .u64 (clsW x.cl 1), .int .u64 (clsW x.cl 2), .int .u64 (clsW x.cl 3)] 119)).drew = w2 at HI2 HG2' ⊢
      generalize w1.heap.size = g9 at HG2' HGW HT9 ⊢
      have k0 : w2.cell? ⟨g9, 0, none⟩ = some (.int .i64 x.kind) := HG2'.out.cell 0
      have k4 : w2.cell? ⟨g9, 4, none⟩ = some (.int .i64 x.lv) := HG2'.out.cell 4
      by_cases hgo : x.kind = 2 ∧ x.lv < 0
      ·have hk2 : ((x.kind : Int) != 2) = false := by simp; omega
       have hl0 : ¬ (0 : Int) ≤ x.lv := by omega
       have HKL := Lib.hid hgo
       clear hgo
       have hlt1 : j + 1 < L.length := HW.out.next HI2.out.lt (by rw [HX.out, HKL.out.1]; decide)
       have HLT1 := Lib.hid hlt1
       have hjI : (j : Int) + 1 ≤ 50000 := by have := HL.out; omega
       obtain ⟨hqs, hfs⟩ := HI2.out.rd.set (i' := j + 1) (d' := ((0 : Nat) : Int)) (e' := 0) (a' := 0) 1 (.int .i64 ((j : Int) + 1)) (fun y => by simp)
       have HI2nb := Lib.hid HI2.out.nb; have HI2rb := Lib.hid HI2.out.rb
       have HI3 := Lib.hid (HI2.out.call hfs hqs hlt1 (by omega))
       have HG3 := Lib.hid (HG2'.out.fr hfs (fun e => by have := HGW.out; omega))
       obtain ⟨ao9, cap9, hrw, -, -⟩ := HI2.out.rd.row
       have c1 : w2.cell? ⟨gt + 1, 1, none⟩ = some (.int .i64 j) := hrw.cell 1
       have f1 : w2.frozen? ⟨gt + 1, 1, none⟩ = false := hrw.frozen 1
       clear hqs hfs hrw hlt1
       go_upto_region 11 with (fail)
       generalize w2.setCell ⟨gt + 1, 1, none⟩ (.int .i64 ((j : Int) + 1)) = w3 at HI3 HG3 ⊢
       clear c1 f1 k0 k4 HG2' HI2
       have HWT := Lib.hid (qwant_any L (gt + 1 + 1) (gt + 1) (j + 1) ((0 : Nat) : Int) 0 0 w3 HI3.out.rd HLT1.out (by have := HL.out; omega) [60, 45])
       unfold ptr QwP at HWT
       go_wp2_with fail
       refine HWT.out.mono ?_
       rintro rr1 w4 ⟨rfl, ⟨i1, e1, a1', hq4, hw1, hw0, -⟩, hf4⟩
       have hi1 : i1 < L.length ∧ j + 1 ≤ i1 := by
        cases hh : hereW L (j + 1) [60, 45] with
        | true => obtain ⟨h1, -⟩ := hw1 trivial hh; have := HW.out.after HLT1.out hh; omega
        | false => obtain ⟨h1, -⟩ := hw0 trivial hh; have := HLT1.out; omega
       have HI4 := Lib.hid (HI3.out.call hf4 hq4 hi1.1 hi1.2)
       have HG4 := Lib.hid (HG3.out.fr hf4 (fun e => by have := HGW.out; omega))
       obtain ⟨ra, hra, hras⟩ := rulP_as HR1.out (by rw [HX.out]; exact HKL.out.1) (by rw [HX.out]; exact HKL.out.2) (fun h => hw1 trivial h) (fun h => hw0 trivial h)
       have HRAS := Lib.hid hras
       have HII := Lib.hid hi1
       have hg4 : gt + 1 < w4.heap.size := by have := HI4.out.rd.lt; have := HI4.out.rd.le; omega
       have HAL := Lib.hid (qalt_any L (gt + 1) HW.out (by have := HL.out; omega) (6 * L.length + 4) w4.heap.size i1 0 e1 a1' w4 ra hra (HI4.out.rd.base hg4 (Nat.le_refl _)) hi1.1 (by omega))
       have HG9 : Hid (g9 < w4.heap.size) := HG4.out.lt
       have HNEW : Hid (∀ k, w4.heap.size ≤ k → τ k = 0) := by obtain ⟨⟨v1, v2, v3, v4, v5, h1, h2⟩, _, _, _⟩ := HI4.out.tr; exact h2.new
       clear hq4 hw1 hw0 hf4 hi1 hra hras hg4 HWT HI3 HG3
       unfold ptr PqP at HAL
       go_wp2_with fail
       refine HAL.out.mono ?_
       rintro rr2 w5 ⟨q, cs, i2, e2, a2', rfl, hpv, hrq, hfr, hi1, hi2, hsz, hm⟩
       obtain ⟨kq, cl, tq, lv, aq, nm, ks⟩ := q
       have hpv0 := hpv
       unfold PvW at hpv
       obtain ⟨ko, kc, vs0, rfl, -⟩ := hpv
       unfold ptC at hpv0 ⊢
       have HI5 := Lib.hid (HI4.out.call hfr (hrq.base (Nat.lt_succ_self _) (by have := HI4.out.rd.le; have := hfr.size; omega)) hi2 hi1)
       have HG5 := Lib.hid (HG4.out.fr hfr (fun e => by have := HGW.out; omega))
       have HSZ := Lib.hid hsz; have HM := Lib.hid hm; have HIJ := Lib.hid hi1
       have HPV := Lib.hid (PvW.bound _ _ hpv0)
       have HS5 := Lib.hid hfr.size
       clear hpv0 hrq hfr hi1 hi2 hsz hm HAL HI4 HG4
       -- the part's block
       have hbl := (Below.refl w5.heap.size w5).alloc (Nat.le_refl _) (.cells #[.int .i64 kq, .int .u64 (clsW cl 0), .int .u64 (clsW cl 1), .int .u64 (clsW cl 2), .int .u64 (clsW cl 3), .string (tx tq), .int .i64 0, .int .i64 lv, .slice none 0 0, .int .i64 aq, .string (tx nm), .slice ko ks.length kc] 122)
       have HI6 := Lib.hid (HI5.out.below hbl)
       have HG6 := Lib.hid (HG5.out.below hbl)
       have HPV6 := Lib.hid (HPV.out.below hbl)
       have HRP6 := Lib.hid (hrow.new w5 #[.int .i64 kq, .int .u64 (clsW cl 0), .int .u64 (clsW cl 1), .int .u64 (clsW cl 2), .int .u64 (clsW cl 3), .string (tx tq), .int .i64 0, .int .i64 lv, .slice none 0 0, .int .i64 aq, .string (tx nm), .slice ko ks.length kc] 122)
       have HWT := Lib.hid (qwant_any L (gt + 1 + 1) (gt + 1) i2 ((0 : Nat) : Int) e2 a2' (w5.alloc (.cells #[.int .i64 kq, .int .u64 (clsW cl 0), .int .u64 (clsW cl 1), .int .u64 (clsW cl 2), .int .u64 (clsW cl 3), .string (tx tq), .int .i64 0, .int .i64 lv, .slice none 0 0, .int .i64 aq, .string (tx nm), .slice ko ks.length kc] 122)) HI6.out.rd HI5.out.lt (by have := HL.out; omega) [59])
       unfold ptr QwP at HWT
       clear hbl
       go_wp2_with fail
       generalize w5.alloc (.cells #[.int .i64 kq, .int .u64 (clsW cl 0), .int .u64 (clsW cl 1), .int .u64 (clsW cl 2), .int .u64 (clsW cl 3), .string (tx tq), .int .i64 0, .int .i64 lv, .slice none 0 0, .int .i64 aq, .string (tx nm), .slice ko ks.length kc] 122) = w6 at HI6 HG6 HPV6 HRP6 HWT ⊢
       refine HWT.out.mono ?_
       rintro rr3 w7 ⟨rfl, ⟨i3, e3, a3', hq7, g1, g0, gn⟩, hf7⟩
       have hi3 : i3 < L.length ∧ i2 ≤ i3 := by
        by_cases h0 : e2 = 0
        ·cases hh : hereW L i2 [59] with
         | true => obtain ⟨h1, -⟩ := g1 h0 hh; have := HW.out.after HI5.out.lt hh; omega
         | false => obtain ⟨h1, -⟩ := g0 h0 hh; have := HI5.out.lt; omega
        ·obtain ⟨h1, -⟩ := gn h0; have := HI5.out.lt; omega
       have HI7 := Lib.hid (HI6.out.call hf7 hq7 hi3.1 hi3.2)
       have HG7 := Lib.hid (HG6.out.fr hf7 (fun e => by have := HGW.out; omega))
       have HGP7 := Lib.hid (HRP6.out.fr hf7 (fun e => by have := HGW.out; have := HG9.out; have := HS5.out; omega))
       have HPV7 : Hid (PvW w7 (fun k => w4.heap.size ≤ k) (Pt.mk kq cl tq lv aq nm ks) #[.int .i64 kq, .int .u64 (clsW cl 0), .int .u64 (clsW cl 1), .int .u64 (clsW cl 2), .int .u64 (clsW cl 3), .string (tx tq), .int .i64 0, .int .i64 lv, .slice none 0 0, .int .i64 aq, .string (tx nm), .slice ko ks.length kc]) := PvW.fr hf7 (fun k hk e => by have := HGW.out; have := HG9.out; have h3 := hk.1; omega) (fun k hk => hk.1) _ _ HPV6.out
       have HAFT := Lib.hid (HRAS.out (Pt.mk kq cl tq lv aq nm ks) i2 e2 a2' i3 e3 a3' HM.out g1 g0 gn)
       have HI33 := Lib.hid hi3
       clear hq7 g1 g0 gn hf7 hi3 HWT HI6 HG6 HPV6 HRP6 HRAS HM HI5 HG5 HPV
       generalize w5.heap.size = gp at HGP7 HS5 ⊢
       -- the rule is put
       have HTG : Hid (τ gt ≠ 0) := by have := HI7.out.tr.tag; unfold Hid; omega
       obtain ⟨o1, o2, o3, o4, o5, b1, b2, b3, b4, b5, hQ⟩ := HI7.out.tr.start (Fr.refl (fun k => τ k ≠ 0) w7) (fun _ _ => rfl)
       have HQ7 := Lib.hid hQ
       have HG9x : Hid (∀ z, Fr (fun k => τ k ≠ 0) w7 z → hrow z g9 #[.int .i64 x.kind, .int .i64 x.at_, .int .i64 x.nx, .string (tx x.tx), .int .i64 x.lv, .int .u64 (clsW x.cl 0), .int .u64 (clsW x.cl 1), .int .u64 (clsW x.cl 2), .int .u64 (clsW x.cl 3)] 119) := fun z hz => HG7.out.fr hz (fun e => e HT9.out)
       have HGPx : Hid (∀ z, Fr (fun k => τ k ≠ 0) w7 z → hrow z gp #[.int .i64 kq, .int .u64 (clsW cl 0), .int .u64 (clsW cl 1), .int .u64 (clsW cl 2), .int .u64 (clsW cl 3), .string (tx tq), .int .i64 0, .int .i64 lv, .slice none 0 0, .int .i64 aq, .string (tx nm), .slice ko ks.length kc] 122) := fun z hz => HGP7.out.fr hz (fun e => e (HNEW.out gp HS5.out))
       have HRB : Hid (R.length ≤ 20000) := by have h1 := HI7.out.rb; have h2 := HI7.out.lt; have h3 := HL.out; unfold Hid; omega
       have q0 : w7.cell? ⟨gt, 0, none⟩ = some (.slice o1 R.length b1) := hQ.obj.cell 0
       have q3 : w7.cell? ⟨gt, 3, none⟩ = some (.slice o4 N.length b4) := hQ.obj.cell 3
       have k3 : w7.cell? ⟨g9, 3, none⟩ = some (.string (tx x.tx)) := HG7.out.cell 3
       have HQ8 := Lib.hid (hQ.below ((Below.refl _ w7).alloc (Nat.le_refl _) (.cells #[.string (tx x.tx), .int .i64 N.length] 48)))
       have HSL := Lib.hid (Sv.lit w7 48 #[.string (tx x.tx), .int .i64 N.length] 1 2 (by unfold maxLen; omega) rfl)
       have HOW := Lib.hid (show _ by have h := HQ8.out.tr.t2.1; rw [List.length_map] at h; exact h)
       clear hQ HGP7 HG7
       go_upto_region 15 with (at_builtin; refine wpList_append_tag _ rfl (.tmp 87) (.tmp 94) 23 48 rfl elRule 0 (.slice o1 R.length b1) R.length _ rfl HOW.out ⟨w7.heap.size, 0, none⟩ 1 1 _ rfl HSL.out (by simp [Value.oneCell']) (by have := HRB.out; omega) (by have := HRB.out; unfold maxLen; omega) (Nat.zero_le _) ?_; intro v' z3 ho hgr hb; obtain ⟨p1, p1c, rfl, -⟩ := Sv.of_owns ho; have HI9 := Lib.hid (HQ8.out.step hgr HQ8.out.tr.t2.2 (by omega) (HQ8.out.tr.rule (Rr.ru ⟨x.tx, N.length, x.at_⟩) (by rw [List.length_map]; exact ho) hgr hb)); have f0 := HI9.out.obj.frozen 0; have c0 := HI9.out.obj.cell 0; clear ho hgr hb)
       have HI10 := Lib.hid (HI9.out.put HTG.out 0 (.slice p1 (R.length + 1) p1c))
       clear HI9 HSL HOW HQ8 q0 q3 k3 f0 c0
       revert HI10
       generalize tagN τ (w7.alloc (.cells #[.string (tx x.tx), .int .i64 N.length] 48)).heap.size z3.heap.size 2 = τ1
       generalize z3.setCell ⟨gt, 0, none⟩ (.slice p1 (R.length + 1) p1c) = z4
       simp only [List.setIfInBounds_toArray, List.set_cons_zero]
       intro HI10
       have q2 : z4.cell? ⟨gt, 2, none⟩ = some (.slice o3 R.length b3) := HI10.out.obj.cell 2
       have k1 : z4.cell? ⟨g9, 1, none⟩ = some (.int .i64 x.at_) := (HG9x.out z4 HI10.out.fr).cell 1
       have HJ2 := Lib.hid (HI10.out.below ((Below.refl _ z4).alloc (Nat.le_refl _) (.cells #[.int .i64 x.at_] 3)))
       have HSL := Lib.hid (Sv.lit z4 3 #[.int .i64 x.at_] 1 1 (by unfold maxLen; omega) rfl)
       have HOW := Lib.hid (show _ by have h := HJ2.out.tr.t4.1; rw [List.length_map] at h; exact h)
       clear HI10
       go_upto_region 16 with (at_builtin; refine wpList_append_tag _ rfl (.tmp 99) (.tmp 102) 27 3 rfl elIntS 0 (.slice o3 R.length b3) R.length _ rfl HOW.out ⟨z4.heap.size, 0, none⟩ 1 1 _ rfl HSL.out (by simp [Value.oneCell']) (by have := HRB.out; omega) (by have := HRB.out; unfold maxLen; omega) (Nat.zero_le _) ?_; intro v' y3 ho hgr hb; obtain ⟨p3, p3c, rfl, -⟩ := Sv.of_owns ho; have HJ3 := Lib.hid (HJ2.out.step hgr HJ2.out.tr.t4.2 (by omega) (HJ2.out.tr.ra (x.at_ : Int) (by rw [List.length_map]; exact ho) hgr hb)); have f2 := HJ3.out.obj.frozen 2; have c2 := HJ3.out.obj.cell 2; clear ho hgr hb)
       have HJ4 := Lib.hid (HJ3.out.put HTG.out 2 (.slice p3 (R.length + 1) p3c))
       clear HJ3 HSL HOW HJ2 q2 k1 f2 c2
       revert HJ4
       generalize tagN τ1 (z4.alloc (.cells #[.int .i64 x.at_] 3)).heap.size y3.heap.size 4 = τ2
       generalize y3.setCell ⟨gt, 2, none⟩ (.slice p3 (R.length + 1) p3c) = y4
       simp only [List.setIfInBounds_toArray, List.set_cons_zero, List.set_cons_succ]
       intro HJ4
       have HT4 : Hid (TqW y4 gt τ2 (R ++ [⟨x.tx, N.length, x.at_⟩]) N NK NK) := HJ4.out.tree (by simp) (by simp) rfl rfl HI7.out.tr.nk HI7.out.tr.nl
       have HP8 : Hid (PvW y4 (fun k => τ2 k = 0) (Pt.mk kq cl tq lv aq nm ks) #[.int .i64 kq, .int .u64 (clsW cl 0), .int .u64 (clsW cl 1), .int .u64 (clsW cl 2), .int .u64 (clsW cl 3), .string (tx tq), .int .i64 0, .int .i64 lv, .slice none 0 0, .int .i64 aq, .string (tx nm), .slice ko ks.length kc]) := HJ4.out.part (F := fun k => τ2 k = 0) (PvW.fr (H := fun k => τ k = 0) (Fr.refl (fun _ => False) w7) (fun _ _ e => e) (fun k hk => HNEW.out k hk) _ _ HPV7.out) (fun k hk h0 => (HJ4.out.old k hk).trans h0)
       have HPT := Lib.hid (putQ_any (Pt.mk kq cl tq lv aq nm ks) #[.int .i64 kq, .int .u64 (clsW cl 0), .int .u64 (clsW cl 1), .int .u64 (clsW cl 2), .int .u64 (clsW cl 3), .string (tx tq), .int .i64 0, .int .i64 lv, .slice none 0 0, .int .i64 aq, .string (tx nm), .slice ko ks.length kc] gt τ2 _ N NK NK y4 HT4.out HP8.out (by have h1 := HI7.out.nb; have h2 := HI7.out.lt; have h3 := HL.out; have h4 := HSZ.out; have h5 := HI33.out; omega))
       have HGPy := Lib.hid (HGPx.out y4 HJ4.out.fr)
       have HF4 := Lib.hid HJ4.out.fr
       have HO4 := Lib.hid HJ4.out.old
       clear HJ4 HT4 HP8 HGPx HG9x HQ7
       unfold ptr at HPT
       go_wp2_with (refine load_partQ rfl (.tmp 10) rfl gp rfl #[.int .i64 kq, .int .u64 (clsW cl 0), .int .u64 (clsW cl 1), .int .u64 (clsW cl 2), .int .u64 (clsW cl 3), .string (tx tq), .int .i64 0, .int .i64 lv, .slice none 0 0, .int .i64 aq, .string (tx nm), .slice ko ks.length kc] HGPy.out rfl ?_)
       refine HPT.out.mono ?_
       rintro rr4 y5 ⟨rfl, τ3, X, hX, hT5, hf5, ho5⟩
       have HN := Lib.hid (HI7.out.turn hT5 (by rw [List.map_append, List.map_append, HI7.out.nk, hX]) (HF4.out.trans hf5 (fun k hk e => by have := HO4.out k hk; omega)) (fun k hk => (ho5 k (Nat.lt_of_lt_of_le hk HF4.out.size)).trans (HO4.out k hk))
        (by rw [List.length_append, flat_len]; have h1 := HI2nb.out; have h4 := HSZ.out; have h5 := HI33.out; have h6 := HIJ.out; have h7 := HII.out; omega) (by rw [List.length_append, List.length_singleton]; have h1 := HI2rb.out; have h5 := HI33.out; have h6 := HIJ.out; have h7 := HII.out; omega))
       have HCN : Hid (CnT L rr (R ++ [⟨x.tx, N.length, x.at_⟩]) (N ++ flat N.length (Pt.mk kq cl tq lv aq nm ks)) i3 e3 a3') := by
        rcases HAFT.out with ⟨h1, h2, h3⟩ | ⟨h1, h2⟩
        ·rw [h1, h2]
         have := HOK.out _ _ _ h3
         rw [HX.out] at this
         exact this
        ·exact HER.out _ _ _ _ _ h2 h1
       clear hX hT5 hf5 ho5 HPT HF4 HO4
       go_wp2_with fail
       go_roundw
       case rel => exact ⟨_, _, _, _, _, _, _, HCN.out, HN.out⟩
       case measure => rw [HPO.out, HN.out.rd.pos]; have h1 := HI33.out; have h5 := HIJ.out; have h7 := HII.out; omega
      ·have hbad : x.kind ≠ 2 ∨ 0 ≤ x.lv := by omega
       have HRB : Hid (r1 = .err 7 x.at_) := by
        have h := HR1.out
        unfold rulP at h
        simp only [] at h
        rw [HX.out, if_pos hbad] at h
        exact (Option.some.inj h).symm
       have HFL := Lib.hid (qfail_any L (gt + 1 + 1) (gt + 1) j ((0 : Nat) : Int) 0 0 w2 HI2.out.rd HI2.out.lt 7)
       unfold ptr at HFL
       have HBX := Lib.hid hbad
       clear hbad
       by_cases hk : x.kind = 2
       ·have hk2 : ((x.kind : Int) != 2) = false := by simp; omega
        have hl0 : (0 : Int) ≤ x.lv := by have := HBX.out; omega
        clear hk hgo
        go_wp2_with fail
        refine HFL.out.mono ?_
        rintro rr1 w3 ⟨rfl, h1, h2⟩
        simp only [if_true] at h1
        rw [HX.out] at h1
        have HI3 := Lib.hid (HI2.out.call h2 h1 HI2.out.lt (Nat.le_refl _))
        have HBD := Lib.hid ((HER.out R N j 7 x.at_ HRB.out (by decide)).bad (by decide))
        have H7 : Hid ((7 : Nat) ≠ 0) := by unfold Hid; decide
        clear h1 h2 HFL HI2 k0 k4 HG2'
        obtain ⟨aoE, capE, hrE, -, -⟩ := HI3.out.rd.row
        have s3 : w3.cell? ⟨gt + 1, 3, none⟩ = some (.int .i64 (7 : Nat)) := hrE.cell 3
        have s4 : w3.cell? ⟨gt + 1, 4, none⟩ = some (.int .i64 x.at_) := hrE.cell 4
        have z3ne : (((7 : Nat) : Int) != 0) = true := by have := H7.out; rw [bne_iff_ne]; omega
        clear hrE
        go_upto_region 18 with (fail)
        have HZ2 := Lib.hid HI3.out.z2; have HZ3 := Lib.hid HI3.out.z3
        have k0 := HZ2.out.cell 0; have k1 := HZ2.out.cell 1; have k2 := HZ2.out.cell 2; have k3 := HZ2.out.cell 3; have k4 := HZ2.out.cell 4
        have m0 := HZ2.out.frozen 0; have m1 := HZ2.out.frozen 1; have m2 := HZ2.out.frozen 2; have m3 := HZ2.out.frozen 3; have m4 := HZ2.out.frozen 4
        have l0 := HZ3.out.cell 0; have l1 := HZ3.out.cell 1; have n0 := HZ3.out.frozen 0; have n1 := HZ3.out.frozen 1
        have hne : g2 ≠ g2 + 1 := by omega
        have hn2 : ¬ (gt + 1 = g2) := by have := HI3.out.g3; omega
        have hn3 : ¬ (gt + 1 = g2 + 1) := by have := HI3.out.g3; omega
        go_region
        clear k0 k1 k2 k3 k4 m0 m1 m2 m3 m4 l0 l1 n0 n1
        clear s3 s4
        obtain ⟨z, hz, z2, z3, zf⟩ := stores7q (.slice none 0 0) (.slice none 0 0) (.slice none 0 0) (.slice none 0 0) (.slice none 0 0) (.int .i64 7) (.int .i64 x.at_) HZ2.out HZ3.out hne
        rw [hz]
        have hbd := (Below.refl z.heap.size z).drew
        have Z2 := Lib.hid (z2.below hbd); have Z3 := Lib.hid (z3.below hbd)
        have hlo := HI3.out.lo; have hle := HI3.out.le
        have ZF := Lib.hid (hlo.trans (zf.below hlo.size (fun k hk e => by omega))).drew
        clear hz z2 z3 zf hbd hlo hle
        generalize z.drew = z' at Z2 Z3 ZF ⊢
        go_wp2_with fail
        refine bodyPost_ret (results_c2 rfl _ _ _ _ _ _ rfl rfl (treeq_ld Z2.out) (diag_ld Z3.out)) rfl ?_
        unfold TxtP
        rw [HRT.out, HRW.out, HBD.out]
        exact ⟨_, _, _, _, _, rfl, treeOut_nil _ _, ZF.out⟩
       ·have hk2 : ((x.kind : Int) != 2) = true := by simp; omega
        clear hk hgo
        go_wp2_with fail
        refine HFL.out.mono ?_
        rintro rr1 w3 ⟨rfl, h1, h2⟩
        simp only [if_true] at h1
        rw [HX.out] at h1
        have HI3 := Lib.hid (HI2.out.call h2 h1 HI2.out.lt (Nat.le_refl _))
        have HBD := Lib.hid ((HER.out R N j 7 x.at_ HRB.out (by decide)).bad (by decide))
        have H7 : Hid ((7 : Nat) ≠ 0) := by unfold Hid; decide
        clear h1 h2 HFL HI2 k0 k4 HG2'
        obtain ⟨aoE, capE, hrE, -, -⟩ := HI3.out.rd.row
        have s3 : w3.cell? ⟨gt + 1, 3, none⟩ = some (.int .i64 (7 : Nat)) := hrE.cell 3
        have s4 : w3.cell? ⟨gt + 1, 4, none⟩ = some (.int .i64 x.at_) := hrE.cell 4
        have z3ne : (((7 : Nat) : Int) != 0) = true := by have := H7.out; rw [bne_iff_ne]; omega
        clear hrE
        go_upto_region 18 with (fail)
        have HZ2 := Lib.hid HI3.out.z2; have HZ3 := Lib.hid HI3.out.z3
        have k0 := HZ2.out.cell 0; have k1 := HZ2.out.cell 1; have k2 := HZ2.out.cell 2; have k3 := HZ2.out.cell 3; have k4 := HZ2.out.cell 4
        have m0 := HZ2.out.frozen 0; have m1 := HZ2.out.frozen 1; have m2 := HZ2.out.frozen 2; have m3 := HZ2.out.frozen 3; have m4 := HZ2.out.frozen 4
        have l0 := HZ3.out.cell 0; have l1 := HZ3.out.cell 1; have n0 := HZ3.out.frozen 0; have n1 := HZ3.out.frozen 1
        have hne : g2 ≠ g2 + 1 := by omega
        have hn2 : ¬ (gt + 1 = g2) := by have := HI3.out.g3; omega
        have hn3 : ¬ (gt + 1 = g2 + 1) := by have := HI3.out.g3; omega
        go_region
        clear k0 k1 k2 k3 k4 m0 m1 m2 m3 m4 l0 l1 n0 n1
        clear s3 s4
        obtain ⟨z, hz, z2, z3, zf⟩ := stores7q (.slice none 0 0) (.slice none 0 0) (.slice none 0 0) (.slice none 0 0) (.slice none 0 0) (.int .i64 7) (.int .i64 x.at_) HZ2.out HZ3.out hne
        rw [hz]
        have hbd := (Below.refl z.heap.size z).drew
        have Z2 := Lib.hid (z2.below hbd); have Z3 := Lib.hid (z3.below hbd)
        have hlo := HI3.out.lo; have hle := HI3.out.le
        have ZF := Lib.hid (hlo.trans (zf.below hlo.size (fun k hk e => by omega))).drew
        clear hz z2 z3 zf hbd hlo hle
        generalize z.drew = z' at Z2 Z3 ZF ⊢
        go_wp2_with fail
        refine bodyPost_ret (results_c2 rfl _ _ _ _ _ _ rfl rfl (treeq_ld Z2.out) (diag_ld Z3.out)) rfl ?_
        unfold TxtP
        rw [HRT.out, HRW.out, HBD.out]
        exact ⟨_, _, _, _, _, rfl, treeOut_nil _ _, ZF.out⟩
   ·have e0 : ((e : Int) == 0) = false := by simp; omega
    have HE := Lib.hid he
    have HBD := Lib.hid (HC.out.bad he)
    clear he hrn
    go_upto_region 6 with (fail)
    refine wp_region_quiet_lit (by kernel_rfl) (by kernel_rfl) ?_
    repeat (go_big_quiet_step (fail))
    refine wpQuiet_nil ?_
    intro _ hw'
    obtain ⟨nq, hw''⟩ := hw'
    subst hw''
    have HI1 := Lib.hid (HI.out.below (below_drewN (Below.refl _ _) nq))
    have HC1 : Hid (∀ i v, (#[.int .i64 x.kind, .int .i64 x.at_, .int .i64 x.nx, .string (tx x.tx), .int .i64 x.lv, .int .u64 (clsW x.cl 0), .int .u64 (clsW x.cl 1), .int .u64 (clsW x.cl 2), .int .u64 (clsW x.cl 3)] : Array Value).toList[i]? = some v → (wr.drewN nq).cell? ((pw.add (j * 9)).add i) = some v) := fun i v hv => ((below_drewN (Below.refl _ _) nq).cell (World.block_lt_of_cell? wr _ (HC9.out i v hv))).trans (HC9.out i v hv)
    clear HI HC9 HRQ0 HQ HC q2 r0 r1 r3 n0
    generalize wr.drewN nq = w1 at HI1 HC1 ⊢
    obtain ⟨aoE, capE, hrE, -, -⟩ := HI1.out.rd.row
    have s3 : w1.cell? ⟨gt + 1, 3, none⟩ = some (.int .i64 e) := hrE.cell 3
    have s4 : w1.cell? ⟨gt + 1, 4, none⟩ = some (.int .i64 a) := hrE.cell 4
    have z3ne : ((e : Int) != 0) = true := by have := HE.out; rw [bne_iff_ne]; omega
    clear hrE
    go_upto_region 18 with (fail)
    have HZ2 := Lib.hid HI1.out.z2; have HZ3 := Lib.hid HI1.out.z3
    have k0 := HZ2.out.cell 0; have k1 := HZ2.out.cell 1; have k2 := HZ2.out.cell 2; have k3 := HZ2.out.cell 3; have k4 := HZ2.out.cell 4
    have m0 := HZ2.out.frozen 0; have m1 := HZ2.out.frozen 1; have m2 := HZ2.out.frozen 2; have m3 := HZ2.out.frozen 3; have m4 := HZ2.out.frozen 4
    have l0 := HZ3.out.cell 0; have l1 := HZ3.out.cell 1; have n0 := HZ3.out.frozen 0; have n1 := HZ3.out.frozen 1
    have hne : g2 ≠ g2 + 1 := by omega
    have hn2 : ¬ (gt + 1 = g2) := by have := HI1.out.g3; omega
    have hn3 : ¬ (gt + 1 = g2 + 1) := by have := HI1.out.g3; omega
    go_region
    clear k0 k1 k2 k3 k4 m0 m1 m2 m3 m4 l0 l1 n0 n1
    clear s3 s4
    obtain ⟨z, hz, z2, z3, zf⟩ := stores7q (.slice none 0 0) (.slice none 0 0) (.slice none 0 0) (.slice none 0 0) (.slice none 0 0) (.int .i64 e) (.int .i64 a) HZ2.out HZ3.out hne
    rw [hz]
    have hbd := (Below.refl z.heap.size z).drew
    have Z2 := Lib.hid (z2.below hbd); have Z3 := Lib.hid (z3.below hbd)
    have hlo := HI1.out.lo; have hle := HI1.out.le
    have ZF := Lib.hid (hlo.trans (zf.below hlo.size (fun k hk e => by omega))).drew
    clear hz z2 z3 zf hbd hlo hle
    generalize z.drew = z' at Z2 Z3 ZF ⊢
    go_wp2_with fail
    refine bodyPost_ret (results_c2 rfl _ _ _ _ _ _ rfl rfl (treeq_ld Z2.out) (diag_ld Z3.out)) rfl ?_
    unfold TxtP
    rw [HRT.out, HRW.out, HBD.out]
    exact ⟨_, _, _, _, _, rfl, treeOut_nil _ _, ZF.out⟩
end Go.Proofs.YthfefbmkgebmkaaGreatDoor
