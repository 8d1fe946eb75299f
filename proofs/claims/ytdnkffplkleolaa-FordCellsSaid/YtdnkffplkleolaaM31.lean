/- Walks and plain laws: Lp Ls Qa. -/
import Derived.Test.YtdnkffplkleolaaM21
import Derived.Test.YtdnkffplkleolaaM30
import Derived.Lib.SlBytesConst
import Derived.Test.YtdnkffplkleolaaM05
import Derived.Deep.SlicePairs
import Derived.ProofKit
import Derived.OpenShut
import Derived.SizedLaws
import Derived.Lib.SmallJoins
namespace Go.Proofs.Ytdnkffplkleolaa
open Go.RowKit
set_option maxRecDepth 100000
set_option maxHeartbeats 8000000

theorem Sv.of_block {w : World} {g : Nat} {cs : Array Value} {t : TypeId} {fr : Nat × Nat} (h : w.heap[g]? = some (.cells cs t fr)) (n size : Nat) (hm : n ≤ maxLen) (hs : cs.size = n * size) : Sv w (some ⟨g, 0, none⟩) n n size cs.toList := by
 refine ⟨by simpa using hs, Nat.le_refl _, hm, (fun h => nomatch h), fun j hj => ⟨_, rfl, ?_⟩⟩
 have e : (⟨g, 0, none⟩ : Addr).add j = ⟨g, j, none⟩ := by unfold Addr.add; split <;> simp_all
 rw [e, cell_of_row w g j cs t fr h]; simp
/-- A constant's bytes, laid anew and marked. -/
theorem Sv.const (w : World) (e : TypeId) (cs : Array Value) (fr : Nat × Nat) (n : Nat) (hm : n ≤ maxLen) (hs : cs.size = n) : Sv (w.alloc (.cells cs e fr)) (some ⟨w.heap.size, 0, none⟩) n n 1 cs.toList :=
 Sv.of_block (heap_alloc_new _ _) n 1 hm (by omega)

theorem clsOk_of {G : Gr} (h : ∀ x ∈ G.nodes, (0 ≤ x.c0 ∧ x.c0 < 2 ^ 64) ∧ (0 ≤ x.c1 ∧ x.c1 < 2 ^ 64) ∧ (0 ≤ x.c2 ∧ x.c2 < 2 ^ 64) ∧ (0 ≤ x.c3 ∧ x.c3 < 2 ^ 64)) : ClsOk G := by
 intro x hx i
 obtain ⟨h0, h1, h2, h3⟩ := h x hx
 unfold clsAt
 split; · exact h0
 split; · exact h1
 split; · exact h2
 exact h3
theorem short_of {G : Gr} {wn : Nat} {W : List Nat} {rule place : Nat} (h : (runR G W rule place).2.over = false) : Short G wn W rule place := by
 intro r p hr hp _
 have e1 : rule = r := by omega
 have e2 : place = p := by omega
 subst e1 e2; exact h
theorem exOk : okG exG := by unfold okG; decide +kernel
theorem knOk : okG knG0 := by unfold okG; decide +kernel
theorem lcOk : okG lateG := by unfold okG; decide +kernel
theorem exCl : ClsOk exG := clsOk_of (by decide +kernel)
theorem knCl : ClsOk knG0 := clsOk_of (by decide +kernel)
theorem lcCl : ClsOk lateG := clsOk_of (by decide +kernel)
theorem exSh : Short exG 3 [97, 97, 98] 0 0 := short_of (by kernel_rfl)
theorem knSh : Short knG0 2 [98, 97] 0 0 := short_of (by kernel_rfl)
theorem lcSh : Short lateG 1 [99] 0 0 := short_of (by kernel_rfl)
theorem laSh : Short lateG 1 [97] 0 0 := short_of (by kernel_rfl)
section
variable (w : World) (ro : Option Addr) (rn rc : Nat) (no : Option Addr) (nn nc : Nat) (NK : List (Nd × (Option Addr × Nat)))
theorem exM (h : GrW w ro rn rc no nn nc NK exG) (wo : Option Addr) (wc : Nat) (hW : InW w wo 3 wc [97, 97, 98]) : Calls Try.prog 7 #[.agg #[.slice ro rn rc, .slice no nn nc], .slice wo 3 wc, .int .i64 0, .int .i64 0] w fun e w' =>
  ∃ ao cap, e = .returned (.tuple #[.agg #[.bool true, .int .i64 3, .int .i64 2, .slice ao 4 cap], .int .i64 0]) ∧ Sv w' ao 4 cap 5 (exO.tree.flatMap twc) ∧ Below w.heap.size w w' := by
 have := pMatch_any w ro rn rc no nn nc NK exG h wo 3 wc _ hW exCl 0 0 (fun _ => exSh)
 rw [ex_out] at this
 refine this.mono ?_
 rintro e w' ⟨ao, cap, rfl, ho⟩
 obtain ⟨o, c, e, hs⟩ := Sv.of_owns ho.1
 simp only [Value.slice.injEq, true_and] at e
 obtain ⟨rfl, rfl⟩ := e
 exact ⟨ao, cap, rfl, hs, ho.2⟩
theorem exC (h : GrW w ro rn rc no nn nc NK exG) (wo : Option Addr) (wc : Nat) (hW : InW w wo 3 wc [97, 97, 98]) : Calls Try.prog 8 #[.agg #[.slice ro rn rc, .slice no nn nc], .slice wo 3 wc, .int .i64 0, .int .i64 0] w fun e w' =>
  e = .returned (.tuple #[.int .i64 4, .int .i64 0]) ∧ Below w.heap.size w w' := by
 have := pCells_any w ro rn rc no nn nc NK exG h wo 3 wc _ hW exCl 0 0 (fun _ => exSh)
 rw [ex_out] at this
 exact this
theorem knM (h : GrW w ro rn rc no nn nc NK knG0) (wo : Option Addr) (wc : Nat) (hW : InW w wo 2 wc [98, 97]) : Calls Try.prog 7 #[.agg #[.slice ro rn rc, .slice no nn nc], .slice wo 2 wc, .int .i64 0, .int .i64 0] w fun e w' =>
  ∃ ao cap, e = .returned (.tuple #[.agg #[.bool false, .int .i64 0, .int .i64 0, .slice ao 0 cap], .int .i64 13]) ∧ Below w.heap.size w w' := by
 have := pMatch_any w ro rn rc no nn nc NK knG0 h wo 2 wc _ hW knCl 0 0 (fun _ => knSh)
 rw [kn_out] at this
 refine this.mono ?_
 rintro e w' ⟨ao, cap, rfl, ho⟩
 exact ⟨ao, cap, rfl, ho.2⟩
theorem lcM (h : GrW w ro rn rc no nn nc NK lateG) (wo : Option Addr) (wc : Nat) (hW : InW w wo 1 wc [99]) : Calls Try.prog 7 #[.agg #[.slice ro rn rc, .slice no nn nc], .slice wo 1 wc, .int .i64 0, .int .i64 0] w fun e w' =>
  ∃ ao cap, e = .returned (.tuple #[.agg #[.bool true, .int .i64 1, .int .i64 (-1), .slice ao 1 cap], .int .i64 0]) ∧ Below w.heap.size w w' := by
 have := pMatch_any w ro rn rc no nn nc NK lateG h wo 1 wc _ hW lcCl 0 0 (fun _ => lcSh)
 rw [lc_out] at this
 refine this.mono ?_
 rintro e w' ⟨ao, cap, rfl, ho⟩
 exact ⟨ao, cap, rfl, ho.2⟩
theorem laM (h : GrW w ro rn rc no nn nc NK lateG) (wo : Option Addr) (wc : Nat) (hW : InW w wo 1 wc [97]) : Calls Try.prog 7 #[.agg #[.slice ro rn rc, .slice no nn nc], .slice wo 1 wc, .int .i64 0, .int .i64 0] w fun e w' =>
  ∃ ao cap, e = .returned (.tuple #[.agg #[.bool false, .int .i64 0, .int .i64 0, .slice ao 0 cap], .int .i64 13]) ∧ Below w.heap.size w w' := by
 have := pMatch_any w ro rn rc no nn nc NK lateG h wo 1 wc _ hW lcCl 0 0 (fun _ => laSh)
 rw [la_out] at this
 refine this.mono ?_
 rintro e w' ⟨ao, cap, rfl, ho⟩
 exact ⟨ao, cap, rfl, ho.2⟩
end

theorem awake_any (w : World) : Calls Try.prog 4 #[] w fun r w' => r = .returned (.bool true) ∧ Below w.heap.size w w' := by
 have kc := fun (w : World) (C : Array Value) (n c : Nat) => Lib.run_convert_bytes_const (P := Try.prog) w 26 5 C n c Try.underlying26 Try.underlying5
 go_enter Try.func4, Try.ntmps4
 have B0 := Lib.hid (Below.refl w.heap.size w)
 go_wp2_with fail
 refine (example_any _).mono ?_
 rintro e x1 ⟨ro1, rn1, rc1, no1, nn1, nc1, NL1, rfl, hg, hb⟩
 have GG1 := Lib.hid (hg.gr exOk)
 have Bx1 := Lib.hid (B0.out.trans (hb.mono B0.out.size))
 clear hg hb B0
 go_wp2_with fail
 have hb : Below x1.heap.size x1 (x1.alloc (.cells #[.int .u8 97, .int .u8 97, .int .u8 98] 5 (3, 4))) := (Below.refl _ _).alloc (Nat.le_refl _) _
 have WW1 : Hid (InW (x1.alloc (.cells #[.int .u8 97, .int .u8 97, .int .u8 98] 5 (3, 4))) (some ⟨x1.heap.size, 0, none⟩) 3 3 [97, 97, 98]) := ⟨Sv.const x1 5 #[.int .u8 97, .int .u8 97, .int .u8 98] (3, 4) 3 (by unfold maxLen; omega) rfl, by decide⟩
 have GG1 := Lib.hid (GG1.out.below hb)
 have Bw1 := Lib.hid (Bx1.out.trans (hb.mono Bx1.out.size))
 clear hb Bx1
 generalize x1.alloc (.cells #[.int .u8 97, .int .u8 97, .int .u8 98] 5 (3, 4)) = w1 at *
 generalize (⟨x1.heap.size, 0, none⟩ : Addr) = wa1 at *
 refine (exM _ _ _ _ _ _ _ _ GG1.out _ _ WW1.out).mono ?_
 rintro e y1 ⟨ao1, cap1, rfl, ht, hb⟩
 have GG1 := Lib.hid (GG1.out.below hb)
 have By1 := Lib.hid (Bw1.out.trans (hb.mono Bw1.out.size))
 have TT1 := Lib.hid ht
 clear ht
 clear hb Bw1 WW1
 clear GG1
 go_upto_region 2 with (fail)
 have hb : Below y1.heap.size y1 (y1.alloc (.cells #[.bool true, .int .i64 3, .int .i64 2, .slice ao1 4 cap1] 32)) := (Below.refl _ _).alloc (Nat.le_refl _) _
 have FF1 := Lib.hid (hrow.new y1 #[.bool true, .int .i64 3, .int .i64 2, .slice ao1 4 cap1] 32)
 have TT1 := Lib.hid (TT1.out.below hb)
 have Bz1 := Lib.hid (By1.out.trans (hb.mono By1.out.size))
 clear hb By1
 generalize y1.alloc (.cells #[.bool true, .int .i64 3, .int .i64 2, .slice ao1 4 cap1] 32) = z1 at *
 generalize y1.heap.size = g1 at *
 go_wp2_with fail
 refine (example_any _).mono ?_
 rintro e x2 ⟨ro2, rn2, rc2, no2, nn2, nc2, NL2, rfl, hg, hb⟩
 have GG2 := Lib.hid (hg.gr exOk)
 have TT1 := Lib.hid (TT1.out.below hb)
 have FF1 := Lib.hid (FF1.out.below hb)
 have Bx2 := Lib.hid (Bz1.out.trans (hb.mono Bz1.out.size))
 clear hg hb Bz1
 go_wp2_with fail
 have hb : Below x2.heap.size x2 (x2.alloc (.cells #[.int .u8 97, .int .u8 97, .int .u8 98] 5 (3, 4))) := (Below.refl _ _).alloc (Nat.le_refl _) _
 have WW2 : Hid (InW (x2.alloc (.cells #[.int .u8 97, .int .u8 97, .int .u8 98] 5 (3, 4))) (some ⟨x2.heap.size, 0, none⟩) 3 3 [97, 97, 98]) := ⟨Sv.const x2 5 #[.int .u8 97, .int .u8 97, .int .u8 98] (3, 4) 3 (by unfold maxLen; omega) rfl, by decide⟩
 have TT1 := Lib.hid (TT1.out.below hb)
 have FF1 := Lib.hid (FF1.out.below hb)
 have GG2 := Lib.hid (GG2.out.below hb)
 have Bw2 := Lib.hid (Bx2.out.trans (hb.mono Bx2.out.size))
 clear hb Bx2
 generalize x2.alloc (.cells #[.int .u8 97, .int .u8 97, .int .u8 98] 5 (3, 4)) = w2 at *
 generalize (⟨x2.heap.size, 0, none⟩ : Addr) = wa2 at *
 refine (exC _ _ _ _ _ _ _ _ GG2.out _ _ WW2.out).mono ?_
 rintro e y2 ⟨rfl, hb⟩
 have TT1 := Lib.hid (TT1.out.below hb)
 have FF1 := Lib.hid (FF1.out.below hb)
 have GG2 := Lib.hid (GG2.out.below hb)
 have By2 := Lib.hid (Bw2.out.trans (hb.mono Bw2.out.size))
 clear hb Bw2 WW2
 clear GG2
 go_wp2_with fail
 refine (known_0 _ 0 rfl).mono ?_
 rintro e x3 ⟨ro3, rn3, rc3, no3, nn3, nc3, NL3, rfl, hg, hb⟩
 have GG3 := Lib.hid (hg.gr knOk)
 have TT1 := Lib.hid (TT1.out.below hb)
 have FF1 := Lib.hid (FF1.out.below hb)
 have Bx3 := Lib.hid (By2.out.trans (hb.mono By2.out.size))
 clear hg hb By2
 go_wp2_with fail
 have hb : Below x3.heap.size x3 (x3.alloc (.cells #[.int .u8 98, .int .u8 97] 5 (2, 3))) := (Below.refl _ _).alloc (Nat.le_refl _) _
 have WW3 : Hid (InW (x3.alloc (.cells #[.int .u8 98, .int .u8 97] 5 (2, 3))) (some ⟨x3.heap.size, 0, none⟩) 2 2 [98, 97]) := ⟨Sv.const x3 5 #[.int .u8 98, .int .u8 97] (2, 3) 2 (by unfold maxLen; omega) rfl, by decide⟩
 have TT1 := Lib.hid (TT1.out.below hb)
 have FF1 := Lib.hid (FF1.out.below hb)
 have GG3 := Lib.hid (GG3.out.below hb)
 have Bw3 := Lib.hid (Bx3.out.trans (hb.mono Bx3.out.size))
 clear hb Bx3
 generalize x3.alloc (.cells #[.int .u8 98, .int .u8 97] 5 (2, 3)) = w3 at *
 generalize (⟨x3.heap.size, 0, none⟩ : Addr) = wa3 at *
 refine (knM _ _ _ _ _ _ _ _ GG3.out _ _ WW3.out).mono ?_
 rintro e y3 ⟨ao3, cap3, rfl, hb⟩
 have TT1 := Lib.hid (TT1.out.below hb)
 have FF1 := Lib.hid (FF1.out.below hb)
 have GG3 := Lib.hid (GG3.out.below hb)
 have By3 := Lib.hid (Bw3.out.trans (hb.mono Bw3.out.size))
 clear hb Bw3 WW3
 clear GG3
 go_upto_region 4 with (fail)
 have hb : Below y3.heap.size y3 (y3.alloc (.cells #[.bool false, .int .i64 0, .int .i64 0, .slice ao3 0 cap3] 32)) := (Below.refl _ _).alloc (Nat.le_refl _) _
 have FF3 := Lib.hid (hrow.new y3 #[.bool false, .int .i64 0, .int .i64 0, .slice ao3 0 cap3] 32)
 have TT1 := Lib.hid (TT1.out.below hb)
 have FF1 := Lib.hid (FF1.out.below hb)
 have Bz3 := Lib.hid (By3.out.trans (hb.mono By3.out.size))
 clear hb By3
 generalize y3.alloc (.cells #[.bool false, .int .i64 0, .int .i64 0, .slice ao3 0 cap3] 32) = z3 at *
 generalize y3.heap.size = g3 at *
 clear FF3
 go_wp2_with fail
 refine (word_any _ ⟨#[99]⟩).mono ?_
 rintro e x21 hm
 obtain ⟨o21, n21, c21, rfl, A21, hb⟩ := hm.ars (by show okN (wordN ⟨#[99]⟩); unfold okN; decide +kernel)
 have TT1 := Lib.hid (TT1.out.below hb)
 have FF1 := Lib.hid (FF1.out.below hb)
 have Bx21 := Lib.hid (Bz3.out.trans (hb.mono Bz3.out.size))
 have H21 : Hid (Ar x21 (.slice o21 n21 c21) (wordN ⟨#[99]⟩)) := A21
 clear hb A21 Bz3
 go_wp2_with fail
 refine (call_any' _ 0 0).mono ?_
 rintro e x22 hm
 obtain ⟨o22, n22, c22, rfl, A22, hb⟩ := hm.ars (by show okN (callN 0 0); unfold okN; decide +kernel)
 have TT1 := Lib.hid (TT1.out.below hb)
 have FF1 := Lib.hid (FF1.out.below hb)
 have H21 := Lib.hid (H21.out.below hb)
 have Bx22 := Lib.hid (Bx21.out.trans (hb.mono Bx21.out.size))
 have H22 : Hid (Ar x22 (.slice o22 n22 c22) (callN 0 0)) := A22
 clear hb A22 Bx21
 go_wp2_with fail
 refine (first_any _ _ _ _ _ H21.out H22.out (by unfold okN; decide +kernel) (by unfold okN; decide +kernel)).mono ?_
 rintro e x23 hm
 obtain ⟨o23, n23, c23, rfl, A23, hb⟩ := hm.ars (by show okN (ofN 7 [wordN ⟨#[99]⟩, callN 0 0]); unfold okN; decide +kernel)
 clear H21 H22
 have TT1 := Lib.hid (TT1.out.below hb)
 have FF1 := Lib.hid (FF1.out.below hb)
 have Bx23 := Lib.hid (Bx22.out.trans (hb.mono Bx22.out.size))
 have H23 : Hid (Ar x23 (.slice o23 n23 c23) (ofN 7 [wordN ⟨#[99]⟩, callN 0 0])) := A23
 clear hb A23 Bx22
 have HG4 : Hid (Calls Try.prog 13 #[.slice (some ⟨x23.heap.size, 0, none⟩) 1 1] (x23.alloc (.cells #[.slice o23 n23 c23] 23)) (Gk x23 lateG)) := gram_gr x23 [(.slice o23 n23 c23, ofN 7 [wordN ⟨#[99]⟩, callN 0 0])] 1 rfl (by decide) (by simp only [List.mem_cons, List.not_mem_nil, or_false, forall_eq]; exact H23.out) (by simp only [List.mem_cons, List.not_mem_nil, or_false, forall_eq]; unfold okN; decide +kernel)
 clear H23
 go_wp2_with fail
 refine (HG4.out).mono ?_
 rintro e x4 ⟨ro4, rn4, rc4, no4, nn4, nc4, NL4, rfl, hg, hb⟩
 have GG4 := Lib.hid (hg.gr lcOk)
 have TT1 := Lib.hid (TT1.out.below hb)
 have FF1 := Lib.hid (FF1.out.below hb)
 have Bx4 := Lib.hid (Bx23.out.trans (hb.mono Bx23.out.size))
 clear hg hb Bx23
 clear HG4
 go_upto_region 5 with (fail)
 have hb : Below x4.heap.size x4 (x4.alloc (.cells #[.slice ro4 rn4 rc4, .slice no4 nn4 nc4] 25)) := (Below.refl _ _).alloc (Nat.le_refl _) _
 have LL4 := Lib.hid (hrow.new x4 #[.slice ro4 rn4 rc4, .slice no4 nn4 nc4] 25)
 have TT1 := Lib.hid (TT1.out.below hb)
 have FF1 := Lib.hid (FF1.out.below hb)
 have GG4 := Lib.hid (GG4.out.below hb)
 have Bz4 := Lib.hid (Bx4.out.trans (hb.mono Bx4.out.size))
 clear hb Bx4
 generalize x4.alloc (.cells #[.slice ro4 rn4 rc4, .slice no4 nn4 nc4] 25) = z4 at *
 generalize x4.heap.size = g4 at *
 obtain ⟨l0, l1⟩ := (LL4.out).c2
 go_wp2_with fail
 have hb : Below z4.heap.size z4 (z4.alloc (.cells #[.int .u8 99] 5 (1, 2))) := (Below.refl _ _).alloc (Nat.le_refl _) _
 have WW5 : Hid (InW (z4.alloc (.cells #[.int .u8 99] 5 (1, 2))) (some ⟨z4.heap.size, 0, none⟩) 1 1 [99]) := ⟨Sv.const z4 5 #[.int .u8 99] (1, 2) 1 (by unfold maxLen; omega) rfl, by decide⟩
 have TT1 := Lib.hid (TT1.out.below hb)
 have FF1 := Lib.hid (FF1.out.below hb)
 have GG4 := Lib.hid (GG4.out.below hb)
 have LL4 := Lib.hid (LL4.out.below hb)
 have Bw5 := Lib.hid (Bz4.out.trans (hb.mono Bz4.out.size))
 clear hb Bz4
 generalize z4.alloc (.cells #[.int .u8 99] 5 (1, 2)) = w5 at *
 generalize (⟨z4.heap.size, 0, none⟩ : Addr) = wa5 at *
 refine (lcM _ _ _ _ _ _ _ _ GG4.out _ _ WW5.out).mono ?_
 rintro e y5 ⟨ao5, cap5, rfl, hb⟩
 have TT1 := Lib.hid (TT1.out.below hb)
 have FF1 := Lib.hid (FF1.out.below hb)
 have GG4 := Lib.hid (GG4.out.below hb)
 have LL4 := Lib.hid (LL4.out.below hb)
 have By5 := Lib.hid (Bw5.out.trans (hb.mono Bw5.out.size))
 clear hb Bw5 WW5
 clear l0 l1
 go_upto_region 6 with (fail)
 have hb : Below y5.heap.size y5 (y5.alloc (.cells #[.bool true, .int .i64 1, .int .i64 (-1), .slice ao5 1 cap5] 32)) := (Below.refl _ _).alloc (Nat.le_refl _) _
 have FF5 := Lib.hid (hrow.new y5 #[.bool true, .int .i64 1, .int .i64 (-1), .slice ao5 1 cap5] 32)
 have TT1 := Lib.hid (TT1.out.below hb)
 have FF1 := Lib.hid (FF1.out.below hb)
 have GG4 := Lib.hid (GG4.out.below hb)
 have LL4 := Lib.hid (LL4.out.below hb)
 have Bz5 := Lib.hid (By5.out.trans (hb.mono By5.out.size))
 clear hb By5
 generalize y5.alloc (.cells #[.bool true, .int .i64 1, .int .i64 (-1), .slice ao5 1 cap5] 32) = z5 at *
 generalize y5.heap.size = g5 at *
 obtain ⟨l0, l1⟩ := (LL4.out).c2
 go_wp2_with fail
 have hb : Below z5.heap.size z5 (z5.alloc (.cells #[.int .u8 97] 5 (1, 2))) := (Below.refl _ _).alloc (Nat.le_refl _) _
 have WW6 : Hid (InW (z5.alloc (.cells #[.int .u8 97] 5 (1, 2))) (some ⟨z5.heap.size, 0, none⟩) 1 1 [97]) := ⟨Sv.const z5 5 #[.int .u8 97] (1, 2) 1 (by unfold maxLen; omega) rfl, by decide⟩
 have TT1 := Lib.hid (TT1.out.below hb)
 have FF1 := Lib.hid (FF1.out.below hb)
 have GG4 := Lib.hid (GG4.out.below hb)
 have LL4 := Lib.hid (LL4.out.below hb)
 have FF5 := Lib.hid (FF5.out.below hb)
 have Bw6 := Lib.hid (Bz5.out.trans (hb.mono Bz5.out.size))
 clear hb Bz5
 generalize z5.alloc (.cells #[.int .u8 97] 5 (1, 2)) = w6 at *
 generalize (⟨z5.heap.size, 0, none⟩ : Addr) = wa6 at *
 refine (laM _ _ _ _ _ _ _ _ GG4.out _ _ WW6.out).mono ?_
 rintro e y6 ⟨ao6, cap6, rfl, hb⟩
 have TT1 := Lib.hid (TT1.out.below hb)
 have FF1 := Lib.hid (FF1.out.below hb)
 have GG4 := Lib.hid (GG4.out.below hb)
 have LL4 := Lib.hid (LL4.out.below hb)
 have FF5 := Lib.hid (FF5.out.below hb)
 have By6 := Lib.hid (Bw6.out.trans (hb.mono Bw6.out.size))
 clear hb Bw6 WW6
 clear l0 l1
 clear LL4 GG4
 go_upto_region 7 with (fail)
 have hb : Below y6.heap.size y6 (y6.alloc (.cells #[.bool false, .int .i64 0, .int .i64 0, .slice ao6 0 cap6] 32)) := (Below.refl _ _).alloc (Nat.le_refl _) _
 have FF6 := Lib.hid (hrow.new y6 #[.bool false, .int .i64 0, .int .i64 0, .slice ao6 0 cap6] 32)
 have TT1 := Lib.hid (TT1.out.below hb)
 have FF1 := Lib.hid (FF1.out.below hb)
 have FF5 := Lib.hid (FF5.out.below hb)
 have Bz6 := Lib.hid (By6.out.trans (hb.mono By6.out.size))
 clear hb By6
 generalize y6.alloc (.cells #[.bool false, .int .i64 0, .int .i64 0, .slice ao6 0 cap6] 32) = z6 at *
 generalize y6.heap.size = g6 at *
 clear FF6
 obtain ⟨f0, f1, f2, f3⟩ := (FF1.out).c4
 obtain ⟨h0, h1, -, -⟩ := (FF5.out).c4
 obtain ⟨ta, rfl, _⟩ := TT1.out.cell 0 (by decide)
 have hc : ∀ j, j < (exO.tree.flatMap twc).length → z6.cell? (ta.add j) = (exO.tree.flatMap twc)[j]? := fun j hj => by
  obtain ⟨a, h1, h2⟩ := TT1.out.cell j hj
  cases h1; exact h2
 have d3 : Hid (∀ j v, (#[.int .i64 1, .int .i64 0, .int .i64 2, .int .i64 3, .int .i64 0] : Array Value).toList[j]? = some v → z6.cell? ((ta.add 15).add j) = some v) := fun j v hj => by
  have hj' : j < 5 := (List.getElem?_eq_some_iff.1 hj).1
  rw [add_add, hc _ (by show 15 + j < 20; omega)]
  rw [← hj]
  match j, hj' with
  | 0, _ => rfl
  | 1, _ => rfl
  | 2, _ => rfl
  | 3, _ => rfl
  | 4, _ => rfl
 have d1 : Hid (∀ j v, (#[.int .i64 0, .int .i64 0, .int .i64 1, .int .i64 3, .int .i64 1] : Array Value).toList[j]? = some v → z6.cell? ((ta.add 5).add j) = some v) := fun j v hj => by
  have hj' : j < 5 := (List.getElem?_eq_some_iff.1 hj).1
  rw [add_add, hc _ (by show 5 + j < 20; omega)]
  rw [← hj]
  match j, hj' with
  | 0, _ => rfl
  | 1, _ => rfl
  | 2, _ => rfl
  | 3, _ => rfl
  | 4, _ => rfl
 have K2 : Hid ((Try.prog.info? 43).map (·.size) = some 5) := by unfold Hid; kernel_rfl
 have hcb := TT1.out.bound
 clear hc TT1 FF1 FF5
 go_wp2_with (first
  | (refine wpList_load_partG rfl 43 (.tmp 106) rfl (ta.add 15) rfl #[.int .i64 1, .int .i64 0, .int .i64 2, .int .i64 3, .int .i64 0] _ d3.out Try.underlying43 rfl K2.out ?_)
  | (refine wpList_load_partG rfl 43 (.tmp 115) rfl (ta.add 5) rfl #[.int .i64 0, .int .i64 0, .int .i64 1, .int .i64 3, .int .i64 1] _ d1.out Try.underlying43 rfl K2.out ?_))
 go_ret
 exact ⟨rfl, Bz6.out⟩
end Go.Proofs.Ytdnkffplkleolaa
namespace Go.Proofs.Ytdnkffplkleolaa
open Go.RowKit

theorem cellN_out (G : Gr) (W : List Nat) (r p : Int) : cellN (outW G W r p) = (outW G W r p).n := by
 have hE : ∀ e : Int, cellN (otE e) = (otE e).n := fun e => by unfold cellN otE; simp only []; split <;> rfl
 unfold outW
 split; · exact hE _
 split; · exact hE _
 split; · exact hE _
 split; · exact hE _
 unfold outK
 split; · exact hE _
 split <;> (unfold cellN; simp)
theorem outW_len (G : Gr) (wn : Nat) (W : List Nat) (r p : Int) (hw : W.length = wn) (hs : wn ≤ 2048 → Short G wn W r p) : (outW G W r p).tree.length ≤ 2000 := by
 unfold outW
 split; · simp [otE]
 split; · simp [otE]
 split; · simp [otE]
 split; · simp [otE]
 rename_i h1 h2 h3 h4
 have hok : Ask G wn r.toNat p.toNat := ⟨by simpa using h1, by omega, by omega, by omega, by omega⟩
 have hov := hs (by omega) r.toNat p.toNat (by omega) (by omega) hok
 have hl := runR_len (by omega) hov
 unfold outK
 split; · simp [otE]
 split
 ·exact hl
 ·simp
/-- A tree in a row of the call's own. -/
structure OwT (B : Nat) (w : World) (ao : Option Addr) (n cap : Nat) (t : List Tw) : Prop where
 own : w.ownsRow B 43 5 (.slice ao n cap) n (t.flatMap twc)
theorem OwT.below {B n cap : Nat} {w w' : World} {ao : Option Addr} {t : List Tw} (h : OwT B w ao n cap t) (hb : Below w.heap.size w w') : OwT B w' ao n cap t := ⟨owns_fr h.own (Fr.of_below (F := fun _ => False) hb) (fun _ _ h => h)⟩
theorem OwT.mono {B B' n cap : Nat} {w : World} {ao : Option Addr} {t : List Tw} (h : OwT B w ao n cap t) (hB : B' ≤ B) : OwT B' w ao n cap t := ⟨h.own.mono hB⟩
theorem OwT.sv {B n cap : Nat} {w : World} {ao : Option Addr} {t : List Tw} (h : OwT B w ao n cap t) : Sv w ao n cap 5 (t.flatMap twc) := by
 obtain ⟨o, c, e, hs⟩ := Sv.of_owns h.own
 simp only [Value.slice.injEq, true_and] at e
 obtain ⟨rfl, rfl⟩ := e; exact hs
theorem bys_byc (W : List Nat) : bys W = byc (W.map fun (b : Nat) => (b : Int)) := by simp [bys, byc]
theorem InW.byc {w : World} {wo : Option Addr} {wn wc : Nat} {W : List Nat} (h : InW w wo wn wc W) : Sv w wo wn wc 1 (byc (W.map fun (b : Nat) => (b : Int))) := by rw [← bys_byc]; exact h.sv
theorem inw_lent {β : Int → Int → Int} {w : World} {g wn : Nat} {W : List Nat} (h : hrow w g (byc ((W.map fun (b : Nat) => (b : Int)) ++ bmarks β 12)).toArray 5) (hb : ∀ b ∈ W, b < 256) (hl : W.length = wn) (hw : wn ≤ 5000) : InW w (some ⟨g, 0, none⟩) wn (wn + 12) W := by
 refine ⟨?_, hb⟩
 rw [bys_byc]
 have e : byc ((W.map fun (b : Nat) => (b : Int)) ++ bmarks β 12) = byc (W.map fun (b : Nat) => (b : Int)) ++ byc (bmarks β 12) := by simp [byc]
 rw [e] at h
 exact Sv.of_pre h _ _ _ (by simp [byc]; omega) (by omega) (by simp only [maxLen]; omega)
section
variable (w : World) (ro : Option Addr) (rn rc : Nat) (no : Option Addr) (nn nc : Nat) (NK : List (Nd × (Option Addr × Nat))) (G : Gr) (hG : GrW w ro rn rc no nn nc NK G) (wo : Option Addr) (wn wc : Nat) (W : List Nat) (hW : InW w wo wn wc W) (hcl : ClsOk G)
include hG hW hcl
theorem rlong_any (rule place : Int) (hw : wn ≤ 2048) :
  Calls Try.prog 6 #[.agg #[.slice ro rn rc, .slice no nn nc], .slice wo wn wc, .int .i64 rule, .int .i64 place] w fun e w' => (∃ b, e = .returned (.bool b) ∧ (b = false → Short G wn W rule place)) ∧ Below w.heap.size w w' := by
 by_cases ha : Ask G wn rule place
 ·obtain ⟨r, rfl⟩ := Int.eq_ofNat_of_zero_le ha.r0
  obtain ⟨p, rfl⟩ := Int.eq_ofNat_of_zero_le ha.p0
  refine (rlong_ok w ro rn rc no nn nc NK G hG wo wn wc W hW hcl hw r p ha).mono ?_
  rintro e w' ⟨rfl, hb⟩
  exact ⟨⟨_, rfl, fun h => short_of h⟩, hb⟩
 ·refine (rlong_bad w ro rn rc no nn nc NK G hG wo wn wc W hW rule place ha).mono ?_
  rintro e w' ⟨rfl, hb⟩
  refine ⟨⟨_, rfl, fun _ r p hr hp hk => ?_⟩, hb⟩
  subst hr hp; exact absurd hk ha

section
variable (rule place : Int) (hs : Short G wn W rule place) {oi : Bool} {oe od on oE : Int} {ot : List Tw} (ho : outW G W rule place = ⟨oi, oe, od, ot, on, oE⟩) {n : Nat} (hn : n = ot.length)
include hs ho hn in
theorem fM : Calls Try.prog 7 #[.agg #[.slice ro rn rc, .slice no nn nc], .slice wo wn wc, .int .i64 rule, .int .i64 place] w fun e w' =>
  ∃ ao cap, e = .returned (.tuple #[.agg #[.bool oi, .int .i64 oe, .int .i64 od, .slice ao n cap], .int .i64 oE]) ∧ OwT w.heap.size w' ao n cap ot ∧ True ∧ Below w.heap.size w w' := by
 subst hn
 have := pMatch_any w ro rn rc no nn nc NK G hG wo wn wc W hW hcl rule place (fun _ => hs)
 rw [ho] at this
 refine this.mono ?_
 rintro e w' ⟨ao, cap, rfl, h⟩
 exact ⟨ao, cap, rfl, ⟨h.1⟩, trivial, h.2⟩
include hs ho hn in
theorem fC : Calls Try.prog 8 #[.agg #[.slice ro rn rc, .slice no nn nc], .slice wo wn wc, .int .i64 rule, .int .i64 place] w fun e w' =>
  e = .returned (.tuple #[.int .i64 on, .int .i64 oE]) ∧ Below w.heap.size w w' := by
 have _ := hn
 have := pCells_any w ro rn rc no nn nc NK G hG wo wn wc W hW hcl rule place (fun _ => hs)
 rw [cellN_out, ho] at this
 exact this
include ho hn in
end

end
end Go.Proofs.Ytdnkffplkleolaa
namespace Go.Proofs.Ytdnkffplkleolaa
open Go.RowKit Go.ChangeShapes Go.WideShapes Go.ChangeAt Go.Deep Go.Joins
set_option maxRecDepth 100000

theorem weightsAll_mem {H : Type} {P : Program} {e : TypeId} {n : Nat} : ∀ (l : List (DataW H)) (d : DataW H), d ∈ l → n ∈ d.weights P e → n ∈ DataW.weightsAll P e l
 | [], d, h, _ => by cases h
 | x :: r, d, h, hn => by
  simp only [DataW.weightsAll, List.mem_append]
  rcases List.mem_cons.1 h with rfl | h
  ·exact .inl hn
  ·exact .inr (weightsAll_mem r d h hn)

section
variable {H : Type} {enc : TypeId × Value → H} {w : World} {base : Nat} {spare : Nat → Bool} {held : Bool}

theorem read_ints {fuel : Nat} {c : Value} {x : DataW H × List MemPlace} (h : DataW.trod enc Try.prog w base spare held fuel 55 [c] = some x) :
  ∃ ao cap W, c = .slice ao W.length cap ∧ Sv w ao W.length cap 1 (inc W) ∧ (W.length = 0 ∨ ∃ elems rest, x.1 = .slice elems rest ∧ W.length ≤ elems.length + rest.length) ∧ ∀ n ∈ W, -9223372036854775808 ≤ n ∧ n ≤ 9223372036854775807 := by
 rcases open_ints Try.underlying55 Try.underlying3 (by kernel_rfl) h with ⟨hcs, hx⟩ | ⟨a, len, cap, zs, hcs, _, hl, hm, hz, hx, hcell, hwz⟩
 ·simp only [List.cons.injEq, and_true] at hcs
  subst hcs
  exact ⟨none, 0, [], rfl, Sv.nil w 1, .inl rfl, by simp⟩
 ·simp only [List.cons.injEq, and_true] at hcs
  subst hcs
  have hzl : len ≤ zs.length := by rw [hz]; split <;> omega
  have hln : (zs.take len).length = len := by simp; omega
  refine ⟨some a, cap, zs.take len, by rw [hln], ?_, ?_, ?_⟩
  ·rw [hln]
   refine ⟨by simp [inc]; omega, hl, hm, (fun h => nomatch h), fun j hj => ⟨a, rfl, ?_⟩⟩
   simp only [inc, List.length_map, hln] at hj
   rw [hcell j (by omega)]
   simp [inc, List.getD_eq_getElem?_getD, show j < len by omega, show j < zs.length by omega]
  ·refine .inr ⟨_, _, by rw [hx], ?_⟩
   simp only [lits, List.length_map, List.length_take, List.length_drop]
   omega
  ·exact fun n hn => bounds_i64 (hwz n (List.mem_of_mem_take hn))

def ClsN (x : Nd) : Prop := (0 ≤ x.c0 ∧ x.c0 < 2 ^ 64) ∧ (0 ≤ x.c1 ∧ x.c1 < 2 ^ 64) ∧ (0 ≤ x.c2 ∧ x.c2 < 2 ^ 64) ∧ (0 ≤ x.c3 ∧ x.c3 < 2 ^ 64)
theorem read_node {fuel : Nat} {cs : List Value} {x : DataW H × List MemPlace} (h : DataW.trod enc Try.prog w base spare held fuel 57 cs = some x) :
  ∃ p : Nd × (Option Addr × Nat), cs = ndc p ∧ Sv w p.2.1 p.1.kids.length p.2.2 1 (inc p.1.kids) ∧ p.1.text.size ≤ 9223372036854775807 ∧ ClsN p.1 ∧
   ((∀ n ∈ x.1.weights Try.prog 57, n ≤ reachBytes) → p.1.kids.length ≤ 140737488355328) := by
 obtain ⟨xs, m, _, rfl, hlen, hxl, hf⟩ := DataW.trod_struct Try.underlying57 h
 have hc9 : Try.prog.cellsOf 57 = 9 := by kernel_rfl
 rw [hc9] at hlen
 have e1 : Try.prog.cellsOf 3 = 1 := by kernel_rfl
 have e2 : Try.prog.cellsOf 54 = 4 := by kernel_rfl
 have e3 : Try.prog.cellsOf 9 = 1 := by kernel_rfl
 have e4 : Try.prog.cellsOf 55 = 1 := by kernel_rfl
 have e5 : Try.prog.cellsOf 51 = 1 := by kernel_rfl
 have e6 : Try.prog.cellsOf 52 = 1 := by kernel_rfl
 match xs, hxl, cs, hlen with
 | [y0, y1, y2, y3, y4, y5], _, [v0, v1, v2, v3, v4, v5, v6, v7, v8], _ =>
  have g0 : DataW.trod enc Try.prog w base spare held m 51 (([v0, v1, v2, v3, v4, v5, v6, v7, v8].drop 0).take (Try.prog.cellsOf 51)) = some y0 := hf 0 _ rfl
  rw [e5] at g0
  have g1 : DataW.trod enc Try.prog w base spare held m 54 (([v0, v1, v2, v3, v4, v5, v6, v7, v8].drop 1).take (Try.prog.cellsOf 54)) = some y1 := hf 1 _ rfl
  rw [e2] at g1
  have g2 : DataW.trod enc Try.prog w base spare held m 9 (([v0, v1, v2, v3, v4, v5, v6, v7, v8].drop 5).take (Try.prog.cellsOf 9)) = some y2 := hf 2 _ rfl
  rw [e3] at g2
  have g3 : DataW.trod enc Try.prog w base spare held m 3 (([v0, v1, v2, v3, v4, v5, v6, v7, v8].drop 6).take (Try.prog.cellsOf 3)) = some y3 := hf 3 _ rfl
  rw [e1] at g3
  have g4 : DataW.trod enc Try.prog w base spare held m 3 (([v0, v1, v2, v3, v4, v5, v6, v7, v8].drop 7).take (Try.prog.cellsOf 3)) = some y4 := hf 4 _ rfl
  rw [e1] at g4
  have g5 : DataW.trod enc Try.prog w base spare held m 55 (([v0, v1, v2, v3, v4, v5, v6, v7, v8].drop 8).take (Try.prog.cellsOf 55)) = some y5 := hf 5 _ rfl
  rw [e4] at g5
  have g0 : DataW.trod enc Try.prog w base spare held m 51 [v0] = some y0 := g0
  have g1 : DataW.trod enc Try.prog w base spare held m 54 [v1, v2, v3, v4] = some y1 := g1
  have g2 : DataW.trod enc Try.prog w base spare held m 9 [v5] = some y2 := g2
  have g3 : DataW.trod enc Try.prog w base spare held m 3 [v6] = some y3 := g3
  have g4 : DataW.trod enc Try.prog w base spare held m 3 [v7] = some y4 := g4
  have g5 : DataW.trod enc Try.prog w base spare held m 55 [v8] = some y5 := g5
  obtain ⟨k, hk, _, _⟩ := DataW.trod_int Try.underlying51 g0
  obtain ⟨zs, m', _, _, _, hzl, hz⟩ := DataW.trod_array Try.underlying54 g1
  obtain ⟨s, hs, _, hsz⟩ := DataW.trod_string Try.underlying9 g2
  obtain ⟨ru, hru, _, _⟩ := DataW.trod_int Try.underlying3 g3
  obtain ⟨le, hle, _, _⟩ := DataW.trod_int Try.underlying3 g4
  obtain ⟨ao, cap, W, hv, hsv, hwt, _⟩ := read_ints g5
  match zs, hzl with
  | [z0, z1, z2, z3], _ =>
   have k0 : DataW.trod enc Try.prog w base spare held m' 52 (([v1, v2, v3, v4].drop (0 * Try.prog.cellsOf 52)).take (Try.prog.cellsOf 52)) = some z0 := hz 0 (by decide)
   rw [e6] at k0
   have k1 : DataW.trod enc Try.prog w base spare held m' 52 (([v1, v2, v3, v4].drop (1 * Try.prog.cellsOf 52)).take (Try.prog.cellsOf 52)) = some z1 := hz 1 (by decide)
   rw [e6] at k1
   have k2 : DataW.trod enc Try.prog w base spare held m' 52 (([v1, v2, v3, v4].drop (2 * Try.prog.cellsOf 52)).take (Try.prog.cellsOf 52)) = some z2 := hz 2 (by decide)
   rw [e6] at k2
   have k3 : DataW.trod enc Try.prog w base spare held m' 52 (([v1, v2, v3, v4].drop (3 * Try.prog.cellsOf 52)).take (Try.prog.cellsOf 52)) = some z3 := hz 3 (by decide)
   rw [e6] at k3
   have k0 : DataW.trod enc Try.prog w base spare held m' 52 [v1] = some z0 := k0
   have k1 : DataW.trod enc Try.prog w base spare held m' 52 [v2] = some z1 := k1
   have k2 : DataW.trod enc Try.prog w base spare held m' 52 [v3] = some z2 := k2
   have k3 : DataW.trod enc Try.prog w base spare held m' 52 [v4] = some z3 := k3
   obtain ⟨c0, q0, _, w0⟩ := DataW.trod_int Try.underlying52 k0
   obtain ⟨c1, q1, _, w1⟩ := DataW.trod_int Try.underlying52 k1
   obtain ⟨c2, q2, _, w2⟩ := DataW.trod_int Try.underlying52 k2
   obtain ⟨c3, q3, _, w3⟩ := DataW.trod_int Try.underlying52 k3
   simp only [List.cons.injEq, and_true] at hk hs hru hle q0 q1 q2 q3
   subst hk hs hru hle q0 q1 q2 q3 hv
   have w0 := bounds_u64 w0
   have w1 := bounds_u64 w1
   have w2 := bounds_u64 w2
   have w3 := bounds_u64 w3
   refine ⟨(⟨k, c0, c1, c2, c3, s, ru, le, W⟩, (ao, cap)), rfl, hsv, hsz, ⟨by simp only []; omega, by simp only []; omega, by simp only []; omega, by simp only []; omega⟩, fun hw => ?_⟩
   rcases hwt with h0 | ⟨el, sp, he, hl⟩
   ·simp only []; omega
   ·have hb8 : Try.prog.bytesOf 3 = 8 := by kernel_rfl
    have h1 : (el.length + sp.length) * Try.prog.bytesOf 3 ∈ (DataW.slice el sp : DataW H).weights Try.prog 55 := by
     simp only [DataW.weights, Try.underlying55, List.mem_cons, true_or]
    have h2 := hw _ (by
     simp only [DataW.weights, Try.underlying57]
     exact DataW.weights_mem_each (j := 5) (t := 55) rfl (by simp [he]) _ h1)
    rw [hb8] at h2
    simp only [reachBytes] at h2
    simp only []
    omega

theorem read_bytes {fuel : Nat} {v : Value} {x : DataW H × List MemPlace} (h : DataW.trod enc Try.prog w base spare held fuel 26 v.cells.toList = some x) {ao : Option Addr} {len cap : Nat} (hv : v = .slice ao len cap) :
  ∃ W, InW w ao len cap W := by
 subst hv
 rcases open_ints Try.underlying26 Try.underlying5 (by kernel_rfl) h with ⟨hcs, hx⟩ | ⟨a, l, c, zs, hcs, _, hl, hm, hz, hx, hcell, hwz⟩
 ·simp [Value.cells] at hcs
  obtain ⟨rfl, rfl, rfl⟩ := hcs
  exact ⟨[], Sv.nil w 1, by intro c hc; cases hc⟩
 ·simp [Value.cells] at hcs
  obtain ⟨rfl, rfl, rfl⟩ := hcs
  have hzl : len ≤ zs.length := by rw [hz]; split <;> omega
  have hb : ∀ n ∈ zs, 0 ≤ n ∧ n ≤ 255 := fun n hn => bounds_u8 (hwz n hn)
  refine ⟨(zs.take len).map Int.toNat, ⟨by simp [bys]; omega, hl, hm, (fun h => nomatch h), fun j hj => ⟨a, rfl, ?_⟩⟩, ?_⟩
  ·simp only [bys, List.length_map, List.length_take] at hj
   have hjz : j < zs.length := by omega
   have := hb zs[j] (List.getElem_mem hjz)
   rw [hcell j hjz]
   simp only [bys, List.getElem?_map, List.getElem?_take, show j < len by omega, if_true, List.getElem?_eq_getElem hjz, Option.map_some, List.getD_eq_getElem?_getD, Option.getD_some]
   congr 2
   omega
  ·intro b hb'
   obtain ⟨n, hn, rfl⟩ := List.mem_map.1 hb'
   have := hb n (List.mem_of_mem_take hn)
   omega

theorem read_rules {fuel : Nat} {c : Value} {x : DataW H × List MemPlace} (h : DataW.trod enc Try.prog w base spare held fuel 22 [c] = some x) :
  ∃ (ao : Option Addr) (len cap : Nat) (R : List Ru), c = .slice ao len cap ∧ Sv w ao len cap 2 (R.flatMap ruc) ∧ (∀ r ∈ R, r.name.size ≤ 9223372036854775807) ∧ ((∀ n ∈ x.1.weights Try.prog 22, n ≤ reachBytes) → len ≤ 140737488355328) := by
 rcases open_slice_pairs Try.underlying22 Try.underlying90 (by kernel_rfl) rfl rfl (by kernel_rfl) (by kernel_rfl) h with ⟨hcs, _⟩ | ⟨a, len, cap, m, n, V0, V1, D0, D1, P0, P1, hcs, _, hl, hm, hmm, hx, hi⟩
 ·simp only [List.cons.injEq, and_true] at hcs
  subst hcs
  exact ⟨none, 0, 0, [], rfl, Sv.nil w 2, by simp, fun _ => by omega⟩
 ·simp only [List.cons.injEq, and_true] at hcs
  subst hcs
  have hlm : len ≤ m := by rw [hmm]; split <;> omega
  have each : ∀ i, ∃ q : Ru, i < len → w.cell? (a.add (i * 2)) = some (.string q.name) ∧ w.cell? (a.add (i * 2 + 1)) = some (.int .i64 q.body) ∧ q.name.size ≤ 9223372036854775807 := by
   intro i
   by_cases hlt : i < len
   ·obtain ⟨h0, h1, h2, h3⟩ := hi i (by omega)
    obtain ⟨s, hs, _, hsz⟩ := DataW.trod_string Try.underlying9 h2
    obtain ⟨b, hb, _⟩ := DataW.trod_int Try.underlying3 h3
    simp only [List.cons.injEq, and_true] at hs hb
    exact ⟨⟨s, b⟩, fun _ => ⟨by rw [h0, hs], by rw [h1, hb], hsz⟩⟩
   ·exact ⟨⟨es0, 0⟩, fun h => absurd h hlt⟩
  let q := fun i => Classical.choose (each i)
  have hq : ∀ i, i < len → _ := fun i => Classical.choose_spec (each i)
  refine ⟨some a, len, cap, (List.range len).map q, rfl, ⟨by rw [fl_len ruc_len]; simp, hl, hm, (fun h => nomatch h), fun j hj => ⟨a, rfl, ?_⟩⟩, ?_, fun hw => ?_⟩
  ·rw [fl_len ruc_len] at hj
   simp only [List.length_map, List.length_range] at hj
   have hk : j / 2 < len := by omega
   have e : ((List.range len).map q)[j / 2]'(by simpa using hk) = q (j / 2) := by simp
   obtain ⟨h0, h1, _⟩ := hq (j / 2) hk
   have hg : ∀ r, r < 2 → (((List.range len).map q).flatMap ruc)[j / 2 * 2 + r]? = (ruc (q (j / 2)))[r]? := fun r hr => by
    rw [fl_get ruc_len _ (j / 2) r (by simpa using hk) hr, e]
   rcases (show j = j / 2 * 2 + 0 ∨ j = j / 2 * 2 + 1 by omega) with hj' | hj'
   ·rw [hj', hg 0 (by omega)]; exact h0
   ·rw [hj', hg 1 (by omega)]; exact h1
  ·intro r hr
   obtain ⟨i, h1, rfl⟩ := List.mem_map.1 hr
   exact (hq i (List.mem_range.1 h1)).2.2
  ·have hb : Try.prog.bytesOf 90 = 24 := by kernel_rfl
   have h1 := hw ((((List.range len).map fun i => (.agg [D0 i, D1 i] : DataW H)).length + ((List.range (m - len)).map fun j => (.agg [D0 (len + j), D1 (len + j)] : DataW H)).length) * Try.prog.bytesOf 90) (by
    rw [hx]; simp only [DataW.weights, Try.underlying22, List.mem_cons, true_or])
   rw [hb] at h1
   simp only [List.length_map, List.length_range, reachBytes] at h1
   omega

theorem read_nodes {fuel : Nat} {c : Value} {x : DataW H × List MemPlace} (h : DataW.trod enc Try.prog w base spare held fuel 23 [c] = some x) :
  ∃ (ao : Option Addr) (len cap : Nat) (NK : List (Nd × (Option Addr × Nat))), c = .slice ao len cap ∧ NdW w ao len cap NK ∧ (∀ p ∈ NK, ClsN p.1) ∧ ((∀ n ∈ x.1.weights Try.prog 23, n ≤ reachBytes) → len ≤ 140737488355328 ∧ ∀ p ∈ NK, p.1.kids.length ≤ 140737488355328) := by
 rcases open_slice Try.underlying23 h with ⟨hcs, _⟩ | ⟨a, len, cap, m, n, D, Pl, hcs, _, hl, hm, hmm, hx, hi⟩
 ·simp only [List.cons.injEq, and_true] at hcs
  subst hcs
  exact ⟨none, 0, 0, [], rfl, ⟨Sv.nil w 9, by simp, by simp⟩, by simp, fun _ => ⟨by omega, by simp⟩⟩
 ·simp only [List.cons.injEq, and_true] at hcs
  subst hcs
  have hlm : len ≤ m := by rw [hmm]; split <;> omega
  have hc9 : Try.prog.cellsOf 57 = 9 := by kernel_rfl
  have each : ∀ i, ∃ q : Nd × (Option Addr × Nat), i < len → (∀ j v, (ndc q)[j]? = some v → w.cell? (a.add (i * 9 + j)) = some v) ∧ Sv w q.2.1 q.1.kids.length q.2.2 1 (inc q.1.kids) ∧ q.1.text.size ≤ 9223372036854775807 ∧ ClsN q.1 ∧
    ((∀ n ∈ (D i).weights Try.prog 57, n ≤ reachBytes) → q.1.kids.length ≤ 140737488355328) := by
   intro i
   by_cases hlt : i < len
   ·obtain ⟨cs', h1, h2⟩ := hi i (by omega)
    rw [hc9] at h1
    obtain ⟨_, hln, hcell⟩ := World.cells?_some h1
    obtain ⟨p, rfl, r1, r2, r3, r4⟩ := read_node h2
    refine ⟨p, fun _ => ⟨fun j v hj => ?_, r1, r2, r3, r4⟩⟩
    have hj9 : j < 9 := by have := (List.getElem?_eq_some_iff.1 hj).1; rw [ndc_len] at this; exact this
    rw [← add_add, hcell j hj9]; exact hj
   ·exact ⟨(⟨0, 0, 0, 0, 0, es0, 0, 0, []⟩, (none, 0)), fun h => absurd h hlt⟩
  let q := fun i => Classical.choose (each i)
  have hq : ∀ i, i < len → _ := fun i => Classical.choose_spec (each i)
  refine ⟨some a, len, cap, (List.range len).map q, rfl, ⟨⟨by rw [fl_len ndc_len]; simp, hl, hm, (fun h => nomatch h), fun j hj => ⟨a, rfl, ?_⟩⟩, ?_, ?_⟩, ?_, fun hw => ⟨?_, ?_⟩⟩
  ·rw [fl_len ndc_len] at hj
   simp only [List.length_map, List.length_range] at hj
   have hk : j / 9 < len := by omega
   have hr : j % 9 < 9 := Nat.mod_lt _ (by decide)
   have hj' : j = j / 9 * 9 + j % 9 := by omega
   have e : ((List.range len).map q)[j / 9]'(by simpa using hk) = q (j / 9) := by simp
   have hg : (((List.range len).map q).flatMap ndc)[j]? = (ndc (q (j / 9)))[j % 9]? := by
    conv => lhs; rw [hj']
    rw [fl_get ndc_len _ (j / 9) (j % 9) (by simpa using hk) hr, e]
   rw [hg]
   have h9 : j % 9 < (ndc (q (j / 9))).length := by rw [ndc_len]; exact hr
   have := (hq (j / 9) hk).1 (j % 9) _ (List.getElem?_eq_getElem h9)
   rw [← hj'] at this
   rw [this, List.getElem?_eq_getElem h9]
  ·intro p hp
   obtain ⟨i, h1, rfl⟩ := List.mem_map.1 hp
   exact (hq i (List.mem_range.1 h1)).2.1
  ·intro p hp
   obtain ⟨i, h1, rfl⟩ := List.mem_map.1 hp
   exact (hq i (List.mem_range.1 h1)).2.2.1
  ·intro p hp
   obtain ⟨i, h1, rfl⟩ := List.mem_map.1 hp
   exact (hq i (List.mem_range.1 h1)).2.2.2.1
  ·have hb : Try.prog.bytesOf 57 = 96 := by kernel_rfl
   have h1 := hw ((((List.range len).map D).length + ((List.range (m - len)).map fun j => D (len + j)).length) * Try.prog.bytesOf 57) (by
    rw [hx]; simp only [DataW.weights, Try.underlying23, List.mem_cons, true_or])
   rw [hb] at h1
   simp only [List.length_map, List.length_range, reachBytes] at h1
   omega
  ·intro p hp
   obtain ⟨i, h1, rfl⟩ := List.mem_map.1 hp
   have hi' := List.mem_range.1 h1
   refine (hq i hi').2.2.2.2 (fun n hn => hw n ?_)
   rw [hx]
   simp only [DataW.weights, Try.underlying23, List.mem_cons, List.mem_append]
   exact .inr (.inl (weightsAll_mem _ _ (List.mem_map.2 ⟨i, h1, rfl⟩) hn))

theorem read_gram {r : Reach} {b0 : Nat} {v : Value} {d : DataW H} {ps : List MemPlace} (hv : Value.okWide Try.prog w r b0 25 v) (h : DataW.Trod enc Try.prog w base spare held 25 v d ps) (hw : ∀ n ∈ d.weights Try.prog 25, n ≤ reachBytes) :
  ∃ ro rn rc no nn nc NK G, v = .agg #[.slice ro rn rc, .slice no nn nc] ∧ GrW w ro rn rc no nn nc NK G ∧ ClsOk G ∧ rn ≤ 140737488355328 ∧ nn ≤ 140737488355328 ∧ ∀ p ∈ NK, p.1.kids.length ≤ 140737488355328 := by
 obtain ⟨v0, v1, y0, y1, n, rfl, rfl, _, h0, h1⟩ := open_agg2 Try.underlying25 (by kernel_rfl) (by kernel_rfl) hv h
 obtain ⟨ro, rn, rc, R, rfl, r1, r2, r3⟩ := read_rules h0
 obtain ⟨no, nn, nc, NK, rfl, n1, n2, n3⟩ := read_nodes h1
 have hw0 := fun n hn => hw n (by
  simp only [DataW.weights, Try.underlying25]
  exact DataW.weights_mem_each (j := 0) (t := 22) (d := y0.1) rfl rfl n hn)
 have hw1 := fun n hn => hw n (by
  simp only [DataW.weights, Try.underlying25]
  exact DataW.weights_mem_each (j := 1) (t := 23) (d := y1.1) rfl rfl n hn)
 have h3 := n3 hw1
 exact ⟨ro, rn, rc, no, nn, nc, NK, ⟨R, NK.map (·.1)⟩, rfl, ⟨r1, r2, n1, rfl⟩, clsOk_of (fun x hx => by
  obtain ⟨p, hp, rfl⟩ := List.mem_map.1 hx
  exact n2 p hp), r3 hw0, h3.1, h3.2⟩
end
end Go.Proofs.Ytdnkffplkleolaa
