/- Walks and plain laws: Td Te Tf Tg. -/
import Derived.Test.YtdnkffplkleolaaM22
import Derived.Test.YtdnkffplkleolaaM12
import Derived.Test.YtdnkffplkleolaaM13
import Derived.BigQuiet
namespace Go.Proofs.Ytdnkffplkleolaa
open Go.RowKit Go.ChangeMaps
set_option maxRecDepth 100000
set_option maxHeartbeats 1000000

theorem twU : Try.prog.underlying 30 = some (.slice 43) := by kernel_rfl
theorem clone_any (w : World) (ao : Option Addr) (cap : Nat) (t : List Tw) (h : Sv w ao t.length cap 5 (t.flatMap twc)) (hl : t.length ≤ 100000000) :
  Calls Try.prog 41 #[.slice ao t.length cap] w fun e w' => ∃ go gc, e = .returned (.slice go t.length gc) ∧ NewT w w' go gc t := by
 have HS := Lib.hid h
 cases ao with
 | none =>
  have hc : cap = 0 := h.nn rfl
  have hn : t.length = 0 := by have := h.le; omega
  have ht : t = [] := List.eq_nil_of_length_eq_zero hn
  subst ht
  subst hc
  clear h
  have hq : ∀ (w : World) (n c : Nat), (binOp .eql 30 (.slice none n c) (.slice none 0 0)).run Try.prog w = .ok (.bool true) w := fun w n c => Lib.run_eql_slice_nil (P := Try.prog) w 30 43 none n c 0 0 twU
  simp only [List.length_nil]
  go_enter Try.func41, Try.ntmps41
  go_wp2_with fail
  go_ret
  exact ⟨none, 0, rfl, Below.refl _ _, Sv.nil w 5, fun _ h => nomatch h⟩
 | some a =>
  clear h
  have HO := Lib.hid (twc_one t)
  have HT : Hid (∀ (v : Value) (w' : World), Own w w' 43 5 v (0 + t.length) ([] ++ t.flatMap twc) → ∃ ao cap, v = .slice ao t.length cap ∧ NewT w w' ao cap t) := fun v w' h => NewT.of (Nat.zero_add _) (by rwa [List.nil_append] at h)
  have HLn : Hid ((0 + t.length) * 40 ≤ 140737488355328 ∧ 0 + t.length ≤ maxLen) := by unfold Hid maxLen; omega
  generalize t.length = n at *
  have hq : ∀ (w : World) (a : Addr) (n c : Nat), (binOp .eql 30 (.slice (some a) n c) (.slice none 0 0)).run Try.prog w = .ok (.bool false) w := fun w a n c => Lib.run_eql_slice_nil (P := Try.prog) w 30 43 (some a) n c 0 0 twU
  go_enter Try.func41, Try.ntmps41
  go_wp2_with (at_builtin; refine wpList_apps w _ rfl _ _ 30 43 rfl elemTwR _ 0 [] rfl (Own.lit w 43 #[] 0 5 (by decide) rfl) (some a) n cap (t.flatMap twc) rfl (HS.out.below ((Below.refl _ _).alloc (Nat.le_refl _) _)) HO.out HLn.out.1 HLn.out.2 ?_; intro v' w3 hO1; have HO1 := Lib.hid hO1; clear hO1)
  go_ret
  obtain ⟨go, gc, rfl, hn⟩ := HT.out _ _ HO1.out
  exact ⟨go, gc, rfl, hn⟩

theorem grow_any (w : World) (n : Nat) (hl : n ≤ 1000000000) :
  Calls Try.prog 101 #[.slice none 0 0, .int .i64 n] w fun e w' => ∃ v, e = .returned v ∧ Own w w' 43 5 v 0 [] := by
 rcases Nat.eq_zero_or_pos n with rfl | hp
 ·go_enter Try.func101, Try.ntmps101
  go_wp2_with fail
  go_ret
  exact ⟨_, rfl, Own.nil w _ 5⟩
 ·obtain ⟨i, hi, hz, hz1, hz2⟩ := info_parts (elemTwR).i
  have hgc := grownCap_ge w n 0 43
  have hgm := grownCap_le_maxLen w n 0 43 (by unfold maxLen; omega)
  have hrz : ∀ ty, (Builtin.append_ #[30, 3] ty #[.slice none 0 0, .int .i64 n]).run Try.prog w =
    .ok (.slice (some ⟨w.heap.size, 0, none⟩) n (grownCap w n 0 43)) (w.drew.alloc (.cells (#[] ++ Builtin.zeroCells (Value.agg #[.int .i64 0, .int .i64 0, .int .i64 0, .int .i64 0, .int .i64 0]).cells n ++ Builtin.zeroCells (Value.agg #[.int .i64 0, .int .i64 0, .int .i64 0, .int .i64 0, .int .i64 0]).cells (grownCap w n 0 43 - n)) 43)) := fun ty => by
   have h := Lib.run_append_grow_zeros (P := Try.prog) w 30 3 ty 43 i _ .i64 .i64 twU (by kernel_rfl) hi hz none 0 0 [] (run_firstCells_none w.drew i.size 0 0 0) n hp (by omega) (by omega) (by omega) (by rw [hz2]; omega) (growslice_fits (by omega) (by rw [hz2]; omega))
   simpa using h
  have HOw : Hid (Own w (w.drew.alloc (.cells (#[] ++ Builtin.zeroCells (Value.agg #[.int .i64 0, .int .i64 0, .int .i64 0, .int .i64 0, .int .i64 0]).cells n ++ Builtin.zeroCells (Value.agg #[.int .i64 0, .int .i64 0, .int .i64 0, .int .i64 0, .int .i64 0]).cells (grownCap w n 0 43 - n)) 43)) 43 5 (.slice (some ⟨w.heap.size, 0, none⟩) 0 (grownCap w n 0 43)) 0 []) := by
   refine ⟨⟨rfl, .inr ⟨w.heap.size, _, _, rfl, Nat.le_refl _, heap_alloc_new w.drew _, Nat.zero_le _, hgm, ?_, by simp⟩⟩, (Below.refl _ _).drew.alloc (Nat.le_refl _) _⟩
   simp only [Array.size_append, size_zeroCells, Value.cells, Array.size_empty, Nat.zero_add]
   rw [← Nat.add_mul]
   simp
   omega
  clear hi hz hz1 hz2
  generalize grownCap w n 0 43 = G at *
  have hG : G ≤ 9223372036854775807 := by unfold maxLen at hgm; omega
  clear hgm
  generalize Builtin.zeroCells _ n = z1 at *
  generalize Builtin.zeroCells _ (G - n) = z2 at *
  go_enter Try.func101, Try.ntmps101
  go_wp2_with (at_builtin; refine Lib.wpList_append_run _ rfl _ _ _ _ rfl _ _ rfl rfl _ _ (hrz _) ?_)
  go_ret
  exact ⟨_, rfl, by have h := HOw.out; rw [Array.empty_append] at h; exact h⟩
end Go.Proofs.Ytdnkffplkleolaa
namespace Go.Proofs.Ytdnkffplkleolaa
open Go.RowKit Go.ChangeMaps
set_option maxRecDepth 100000
set_option maxHeartbeats 2000000

def szK (na nb k : Nat) : Nat := if k = 0 then 0 else if k = 1 then na else na + nb
def ceK (A B : List Value) (k : Nat) : List Value := if k = 0 then [] else if k = 1 then A else A ++ B

theorem concat_any (w : World) (g : Nat) (ao bo : Option Addr) (ac bc : Nat) (ta tb : List Tw) (hr : hrow w g #[.slice ao ta.length ac, .slice bo tb.length bc] 30) (ha : Sv w ao ta.length ac 5 (ta.flatMap twc)) (hb : Sv w bo tb.length bc 5 (tb.flatMap twc)) (hla : ta.length ≤ 100000000) (hlb : tb.length ≤ 100000000) :
  Calls Try.prog 99 #[.slice (some ⟨g, 0, none⟩) 2 2] w fun e w' => ∃ go gc, e = .returned (.slice go (ta ++ tb).length gc) ∧ NewT w w' go gc (ta ++ tb) := by
 have HR := Lib.hid hr
 have HA := Lib.hid ha
 have HB := Lib.hid hb
 have hab := ha.bound
 have hbb := hb.bound
 have HT : Hid (∀ (v : Value) (w' : World), Own w w' 43 5 v (ta.length + tb.length) (ta.flatMap twc ++ tb.flatMap twc) → ∃ ao cap, v = .slice ao (ta ++ tb).length cap ∧ NewT w w' ao cap (ta ++ tb)) := fun v w' h => by
  rw [← List.flatMap_append, ← List.length_append] at h
  exact NewT.of rfl h
 have HO1 := Lib.hid (twc_one ta)
 have HO2 := Lib.hid (twc_one tb)
 obtain ⟨c0, c1⟩ := (hr).c2
 generalize (ta ++ tb).length = nab at *
 generalize ta.length = na at *
 generalize tb.length = nb at *
 have HL1 : Hid ((0 + na) * 40 ≤ 140737488355328 ∧ 0 + na ≤ maxLen) := by unfold Hid maxLen; omega
 have HL2 : Hid ((na + nb) * 40 ≤ 140737488355328 ∧ na + nb ≤ maxLen) := by unfold Hid maxLen; omega
 clear hr ha hb
 go_enter Try.func99, Try.ntmps99
 go_wp2_with fail
 go_loopw [3, 11] (fun s i wr => ∃ k : Nat, k ≤ 2 ∧ i = .int .i64 k ∧ s = .int .i64 (szK na nb k : Nat) ∧ w = wr) (fun _ i _ => 2 - (intOf i).toNat)
 case atStart => exact ⟨0, by omega, rfl, rfl, rfl⟩
 case round =>
  obtain ⟨k, hk, rfl, rfl, rfl⟩ := hrel
  have hk3 : k = 0 ∨ k = 1 ∨ k = 2 := by omega
  rcases hk3 with rfl | rfl | rfl
  ·have e0 : szK na nb 0 = 0 := rfl
   rw [e0]
   clear e0
   go_wp2_with fail
   go_roundw
   case rel => exact ⟨1, by omega, rfl, rfl, trivial⟩
   case measure => simp [intOf]
  ·have e0 : szK na nb 1 = na := rfl
   rw [e0]
   clear e0
   go_wp2_with fail
   go_roundw
   case rel => exact ⟨2, by omega, rfl, by simp [szK], trivial⟩
   case measure => simp [intOf]
  ·have e0 : szK na nb 2 = na + nb := rfl
   rw [e0]
   clear e0
   go_wp2_with fail
   refine (grow_any w (na + nb) (by omega)).mono ?_
   rintro e w1 ⟨v, rfl, ho⟩
   have HOw := Lib.hid ho
   clear ho c0 c1
   go_wp2_with fail
   go_loopw [6, 27] (fun v i wx => ∃ k : Nat, k ≤ 2 ∧ i = .int .i64 k ∧ Hid (Own w wx 43 5 v (szK na nb k) (ceK (ta.flatMap twc) (tb.flatMap twc) k))) (fun _ i _ => 2 - (intOf i).toNat)
   case atStart => exact ⟨0, by omega, rfl, HOw.out⟩
   case round =>
    obtain ⟨k, hk, rfl, HI⟩ := hrel
    clear HOw
    have hk3 : k = 0 ∨ k = 1 ∨ k = 2 := by omega
    rcases hk3 with rfl | rfl | rfl
    ·have c0 : wr.cell? ⟨g, 0, none⟩ = some (.slice ao na ac) := (HR.out.below HI.out.2).cell 0
     have H0 : Hid (Own w wr 43 5 u6 0 []) := HI.out
     have HA1 := Lib.hid (HA.out.below HI.out.2)
     clear HI
     go_wp2_with (at_builtin; refine wpList_apps w _ rfl _ _ 30 43 rfl elemTwR _ 0 [] rfl H0.out ao na ac (ta.flatMap twc) rfl HA1.out HO1.out HL1.out.1 HL1.out.2 ?_; intro v' w3 hO1; have HN := Lib.hid hO1; clear hO1)
     go_roundw
     case rel => exact ⟨1, by omega, rfl, by have h := HN.out; rw [Nat.zero_add, List.nil_append] at h; exact h⟩
     case measure => simp [intOf]
    ·have c1 : wr.cell? ⟨g, 1, none⟩ = some (.slice bo nb bc) := (HR.out.below HI.out.2).cell 1
     have H0 : Hid (Own w wr 43 5 u6 na (ta.flatMap twc)) := HI.out
     have HB1 := Lib.hid (HB.out.below HI.out.2)
     clear HI
     go_wp2_with (at_builtin; refine wpList_apps w _ rfl _ _ 30 43 rfl elemTwR _ na _ rfl H0.out bo nb bc (tb.flatMap twc) rfl HB1.out HO2.out HL2.out.1 HL2.out.2 ?_; intro v' w3 hO1; have HN := Lib.hid hO1; clear hO1)
     go_roundw
     case rel => exact ⟨2, by omega, rfl, HN.out⟩
     case measure => simp [intOf]
    ·go_wp2_with fail
     go_ret
     obtain ⟨go, gc, rfl, hn⟩ := HT.out _ _ HI.out
     exact ⟨go, gc, rfl, hn⟩
end Go.Proofs.Ytdnkffplkleolaa
namespace Go.Proofs.Ytdnkffplkleolaa
open Go.RowKit Go.ChangeMaps
set_option maxRecDepth 100000
set_option maxHeartbeats 2000000

theorem set4_cell0 {w : World} {g : Nat} {x0 x1 x2 x3 : Value} {a : Addr} {x : Value} (h : w.cell? a = some x) (hk : a.block ≠ g) : ((((w.setCell ⟨g, 0, none⟩ x0).setCell ⟨g, 1, none⟩ x1).setCell ⟨g, 2, none⟩ x2).setCell ⟨g, 3, none⟩ x3).cell? a = some x := by
 have e := (set4_fr w g x0 x1 x2 x3).block a.block (World.block_lt_of_cell? _ _ h) hk
 unfold set4 at e
 generalize (((w.setCell ⟨g, 0, none⟩ x0).setCell ⟨g, 1, none⟩ x1).setCell ⟨g, 2, none⟩ x2).setCell ⟨g, 3, none⟩ x3 = w' at e ⊢
 exact (World.cell?_of_block (a := a) e).trans h
theorem pthen_lt (w : World) (a b : Rs) (ao bo : Option Addr) (ac bc : Nat) (ha : Sv w ao a.tree.length ac 5 (a.tree.flatMap twc)) (hb : Sv w bo b.tree.length bc 5 (b.tree.flatMap twc)) (hla : a.tree.length ≤ 100000000) (hlb : b.tree.length ≤ 100000000) (hm : a.far < b.far) :
  Calls Try.prog 96 #[gtv a ao ac, gtv b bo bc] w fun e w' => ∃ go gc, e = .returned (gtv (beR a b) go gc) ∧ NewT w w' go gc (beR a b).tree := by
 obtain ⟨ai, ae, af, ta, ar⟩ := a
 obtain ⟨bi, be, bf, tb, br⟩ := b
 simp only [] at ha hb hla hlb hm
 simp only [gtv, gcs, beR]
 have HCo := Lib.hid (fun (w' : World) (g : Nat) (hw : Below w.heap.size w w') (hr : hrow w' g #[.slice ao ta.length ac, .slice bo tb.length bc] 30) => concat_any w' g ao bo ac bc ta tb hr (ha.below hw) (hb.below hw) hla hlb)
 have hmx : max af bf = bf := by omega
 have hif : (if af < bf then bf else af) = bf := by split <;> omega
 rw [hmx]
 clear hmx ha hb
 generalize (ta ++ tb).length = nab at *
 generalize ta.length = na at *
 generalize tb.length = nb at *
 have HX := Lib.hid (al3 w (.cells #[.bool ai, .int .i64 ae, .int .i64 af, .slice ao na ac] 100) (.cells #[.bool bi, .int .i64 be, .int .i64 bf, .slice bo nb bc] 100) (.cells #[.bool false, .int .i64 0, .int .i64 0, .slice none 0 0] 100))
 go_enter Try.func96, Try.ntmps96
 go_upto_region 1 with (fail)
 revert HX
 generalize ((w.alloc _).alloc _).alloc _ = wa
 generalize hg : w.heap.size = g
 intro HX
 obtain ⟨x1, x2, x3, x4⟩ := HX.out
 have HG := Lib.hid hg
 have HB := Lib.hid (show Below w.heap.size w wa from hg ▸ x1)
 have H1 := Lib.hid (show hrow wa g _ _ from x2)
 have H2 := Lib.hid (show hrow wa (g + 1) _ _ from x3)
 have H3 := Lib.hid (show hrow wa (g + 1 + 1) _ _ from x4)
 clear x1 x2 x3 x4 HX hg
 obtain ⟨a0, a1, a2, a3⟩ := (H1.out).c4
 obtain ⟨b0, b1, b2, b3⟩ := (H2.out).c4
 have HD := Lib.hid ((Below.refl wa.heap.size wa).drew)
 have HBe : Hid (Below w.heap.size w (wa.drew.alloc (.cells #[.slice ao na ac, .slice bo nb bc] 30))) := HB.out.trans ((HD.out.alloc HD.out.size _).mono HB.out.size)
 have HBl : Hid (Below wa.heap.size wa (wa.drew.alloc (.cells #[.slice ao na ac, .slice bo nb bc] 30))) := HD.out.alloc HD.out.size _
 have HCc := Lib.hid (HCo.out (wa.drew.alloc (.cells #[.slice ao na ac, .slice bo nb bc] 30)) wa.heap.size HBe.out (hrow.new wa.drew _ _))
 have H3e := Lib.hid (H3.out.below HBl.out)
 have HS : Hid (∀ w', Below wa.heap.size wa w' → w'.cell? ⟨g + 1, 1, none⟩ = some (.int .i64 be) ∧ w'.cell? ⟨g, 2, none⟩ = some (.int .i64 af) ∧ w'.cell? ⟨g + 1, 2, none⟩ = some (.int .i64 bf) ∧ w'.cell? ⟨g, 3, none⟩ = some (.slice ao na ac) ∧ w'.cell? ⟨g + 1, 3, none⟩ = some (.slice bo nb bc)) := fun w' hb => ⟨(H2.out.below hb).cell 1, (H1.out.below hb).cell 2, (H2.out.below hb).cell 2, (H1.out.below hb).cell 3, (H2.out.below hb).cell 3⟩
 have hn1 : g ≠ g + 1 + 1 := by omega
 have hn2 : g + 1 ≠ g + 1 + 1 := by omega
 go_region_held3 (fun w' => w'.cell? ⟨g + 1, 1, none⟩ = some (.int .i64 be) ∧ w'.cell? ⟨g, 2, none⟩ = some (.int .i64 af) ∧ w'.cell? ⟨g + 1, 2, none⟩ = some (.int .i64 bf) ∧ w'.cell? ⟨g, 3, none⟩ = some (.slice ao na ac) ∧ w'.cell? ⟨g + 1, 3, none⟩ = some (.slice bo nb bc))
  (first | (with_reducible exact ⟨set4_cell0 K1.out hn2, set4_cell0 K2.out hn1, set4_cell0 K3.out hn2, set4_cell0 K4.out hn1, set4_cell0 K5.out hn2⟩) | (with_reducible exact ⟨K1.out, K2.out, K3.out, K4.out, K5.out⟩) | (with_reducible exact HS.out _ HBl.out) | go_keep)
  ((go_at_call 99; refine (HCc.out).mono ?_; rintro e w6 ⟨go, gc, rfl, hn⟩; have HN := Lib.hid hn; have HR6 := Lib.hid (H3e.out.below hn.1); have HB6 : Hid (Below w.heap.size w w6) := HBe.out.trans (hn.1.mono HBe.out.size); have HS6 : Hid (w.heap.size ≤ (wa.drew.alloc (.cells #[.slice ao na ac, .slice bo nb bc] 30)).heap.size) := HBe.out.size; have hk := HS.out w6 (HBl.out.trans (hn.1.mono HBl.out.size)); have K1 := Lib.hid hk.1; have K2 := Lib.hid hk.2.1; have K3 := Lib.hid hk.2.2.1; have K4 := Lib.hid hk.2.2.2.1; have K5 := Lib.hid hk.2.2.2.2; clear hn hk; obtain ⟨zq0, zq1, zq2, zq3⟩ := (HR6.out).c4; obtain ⟨zf0, zf1, zf2⟩ := (HR6.out).f3; have zf3 := (HR6.out).frozen 3))
 all_goals
  have zr4 := set4_row (.bool true) (.int .i64 be) (.int .i64 bf) (.slice go nab gc) (HR6.out)
  have zf4 := set4_fr w6 (g + 1 + 1) (.bool true) (.int .i64 be) (.int .i64 bf) (.slice go nab gc)
  unfold set4 at zr4 zf4
  have ZR4 := Lib.hid zr4
  have ZF4 := Lib.hid zf4
  clear zr4 zf4
  revert ZR4 ZF4
  generalize (((w6.setCell _ _).setCell _ _).setCell _ _).setCell _ _ = wz
  intro ZR4 ZF4
  obtain ⟨zc0, zc1, zc2, zc3⟩ := (ZR4.out).c4
  go_wp2_with fail
  exact bodyPost_ret (v := .agg #[.bool true, .int .i64 be, .int .i64 bf, .slice go nab gc]) (by simp [results, Try.results96, go_sem, zc0, zc1, zc2, zc3]) rfl (⟨go, gc, rfl, by
   have hlt := HR6.out.lt
   refine ⟨below_box HB6.out ZF4.out (by have := HG.out; omega) (Nat.le_refl _), HN.out.2.1.fr ZF4.out (fun x hx _ e => ?_), fun x hx => ?_⟩
   ·obtain ⟨_, cs, hr⟩ := HN.out.2.2 x hx
    have e' : x.block = g + 1 + 1 := e
    rw [e'] at hr
    exact row_ne hr HR6.out (by decide) rfl
   ·obtain ⟨h1, cs, hr⟩ := HN.out.2.2 x hx
    refine ⟨by have := HG.out; have := HS6.out; omega, cs, hr.fr ZF4.out (fun e => ?_)⟩
    have e' : x.block = g + 1 + 1 := e
    rw [e'] at hr
    exact row_ne hr HR6.out (by decide) rfl⟩)
theorem pthen_ge (w : World) (a b : Rs) (ao bo : Option Addr) (ac bc : Nat) (ha : Sv w ao a.tree.length ac 5 (a.tree.flatMap twc)) (hb : Sv w bo b.tree.length bc 5 (b.tree.flatMap twc)) (hla : a.tree.length ≤ 100000000) (hlb : b.tree.length ≤ 100000000) (hm : b.far ≤ a.far) :
  Calls Try.prog 96 #[gtv a ao ac, gtv b bo bc] w fun e w' => ∃ go gc, e = .returned (gtv (beR a b) go gc) ∧ NewT w w' go gc (beR a b).tree := by
 obtain ⟨ai, ae, af, ta, ar⟩ := a
 obtain ⟨bi, be, bf, tb, br⟩ := b
 simp only [] at ha hb hla hlb hm
 simp only [gtv, gcs, beR]
 have HCo := Lib.hid (fun (w' : World) (g : Nat) (hw : Below w.heap.size w w') (hr : hrow w' g #[.slice ao ta.length ac, .slice bo tb.length bc] 30) => concat_any w' g ao bo ac bc ta tb hr (ha.below hw) (hb.below hw) hla hlb)
 have hmx : max af bf = af := by omega
 have hif : (if af < bf then bf else af) = af := by split <;> omega
 rw [hmx]
 clear hmx ha hb
 generalize (ta ++ tb).length = nab at *
 generalize ta.length = na at *
 generalize tb.length = nb at *
 have HX := Lib.hid (al3 w (.cells #[.bool ai, .int .i64 ae, .int .i64 af, .slice ao na ac] 100) (.cells #[.bool bi, .int .i64 be, .int .i64 bf, .slice bo nb bc] 100) (.cells #[.bool false, .int .i64 0, .int .i64 0, .slice none 0 0] 100))
 go_enter Try.func96, Try.ntmps96
 go_upto_region 1 with (fail)
 revert HX
 generalize ((w.alloc _).alloc _).alloc _ = wa
 generalize hg : w.heap.size = g
 intro HX
 obtain ⟨x1, x2, x3, x4⟩ := HX.out
 have HG := Lib.hid hg
 have HB := Lib.hid (show Below w.heap.size w wa from hg ▸ x1)
 have H1 := Lib.hid (show hrow wa g _ _ from x2)
 have H2 := Lib.hid (show hrow wa (g + 1) _ _ from x3)
 have H3 := Lib.hid (show hrow wa (g + 1 + 1) _ _ from x4)
 clear x1 x2 x3 x4 HX hg
 obtain ⟨a0, a1, a2, a3⟩ := (H1.out).c4
 obtain ⟨b0, b1, b2, b3⟩ := (H2.out).c4
 have HD := Lib.hid ((Below.refl wa.heap.size wa).drew)
 have HBe : Hid (Below w.heap.size w (wa.drew.alloc (.cells #[.slice ao na ac, .slice bo nb bc] 30))) := HB.out.trans ((HD.out.alloc HD.out.size _).mono HB.out.size)
 have HBl : Hid (Below wa.heap.size wa (wa.drew.alloc (.cells #[.slice ao na ac, .slice bo nb bc] 30))) := HD.out.alloc HD.out.size _
 have HCc := Lib.hid (HCo.out (wa.drew.alloc (.cells #[.slice ao na ac, .slice bo nb bc] 30)) wa.heap.size HBe.out (hrow.new wa.drew _ _))
 have H3e := Lib.hid (H3.out.below HBl.out)
 have HS : Hid (∀ w', Below wa.heap.size wa w' → w'.cell? ⟨g + 1, 1, none⟩ = some (.int .i64 be) ∧ w'.cell? ⟨g, 2, none⟩ = some (.int .i64 af) ∧ w'.cell? ⟨g + 1, 2, none⟩ = some (.int .i64 bf) ∧ w'.cell? ⟨g, 3, none⟩ = some (.slice ao na ac) ∧ w'.cell? ⟨g + 1, 3, none⟩ = some (.slice bo nb bc)) := fun w' hb => ⟨(H2.out.below hb).cell 1, (H1.out.below hb).cell 2, (H2.out.below hb).cell 2, (H1.out.below hb).cell 3, (H2.out.below hb).cell 3⟩
 have hn1 : g ≠ g + 1 + 1 := by omega
 have hn2 : g + 1 ≠ g + 1 + 1 := by omega
 go_region_held3 (fun w' => w'.cell? ⟨g + 1, 1, none⟩ = some (.int .i64 be) ∧ w'.cell? ⟨g, 2, none⟩ = some (.int .i64 af) ∧ w'.cell? ⟨g + 1, 2, none⟩ = some (.int .i64 bf) ∧ w'.cell? ⟨g, 3, none⟩ = some (.slice ao na ac) ∧ w'.cell? ⟨g + 1, 3, none⟩ = some (.slice bo nb bc))
  (first | (with_reducible exact ⟨set4_cell0 K1.out hn2, set4_cell0 K2.out hn1, set4_cell0 K3.out hn2, set4_cell0 K4.out hn1, set4_cell0 K5.out hn2⟩) | (with_reducible exact ⟨K1.out, K2.out, K3.out, K4.out, K5.out⟩) | (with_reducible exact HS.out _ HBl.out) | go_keep)
  ((go_at_call 99; refine (HCc.out).mono ?_; rintro e w6 ⟨go, gc, rfl, hn⟩; have HN := Lib.hid hn; have HR6 := Lib.hid (H3e.out.below hn.1); have HB6 : Hid (Below w.heap.size w w6) := HBe.out.trans (hn.1.mono HBe.out.size); have HS6 : Hid (w.heap.size ≤ (wa.drew.alloc (.cells #[.slice ao na ac, .slice bo nb bc] 30)).heap.size) := HBe.out.size; have hk := HS.out w6 (HBl.out.trans (hn.1.mono HBl.out.size)); have K1 := Lib.hid hk.1; have K2 := Lib.hid hk.2.1; have K3 := Lib.hid hk.2.2.1; have K4 := Lib.hid hk.2.2.2.1; have K5 := Lib.hid hk.2.2.2.2; clear hn hk; obtain ⟨zq0, zq1, zq2, zq3⟩ := (HR6.out).c4; obtain ⟨zf0, zf1, zf2⟩ := (HR6.out).f3; have zf3 := (HR6.out).frozen 3))
 all_goals
  have zr4 := set4_row (.bool true) (.int .i64 be) (.int .i64 af) (.slice go nab gc) (HR6.out)
  have zf4 := set4_fr w6 (g + 1 + 1) (.bool true) (.int .i64 be) (.int .i64 af) (.slice go nab gc)
  unfold set4 at zr4 zf4
  have ZR4 := Lib.hid zr4
  have ZF4 := Lib.hid zf4
  clear zr4 zf4
  revert ZR4 ZF4
  generalize (((w6.setCell _ _).setCell _ _).setCell _ _).setCell _ _ = wz
  intro ZR4 ZF4
  obtain ⟨zc0, zc1, zc2, zc3⟩ := (ZR4.out).c4
  go_wp2_with fail
  exact bodyPost_ret (v := .agg #[.bool true, .int .i64 be, .int .i64 af, .slice go nab gc]) (by simp [results, Try.results96, go_sem, zc0, zc1, zc2, zc3]) rfl (⟨go, gc, rfl, by
   have hlt := HR6.out.lt
   refine ⟨below_box HB6.out ZF4.out (by have := HG.out; omega) (Nat.le_refl _), HN.out.2.1.fr ZF4.out (fun x hx _ e => ?_), fun x hx => ?_⟩
   ·obtain ⟨_, cs, hr⟩ := HN.out.2.2 x hx
    have e' : x.block = g + 1 + 1 := e
    rw [e'] at hr
    exact row_ne hr HR6.out (by decide) rfl
   ·obtain ⟨h1, cs, hr⟩ := HN.out.2.2 x hx
    refine ⟨by have := HG.out; have := HS6.out; omega, cs, hr.fr ZF4.out (fun e => ?_)⟩
    have e' : x.block = g + 1 + 1 := e
    rw [e'] at hr
    exact row_ne hr HR6.out (by decide) rfl⟩)
theorem pthen_any (w : World) (a b : Rs) (ao bo : Option Addr) (ac bc : Nat) (ha : Sv w ao a.tree.length ac 5 (a.tree.flatMap twc)) (hb : Sv w bo b.tree.length bc 5 (b.tree.flatMap twc)) (hla : a.tree.length ≤ 100000000) (hlb : b.tree.length ≤ 100000000) :
  Calls Try.prog 96 #[gtv a ao ac, gtv b bo bc] w fun e w' => ∃ go gc, e = .returned (gtv (beR a b) go gc) ∧ NewT w w' go gc (beR a b).tree := by
 by_cases hm : a.far < b.far
 ·exact pthen_lt w a b ao bo ac bc ha hb hla hlb hm
 ·exact pthen_ge w a b ao bo ac bc ha hb hla hlb (by omega)
end Go.Proofs.Ytdnkffplkleolaa
namespace Go.Proofs.Ytdnkffplkleolaa
open Go.RowKit Go.ChangeMaps
set_option maxRecDepth 100000
set_option maxHeartbeats 2000000

theorem pbyte1 (K : Env) (hK : EnvOk K) (m : Nat) (w : World) (s : St) (es : Array MapEntry) (clock : Nat) (KS : List (Ce × (Option Addr × Nat))) (p : Nat) (x : Nd) (ko : Option Addr) (kc : Nat)
  (h : TW K m w s es clock KS) (hp : p ≤ K.W.length) :
  Calls Try.prog 85 #[.pointer (some ⟨K.g, 0, none⟩), .agg #[.int .i64 1, .int .u64 x.c0, .int .u64 x.c1, .int .u64 x.c2, .int .u64 x.c3, .string x.text, .int .i64 x.rule, .int .i64 x.lev, .slice ko x.kids.length kc], .int .i64 p] w (fun e w' => e = .returned (gtv (toR p) none 0) ∧ Below w.heap.size w w') := by
 have H := Lib.hid h
 have HP := Lib.hid hp
 have hpb : p ≤ 2048 := by have := hK.w2; have := hK.wl; omega
 have hwl := hK.wl
 have hwb := hK.inp.bound
 have hww := hK.w2
 obtain ⟨HB0, HX0, HZ0⟩ := box2 w #[.int .i64 1, .int .u64 x.c0, .int .u64 x.c1, .int .u64 x.c2, .int .u64 x.c3, .string x.text, .int .i64 x.rule, .int .i64 x.lev, .slice ko x.kids.length kc] #[.bool false, .int .i64 0, .int .i64 0, .slice none 0 0] 57 100
 have H1 := Lib.hid (h.below HB0.out)
 have HLo : Hid (K.base.heap.size ≤ w.heap.size) := h.low.size
 clear h hp
 go_enter Try.func85, Try.ntmps85
 go_upto_region 1 with (fail)
 revert HB0 HX0 HZ0 H1
 generalize (w.alloc _).alloc _ = w1
 generalize hh0 : w.heap.size + 1 = h0
 generalize hhx : w.heap.size = hx
 intro HB0 HX0 HZ0 H1
 have HH0 : Hid (w.heap.size = hx ∧ hx + 1 = h0) := ⟨hhx, by omega⟩
 have HB1 : Hid (Below w.heap.size w w1) := by rw [hhx]; exact HB0.out
 clear HB0 hh0 hhx
 obtain ⟨x0, x1, x2, x3, x4, x5, x6, x7, x8⟩ := (HX0.out).c9
 go_wp2_with fail
 refine (pto_any w1 p).mono ?_
 rintro e w6 ⟨rfl, hb6⟩
 simp only [gtv, gcs, toR, List.length_nil]
 have HZ6 := Lib.hid (HZ0.out.below hb6)
 have HB6 := Lib.hid (HB1.out.trans (hb6.mono HB1.out.size))
 clear hb6
 obtain ⟨zq0, zq1, zq2, zq3⟩ := (HZ6.out).c4
 obtain ⟨zf0, zf1, zf2, zf3⟩ := (HZ6.out).f4
 obtain ⟨ZR4, ZF4⟩ := set4_box (.bool true) (.int .i64 p) (.int .i64 (-1)) (.slice none 0 0) (HZ6.out)
 go_wp2_with fail
 revert ZR4 ZF4
 generalize (((w6.setCell _ _).setCell _ _).setCell _ _).setCell _ _ = wz
 intro ZR4 ZF4
 obtain ⟨zc0, zc1, zc2, zc3⟩ := (ZR4.out).c4
 exact bodyPost_ret (v := .agg #[.bool true, .int .i64 p, .int .i64 (-1), .slice none 0 0]) (by simp [results, Try.results85, go_sem, zc0, zc1, zc2, zc3]) rfl (⟨rfl, below_box HB6.out ZF4.out (by have := HH0.out; omega) (Nat.le_refl _)⟩)
theorem pbyte2y (K : Env) (hK : EnvOk K) (m : Nat) (w : World) (s : St) (es : Array MapEntry) (clock : Nat) (KS : List (Ce × (Option Addr × Nat))) (p : Nat) (x : Nd) (ko : Option Addr) (kc : Nat)
  (h : TW K m w s es clock KS) (hp : p ≤ K.W.length) (hpl : p < K.W.length) :
  Calls Try.prog 85 #[.pointer (some ⟨K.g, 0, none⟩), .agg #[.int .i64 2, .int .u64 x.c0, .int .u64 x.c1, .int .u64 x.c2, .int .u64 x.c3, .string x.text, .int .i64 x.rule, .int .i64 x.lev, .slice ko x.kids.length kc], .int .i64 p] w (fun e w' => e = .returned (gtv (toR (p + 1)) none 0) ∧ Below w.heap.size w w') := by
 have H := Lib.hid h
 have HP := Lib.hid hp
 have hpb : p ≤ 2048 := by have := hK.w2; have := hK.wl; omega
 have hwl := hK.wl
 have hwb := hK.inp.bound
 have hww := hK.w2
 obtain ⟨HB0, HX0, HZ0⟩ := box2 w #[.int .i64 2, .int .u64 x.c0, .int .u64 x.c1, .int .u64 x.c2, .int .u64 x.c3, .string x.text, .int .i64 x.rule, .int .i64 x.lev, .slice ko x.kids.length kc] #[.bool false, .int .i64 0, .int .i64 0, .slice none 0 0] 57 100
 have H1 := Lib.hid (h.below HB0.out)
 have HLo : Hid (K.base.heap.size ≤ w.heap.size) := h.low.size
 clear h hp
 go_enter Try.func85, Try.ntmps85
 go_upto_region 1 with (fail)
 revert HB0 HX0 HZ0 H1
 generalize (w.alloc _).alloc _ = w1
 generalize hh0 : w.heap.size + 1 = h0
 generalize hhx : w.heap.size = hx
 intro HB0 HX0 HZ0 H1
 have HH0 : Hid (w.heap.size = hx ∧ hx + 1 = h0) := ⟨hhx, by omega⟩
 have HB1 : Hid (Below w.heap.size w w1) := by rw [hhx]; exact HB0.out
 clear HB0 hh0 hhx
 obtain ⟨x0, x1, x2, x3, x4, x5, x6, x7, x8⟩ := (HX0.out).c9
 have p4 : w1.cell? ⟨K.g, 4, none⟩ = some (.slice K.wo K.wn K.wc) := H1.out.obj.cell 4
 have hwn : (p : Int) < K.wn := by omega
 have hp0 : (0 : Int) ≤ p := by omega
 go_upto_region 3 with (fail)
 go_quiet (fail)
 have HD := below_drewN (Below.refl w1.heap.size w1) nq
 have HB5 := Lib.hid (HB1.out.trans (HD.mono HB1.out.size))
 have HZ5 := Lib.hid (HZ0.out.below HD)
 clear HD x0 x1 x2 x3 x4 x5 x6 x7 x8 p4 H1 HX0 HZ0 HB1
 revert HB5 HZ5
 generalize w1.drewN nq = w5
 intro HB5 HZ5
 go_wp2_with fail
 refine (pto_any w5 (p + 1)).mono ?_
 rintro e w6 ⟨rfl, hb6⟩
 simp only [gtv, gcs, toR, List.length_nil]
 have HZ6 := Lib.hid (HZ5.out.below hb6)
 have HB6 := Lib.hid (HB5.out.trans (hb6.mono HB5.out.size))
 clear hb6
 obtain ⟨zq0, zq1, zq2, zq3⟩ := (HZ6.out).c4
 obtain ⟨zf0, zf1, zf2, zf3⟩ := (HZ6.out).f4
 obtain ⟨ZR4, ZF4⟩ := set4_box (.bool true) (.int .i64 (p + 1)) (.int .i64 (-1)) (.slice none 0 0) (HZ6.out)
 go_wp2_with fail
 revert ZR4 ZF4
 generalize (((w6.setCell _ _).setCell _ _).setCell _ _).setCell _ _ = wz
 intro ZR4 ZF4
 obtain ⟨zc0, zc1, zc2, zc3⟩ := (ZR4.out).c4
 exact bodyPost_ret (v := .agg #[.bool true, .int .i64 (p + 1), .int .i64 (-1), .slice none 0 0]) (by simp [results, Try.results85, go_sem, zc0, zc1, zc2, zc3]) rfl (⟨rfl, below_box HB6.out ZF4.out (by have := HH0.out; omega) (Nat.le_refl _)⟩)
theorem pbyte2n (K : Env) (hK : EnvOk K) (m : Nat) (w : World) (s : St) (es : Array MapEntry) (clock : Nat) (KS : List (Ce × (Option Addr × Nat))) (p : Nat) (x : Nd) (ko : Option Addr) (kc : Nat)
  (h : TW K m w s es clock KS) (hp : p ≤ K.W.length) (hpl : K.W.length ≤ p) :
  Calls Try.prog 85 #[.pointer (some ⟨K.g, 0, none⟩), .agg #[.int .i64 2, .int .u64 x.c0, .int .u64 x.c1, .int .u64 x.c2, .int .u64 x.c3, .string x.text, .int .i64 x.rule, .int .i64 x.lev, .slice ko x.kids.length kc], .int .i64 p] w (fun e w' => e = .returned (gtv (failR p) none 0) ∧ Below w.heap.size w w') := by
 have H := Lib.hid h
 have HP := Lib.hid hp
 have hpb : p ≤ 2048 := by have := hK.w2; have := hK.wl; omega
 have hwl := hK.wl
 have hwb := hK.inp.bound
 have hww := hK.w2
 obtain ⟨HB0, HX0, HZ0⟩ := box2 w #[.int .i64 2, .int .u64 x.c0, .int .u64 x.c1, .int .u64 x.c2, .int .u64 x.c3, .string x.text, .int .i64 x.rule, .int .i64 x.lev, .slice ko x.kids.length kc] #[.bool false, .int .i64 0, .int .i64 0, .slice none 0 0] 57 100
 have H1 := Lib.hid (h.below HB0.out)
 have HLo : Hid (K.base.heap.size ≤ w.heap.size) := h.low.size
 clear h hp
 go_enter Try.func85, Try.ntmps85
 go_upto_region 1 with (fail)
 revert HB0 HX0 HZ0 H1
 generalize (w.alloc _).alloc _ = w1
 generalize hh0 : w.heap.size + 1 = h0
 generalize hhx : w.heap.size = hx
 intro HB0 HX0 HZ0 H1
 have HH0 : Hid (w.heap.size = hx ∧ hx + 1 = h0) := ⟨hhx, by omega⟩
 have HB1 : Hid (Below w.heap.size w w1) := by rw [hhx]; exact HB0.out
 clear HB0 hh0 hhx
 obtain ⟨x0, x1, x2, x3, x4, x5, x6, x7, x8⟩ := (HX0.out).c9
 have p4 : w1.cell? ⟨K.g, 4, none⟩ = some (.slice K.wo K.wn K.wc) := H1.out.obj.cell 4
 have hwn : (K.wn : Int) ≤ p := by omega
 have hwd : decide ((p : Int) < (K.wn : Int)) = false := by simp; omega
 have hwd2 : decide (p < K.wn) = false := by simp; omega
 go_upto_region 3 with (fail)
 go_quiet (fail)
 have HD := below_drewN (Below.refl w1.heap.size w1) nq
 have HB5 := Lib.hid (HB1.out.trans (HD.mono HB1.out.size))
 have HZ5 := Lib.hid (HZ0.out.below HD)
 clear HD x0 x1 x2 x3 x4 x5 x6 x7 x8 p4 H1 HX0 HZ0 HB1
 revert HB5 HZ5
 generalize w1.drewN nq = w5
 intro HB5 HZ5
 go_wp2_with fail
 refine (pmiss_any w5 p).mono ?_
 rintro e w6 ⟨rfl, hb6⟩
 simp only [gtv, gcs, failR, List.length_nil]
 have HZ6 := Lib.hid (HZ5.out.below hb6)
 have HB6 := Lib.hid (HB5.out.trans (hb6.mono HB5.out.size))
 clear hb6
 obtain ⟨zq0, zq1, zq2, zq3⟩ := (HZ6.out).c4
 obtain ⟨zf0, zf1, zf2, zf3⟩ := (HZ6.out).f4
 obtain ⟨ZR4, ZF4⟩ := set4_box (.bool false) (.int .i64 0) (.int .i64 p) (.slice none 0 0) (HZ6.out)
 go_wp2_with fail
 revert ZR4 ZF4
 generalize (((w6.setCell _ _).setCell _ _).setCell _ _).setCell _ _ = wz
 intro ZR4 ZF4
 obtain ⟨zc0, zc1, zc2, zc3⟩ := (ZR4.out).c4
 exact bodyPost_ret (v := .agg #[.bool false, .int .i64 0, .int .i64 p, .slice none 0 0]) (by simp [results, Try.results85, go_sem, zc0, zc1, zc2, zc3]) rfl (⟨rfl, below_box HB6.out ZF4.out (by have := HH0.out; omega) (Nat.le_refl _)⟩)
theorem pbyte3e (K : Env) (hK : EnvOk K) (m : Nat) (w : World) (s : St) (es : Array MapEntry) (clock : Nat) (KS : List (Ce × (Option Addr × Nat))) (p : Nat) (x : Nd) (ko : Option Addr) (kc : Nat)
  (h : TW K m w s es clock KS) (hp : p ≤ K.W.length) (hpl : K.W.length ≤ p) :
  Calls Try.prog 85 #[.pointer (some ⟨K.g, 0, none⟩), .agg #[.int .i64 3, .int .u64 x.c0, .int .u64 x.c1, .int .u64 x.c2, .int .u64 x.c3, .string x.text, .int .i64 x.rule, .int .i64 x.lev, .slice ko x.kids.length kc], .int .i64 p] w (fun e w' => e = .returned (gtv (failR p) none 0) ∧ Below w.heap.size w w') := by
 have H := Lib.hid h
 have HP := Lib.hid hp
 have hpb : p ≤ 2048 := by have := hK.w2; have := hK.wl; omega
 have hwl := hK.wl
 have hwb := hK.inp.bound
 have hww := hK.w2
 obtain ⟨HB0, HX0, HZ0⟩ := box2 w #[.int .i64 3, .int .u64 x.c0, .int .u64 x.c1, .int .u64 x.c2, .int .u64 x.c3, .string x.text, .int .i64 x.rule, .int .i64 x.lev, .slice ko x.kids.length kc] #[.bool false, .int .i64 0, .int .i64 0, .slice none 0 0] 57 100
 have H1 := Lib.hid (h.below HB0.out)
 have HLo : Hid (K.base.heap.size ≤ w.heap.size) := h.low.size
 clear h hp
 go_enter Try.func85, Try.ntmps85
 go_upto_region 1 with (fail)
 revert HB0 HX0 HZ0 H1
 generalize (w.alloc _).alloc _ = w1
 generalize hh0 : w.heap.size + 1 = h0
 generalize hhx : w.heap.size = hx
 intro HB0 HX0 HZ0 H1
 have HH0 : Hid (w.heap.size = hx ∧ hx + 1 = h0) := ⟨hhx, by omega⟩
 have HB1 : Hid (Below w.heap.size w w1) := by rw [hhx]; exact HB0.out
 clear HB0 hh0 hhx
 obtain ⟨x0, x1, x2, x3, x4, x5, x6, x7, x8⟩ := (HX0.out).c9
 have p4 : w1.cell? ⟨K.g, 4, none⟩ = some (.slice K.wo K.wn K.wc) := H1.out.obj.cell 4
 have hwn : (K.wn : Int) ≤ p := by omega
 have hwd : decide ((p : Int) < (K.wn : Int)) = false := by simp; omega
 have hwd2 : decide (p < K.wn) = false := by simp; omega
 go_upto_region 3 with (fail)
 go_quiet (fail)
 have HD := below_drewN (Below.refl w1.heap.size w1) nq
 have HB5 := Lib.hid (HB1.out.trans (HD.mono HB1.out.size))
 have HZ5 := Lib.hid (HZ0.out.below HD)
 clear HD x0 x1 x2 x3 x4 x5 x6 x7 x8 p4 H1 HX0 HZ0 HB1
 revert HB5 HZ5
 generalize w1.drewN nq = w5
 intro HB5 HZ5
 go_wp2_with fail
 refine (pmiss_any w5 p).mono ?_
 rintro e w6 ⟨rfl, hb6⟩
 simp only [gtv, gcs, failR, List.length_nil]
 have HZ6 := Lib.hid (HZ5.out.below hb6)
 have HB6 := Lib.hid (HB5.out.trans (hb6.mono HB5.out.size))
 clear hb6
 obtain ⟨zq0, zq1, zq2, zq3⟩ := (HZ6.out).c4
 obtain ⟨zf0, zf1, zf2, zf3⟩ := (HZ6.out).f4
 obtain ⟨ZR4, ZF4⟩ := set4_box (.bool false) (.int .i64 0) (.int .i64 p) (.slice none 0 0) (HZ6.out)
 go_wp2_with fail
 revert ZR4 ZF4
 generalize (((w6.setCell _ _).setCell _ _).setCell _ _).setCell _ _ = wz
 intro ZR4 ZF4
 obtain ⟨zc0, zc1, zc2, zc3⟩ := (ZR4.out).c4
 exact bodyPost_ret (v := .agg #[.bool false, .int .i64 0, .int .i64 p, .slice none 0 0]) (by simp [results, Try.results85, go_sem, zc0, zc1, zc2, zc3]) rfl (⟨rfl, below_box HB6.out ZF4.out (by have := HH0.out; omega) (Nat.le_refl _)⟩)
theorem pbyte3y (K : Env) (hK : EnvOk K) (m : Nat) (w : World) (s : St) (es : Array MapEntry) (clock : Nat) (KS : List (Ce × (Option Addr × Nat))) (p : Nat) (x : Nd) (ko : Option Addr) (kc : Nat)
  (h : TW K m w s es clock KS) (hp : p ≤ K.W.length) (b : Nat) (hwp : K.W[p]? = some b) (hbi : inW (wo x) b = true) (hcx : ∀ i, 0 ≤ clsAt x i ∧ clsAt x i < 2 ^ 64) :
  Calls Try.prog 85 #[.pointer (some ⟨K.g, 0, none⟩), .agg #[.int .i64 3, .int .u64 x.c0, .int .u64 x.c1, .int .u64 x.c2, .int .u64 x.c3, .string x.text, .int .i64 x.rule, .int .i64 x.lev, .slice ko x.kids.length kc], .int .i64 p] w (fun e w' => e = .returned (gtv (toR (p + 1)) none 0) ∧ Below w.heap.size w w') := by
 have H := Lib.hid h
 have HP := Lib.hid hp
 have hpb : p ≤ 2048 := by have := hK.w2; have := hK.wl; omega
 have hwl := hK.wl
 have hwb := hK.inp.bound
 have hww := hK.w2
 obtain ⟨HB0, HX0, HZ0⟩ := box2 w #[.int .i64 3, .int .u64 x.c0, .int .u64 x.c1, .int .u64 x.c2, .int .u64 x.c3, .string x.text, .int .i64 x.rule, .int .i64 x.lev, .slice ko x.kids.length kc] #[.bool false, .int .i64 0, .int .i64 0, .slice none 0 0] 57 100
 have H1 := Lib.hid (h.below HB0.out)
 have HLo : Hid (K.base.heap.size ≤ w.heap.size) := h.low.size
 clear h hp
 go_enter Try.func85, Try.ntmps85
 go_upto_region 1 with (fail)
 revert HB0 HX0 HZ0 H1
 generalize (w.alloc _).alloc _ = w1
 generalize hh0 : w.heap.size + 1 = h0
 generalize hhx : w.heap.size = hx
 intro HB0 HX0 HZ0 H1
 have HH0 : Hid (w.heap.size = hx ∧ hx + 1 = h0) := ⟨hhx, by omega⟩
 have HB1 : Hid (Below w.heap.size w w1) := by rw [hhx]; exact HB0.out
 clear HB0 hh0 hhx
 obtain ⟨x0, x1, x2, x3, x4, x5, x6, x7, x8⟩ := (HX0.out).c9
 have hpl := (List.getElem?_eq_some_iff.1 hwp).1
 have p4 : w1.cell? ⟨K.g, 4, none⟩ = some (.slice K.wo K.wn K.wc) := H1.out.obj.cell 4
 have hwn : (p : Int) < K.wn := by omega
 have hp0 : (0 : Int) ≤ p := by omega
 obtain ⟨wa, hwa, hwc⟩ := hK.inp.cell p (by simp [bys]; omega)
 have hwc' : K.base.cell? (wa.add p) = some (.int .u8 b) := by rw [hwc]; simp [bys, hwp]
 have p7 : w1.cell? (wa.add p) = some (.int .u8 b) := (H1.out.low.cell (World.block_lt_of_cell? _ _ hwc')).trans hwc'
 rw [hwa] at p4
 have HBy : Hid (b < 256) := hK.byt b (List.mem_of_getElem? hwp)
 have HWo := Lib.hid (wo_words hcx)
 have hcw := cw_wo hcx
 have HHas : Hid (∀ w', Calls Try.prog 97 #[.agg #[.int .u64 x.c0, .int .u64 x.c1, .int .u64 x.c2, .int .u64 x.c3], .int .u8 b] w' fun r w'' => r = .returned (.bool true) ∧ Below w'.heap.size w' w'') := fun w' => by rw [hcw, ← hbi]; exact hasF_any w' (wo x) HWo.out b HBy.out
 clear hwc hwc' hwa hcw hwp hbi hcx
 go_upto_region 3 with (fail)
 go_still_tail 21, (by kernel_rfl)
 change wpList _ _ _ _ _ w1.drew
 have HD := (Below.refl w1.heap.size w1).drew
 have HB4 := Lib.hid (HB1.out.trans (HD.mono HB1.out.size))
 have HZ4 := Lib.hid (HZ0.out.below HD)
 clear HD x0 x1 x2 x3 x4 x5 x6 x7 x8 p4 p7 H1 HX0 HZ0 HB1
 revert HB4 HZ4
 generalize w1.drew = w4
 intro HB4 HZ4
 go_wp2_with fail
 refine (HHas.out _).mono ?_
 rintro e w5 ⟨rfl, hb5⟩
 have HB5 := Lib.hid (HB4.out.trans (hb5.mono HB4.out.size))
 have HZ5 := Lib.hid (HZ4.out.below hb5)
 clear hb5 HB4 HZ4 HHas
 go_wp2_with fail
 refine (pto_any w5 (p + 1)).mono ?_
 rintro e w6 ⟨rfl, hb6⟩
 simp only [gtv, gcs, toR, List.length_nil]
 have HZ6 := Lib.hid (HZ5.out.below hb6)
 have HB6 := Lib.hid (HB5.out.trans (hb6.mono HB5.out.size))
 clear hb6
 obtain ⟨zq0, zq1, zq2, zq3⟩ := (HZ6.out).c4
 obtain ⟨zf0, zf1, zf2, zf3⟩ := (HZ6.out).f4
 obtain ⟨ZR4, ZF4⟩ := set4_box (.bool true) (.int .i64 (p + 1)) (.int .i64 (-1)) (.slice none 0 0) (HZ6.out)
 go_wp2_with fail
 revert ZR4 ZF4
 generalize (((w6.setCell _ _).setCell _ _).setCell _ _).setCell _ _ = wz
 intro ZR4 ZF4
 obtain ⟨zc0, zc1, zc2, zc3⟩ := (ZR4.out).c4
 exact bodyPost_ret (v := .agg #[.bool true, .int .i64 (p + 1), .int .i64 (-1), .slice none 0 0]) (by simp [results, Try.results85, go_sem, zc0, zc1, zc2, zc3]) rfl (⟨rfl, below_box HB6.out ZF4.out (by have := HH0.out; omega) (Nat.le_refl _)⟩)
theorem pbyte3n (K : Env) (hK : EnvOk K) (m : Nat) (w : World) (s : St) (es : Array MapEntry) (clock : Nat) (KS : List (Ce × (Option Addr × Nat))) (p : Nat) (x : Nd) (ko : Option Addr) (kc : Nat)
  (h : TW K m w s es clock KS) (hp : p ≤ K.W.length) (b : Nat) (hwp : K.W[p]? = some b) (hbi : inW (wo x) b = false) (hcx : ∀ i, 0 ≤ clsAt x i ∧ clsAt x i < 2 ^ 64) :
  Calls Try.prog 85 #[.pointer (some ⟨K.g, 0, none⟩), .agg #[.int .i64 3, .int .u64 x.c0, .int .u64 x.c1, .int .u64 x.c2, .int .u64 x.c3, .string x.text, .int .i64 x.rule, .int .i64 x.lev, .slice ko x.kids.length kc], .int .i64 p] w (fun e w' => e = .returned (gtv (failR p) none 0) ∧ Below w.heap.size w w') := by
 have H := Lib.hid h
 have HP := Lib.hid hp
 have hpb : p ≤ 2048 := by have := hK.w2; have := hK.wl; omega
 have hwl := hK.wl
 have hwb := hK.inp.bound
 have hww := hK.w2
 obtain ⟨HB0, HX0, HZ0⟩ := box2 w #[.int .i64 3, .int .u64 x.c0, .int .u64 x.c1, .int .u64 x.c2, .int .u64 x.c3, .string x.text, .int .i64 x.rule, .int .i64 x.lev, .slice ko x.kids.length kc] #[.bool false, .int .i64 0, .int .i64 0, .slice none 0 0] 57 100
 have H1 := Lib.hid (h.below HB0.out)
 have HLo : Hid (K.base.heap.size ≤ w.heap.size) := h.low.size
 clear h hp
 go_enter Try.func85, Try.ntmps85
 go_upto_region 1 with (fail)
 revert HB0 HX0 HZ0 H1
 generalize (w.alloc _).alloc _ = w1
 generalize hh0 : w.heap.size + 1 = h0
 generalize hhx : w.heap.size = hx
 intro HB0 HX0 HZ0 H1
 have HH0 : Hid (w.heap.size = hx ∧ hx + 1 = h0) := ⟨hhx, by omega⟩
 have HB1 : Hid (Below w.heap.size w w1) := by rw [hhx]; exact HB0.out
 clear HB0 hh0 hhx
 obtain ⟨x0, x1, x2, x3, x4, x5, x6, x7, x8⟩ := (HX0.out).c9
 have hpl := (List.getElem?_eq_some_iff.1 hwp).1
 have p4 : w1.cell? ⟨K.g, 4, none⟩ = some (.slice K.wo K.wn K.wc) := H1.out.obj.cell 4
 have hwn : (p : Int) < K.wn := by omega
 have hp0 : (0 : Int) ≤ p := by omega
 obtain ⟨wa, hwa, hwc⟩ := hK.inp.cell p (by simp [bys]; omega)
 have hwc' : K.base.cell? (wa.add p) = some (.int .u8 b) := by rw [hwc]; simp [bys, hwp]
 have p7 : w1.cell? (wa.add p) = some (.int .u8 b) := (H1.out.low.cell (World.block_lt_of_cell? _ _ hwc')).trans hwc'
 rw [hwa] at p4
 have HBy : Hid (b < 256) := hK.byt b (List.mem_of_getElem? hwp)
 have HWo := Lib.hid (wo_words hcx)
 have hcw := cw_wo hcx
 have HHas : Hid (∀ w', Calls Try.prog 97 #[.agg #[.int .u64 x.c0, .int .u64 x.c1, .int .u64 x.c2, .int .u64 x.c3], .int .u8 b] w' fun r w'' => r = .returned (.bool false) ∧ Below w'.heap.size w' w'') := fun w' => by rw [hcw, ← hbi]; exact hasF_any w' (wo x) HWo.out b HBy.out
 clear hwc hwc' hwa hcw hwp hbi hcx
 go_upto_region 3 with (fail)
 go_still_tail 21, (by kernel_rfl)
 change wpList _ _ _ _ _ w1.drew
 have HD := (Below.refl w1.heap.size w1).drew
 have HB4 := Lib.hid (HB1.out.trans (HD.mono HB1.out.size))
 have HZ4 := Lib.hid (HZ0.out.below HD)
 clear HD x0 x1 x2 x3 x4 x5 x6 x7 x8 p4 p7 H1 HX0 HZ0 HB1
 revert HB4 HZ4
 generalize w1.drew = w4
 intro HB4 HZ4
 go_wp2_with fail
 refine (HHas.out _).mono ?_
 rintro e w5 ⟨rfl, hb5⟩
 have HB5 := Lib.hid (HB4.out.trans (hb5.mono HB4.out.size))
 have HZ5 := Lib.hid (HZ4.out.below hb5)
 clear hb5 HB4 HZ4 HHas
 go_wp2_with fail
 refine (pmiss_any w5 p).mono ?_
 rintro e w6 ⟨rfl, hb6⟩
 simp only [gtv, gcs, failR, List.length_nil]
 have HZ6 := Lib.hid (HZ5.out.below hb6)
 have HB6 := Lib.hid (HB5.out.trans (hb6.mono HB5.out.size))
 clear hb6
 obtain ⟨zq0, zq1, zq2, zq3⟩ := (HZ6.out).c4
 obtain ⟨zf0, zf1, zf2, zf3⟩ := (HZ6.out).f4
 obtain ⟨ZR4, ZF4⟩ := set4_box (.bool false) (.int .i64 0) (.int .i64 p) (.slice none 0 0) (HZ6.out)
 go_wp2_with fail
 revert ZR4 ZF4
 generalize (((w6.setCell _ _).setCell _ _).setCell _ _).setCell _ _ = wz
 intro ZR4 ZF4
 obtain ⟨zc0, zc1, zc2, zc3⟩ := (ZR4.out).c4
 exact bodyPost_ret (v := .agg #[.bool false, .int .i64 0, .int .i64 p, .slice none 0 0]) (by simp [results, Try.results85, go_sem, zc0, zc1, zc2, zc3]) rfl (⟨rfl, below_box HB6.out ZF4.out (by have := HH0.out; omega) (Nat.le_refl _)⟩)
end Go.Proofs.Ytdnkffplkleolaa
