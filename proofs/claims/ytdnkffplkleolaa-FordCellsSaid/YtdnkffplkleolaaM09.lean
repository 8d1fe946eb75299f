/- Walks and plain laws: Rb Rc Rf. -/
import Derived.Test.YtdnkffplkleolaaM03
import Derived.Test.YtdnkffplkleolaaM01
import Derived.Deep.RegionHeld3
import Derived.Deep.DeepCutAuto
namespace Go.Proofs.Ytdnkffplkleolaa
open Go.RowKit
set_option maxRecDepth 100000
set_option maxHeartbeats 4000000

theorem elemTwR : Elem Try.prog 30 43 5 40 (.agg #[.int .i64 0, .int .i64 0, .int .i64 0, .int .i64 0, .int .i64 0]) := ⟨by kernel_rfl, by kernel_rfl, by decide, by decide⟩

/-- A tree in cells that are new since a world. -/
def NewT (w w' : World) (ao : Option Addr) (cap : Nat) (t : List Tw) : Prop :=
 Below w.heap.size w w' ∧ Sv w' ao t.length cap 5 (t.flatMap twc) ∧ ∀ x, ao = some x → w.heap.size ≤ x.block ∧ ∃ cs, hrow w' x.block cs 43
theorem NewT.of {w w' : World} {v : Value} {n : Nat} {t : List Tw} (hn : n = t.length) (h : Own w w' 43 5 v n (t.flatMap twc)) : ∃ ao cap, v = .slice ao t.length cap ∧ NewT w w' ao cap t := by
 subst hn
 rcases h.1.2 with ⟨hv, hn⟩ | ⟨g, cap, cur, hv, hg, hh, _⟩
 ·obtain ⟨ao, cap, hv', hs⟩ := h.sv
  rw [hv] at hv'
  simp only [Value.slice.injEq] at hv'
  obtain ⟨rfl, h1, rfl⟩ := hv'
  exact ⟨none, 0, by rw [hv, ← h1], h.2, hs, fun _ hx => nomatch hx⟩
 ·obtain ⟨ao, cap', hv', hs⟩ := h.sv
  rw [hv] at hv'
  cases hv'
  refine ⟨_, cap, hv, h.2, hs, fun x hx => ?_⟩
  cases hx
  exact ⟨hg, _, hh⟩
theorem NewT.trw {w w' : World} {ao : Option Addr} {cap : Nat} {t : List Tw} (h : NewT w w' ao cap t) : TrW w' ao cap t := ⟨h.2.1, fun a ha _ => (h.2.2 a ha).2⟩

/-- Five cells of a box are written. -/
def set5 (w : World) (g : Nat) (x0 x1 x2 x3 x4 : Value) : World := ((((w.setCell ⟨g, 0, none⟩ x0).setCell ⟨g, 1, none⟩ x1).setCell ⟨g, 2, none⟩ x2).setCell ⟨g, 3, none⟩ x3).setCell ⟨g, 4, none⟩ x4
theorem set5_fr (w : World) (g : Nat) (x0 x1 x2 x3 x4 : Value) : Fr (fun k => k = g) w (set5 w g x0 x1 x2 x3 x4) :=
 ((((Fr.setCell w ⟨g, 0, none⟩ x0).trans (Fr.setCell _ ⟨g, 1, none⟩ x1) (fun _ _ h => h)).trans (Fr.setCell _ ⟨g, 2, none⟩ x2) (fun _ _ h => h)).trans (Fr.setCell _ ⟨g, 3, none⟩ x3) (fun _ _ h => h)).trans (Fr.setCell _ ⟨g, 4, none⟩ x4) (fun _ _ h => h)
theorem set5_cell {w : World} {g : Nat} {x0 x1 x2 x3 x4 : Value} {a : Addr} {x : Value} (h : w.cell? a = some x) (hk : a.block ≠ g) : (((((w.setCell ⟨g, 0, none⟩ x0).setCell ⟨g, 1, none⟩ x1).setCell ⟨g, 2, none⟩ x2).setCell ⟨g, 3, none⟩ x3).setCell ⟨g, 4, none⟩ x4).cell? a = some x := by
 have e := (set5_fr w g x0 x1 x2 x3 x4).block a.block (World.block_lt_of_cell? _ _ h) hk
 unfold set5 at e
 generalize ((((w.setCell ⟨g, 0, none⟩ x0).setCell ⟨g, 1, none⟩ x1).setCell ⟨g, 2, none⟩ x2).setCell ⟨g, 3, none⟩ x3).setCell ⟨g, 4, none⟩ x4 = w' at e ⊢
 exact (World.cell?_of_block (a := a) e).trans h
theorem set5_row {w : World} {g : Nat} {a0 a1 a2 a3 a4 : Value} {t : TypeId} (x0 x1 x2 x3 x4 : Value) (h : hrow w g #[a0, a1, a2, a3, a4] t) : hrow (set5 w g x0 x1 x2 x3 x4) g #[x0, x1, x2, x3, x4] t := by
 have h1 : hrow (w.setCell ⟨g, 0, none⟩ x0) g #[x0, a1, a2, a3, a4] t := heap_setCell_same _ _ _ _ _ _ h.h
 have h2 : hrow ((w.setCell ⟨g, 0, none⟩ x0).setCell ⟨g, 1, none⟩ x1) g #[x0, x1, a2, a3, a4] t := heap_setCell_same _ _ _ _ _ _ h1.h
 have h3 : hrow (((w.setCell ⟨g, 0, none⟩ x0).setCell ⟨g, 1, none⟩ x1).setCell ⟨g, 2, none⟩ x2) g #[x0, x1, x2, a3, a4] t := heap_setCell_same _ _ _ _ _ _ h2.h
 have h4 : hrow ((((w.setCell ⟨g, 0, none⟩ x0).setCell ⟨g, 1, none⟩ x1).setCell ⟨g, 2, none⟩ x2).setCell ⟨g, 3, none⟩ x3) g #[x0, x1, x2, x3, a4] t := heap_setCell_same _ _ _ _ _ _ h3.h
 exact heap_setCell_same _ _ _ _ _ _ h4.h
theorem al3 (w : World) {c1 c2 c3 : Array Value} {t1 t2 t3 : TypeId} (o1 : Obj) (o2 : Obj) (o3 : Obj) (e1 : o1 = .cells c1 t1 := by rfl) (e2 : o2 = .cells c2 t2 := by rfl) (e3 : o3 = .cells c3 t3 := by rfl) :
  Below w.heap.size w (((w.alloc o1).alloc o2).alloc o3) ∧ hrow (((w.alloc o1).alloc o2).alloc o3) w.heap.size c1 t1 ∧ hrow (((w.alloc o1).alloc o2).alloc o3) (w.heap.size + 1) c2 t2 ∧ hrow (((w.alloc o1).alloc o2).alloc o3) (w.heap.size + 1 + 1) c3 t3 := by
 subst e1 e2 e3
 have h1 := hrow.new w c1 t1
 have h2 := hrow.new (w.alloc (.cells c1 t1)) c2 t2
 have h3 := hrow.new ((w.alloc (.cells c1 t1)).alloc (.cells c2 t2)) c3 t3
 have b1 : Below w.heap.size w (w.alloc (.cells c1 t1)) := (Below.refl _ _).alloc (Nat.le_refl _) _
 have b2 : Below (w.alloc (.cells c1 t1)).heap.size (w.alloc (.cells c1 t1)) ((w.alloc (.cells c1 t1)).alloc (.cells c2 t2)) := (Below.refl _ _).alloc (Nat.le_refl _) _
 have b3 : Below ((w.alloc (.cells c1 t1)).alloc (.cells c2 t2)).heap.size ((w.alloc (.cells c1 t1)).alloc (.cells c2 t2)) (((w.alloc (.cells c1 t1)).alloc (.cells c2 t2)).alloc (.cells c3 t3)) := (Below.refl _ _).alloc (Nat.le_refl _) _
 refine ⟨(b1.trans (b2.mono b1.size)).trans (b3.mono (b1.trans (b2.mono b1.size)).size), (h1.below b2).below b3, ?_, ?_⟩
 ·have := h2.below b3
  rw [World.size_alloc] at this
  exact this
 ·rw [World.size_alloc, World.size_alloc] at h3
  exact h3

theorem rbehind_any (w : World) (a b : Rs) (ao bo : Option Addr) (ac bc : Nat) (ha : Sv w ao a.tree.length ac 5 (a.tree.flatMap twc)) (hb : Sv w bo b.tree.length bc 5 (b.tree.flatMap twc))
  (hla : a.tree.length ≤ 100000000) (hlb : b.tree.length ≤ 100000000) (hra : a.roots ≤ 100000000) (hrb : b.roots ≤ 100000000) :
  Calls Try.prog 61 #[rsv a ao ac, rsv b bo bc] w fun e w' => ∃ go gc, e = .returned (rsv (beR a b) go gc) ∧ NewT w w' go gc (beR a b).tree := by
 obtain ⟨ai, ae, af, ta, ar⟩ := a
 obtain ⟨bi, be, bf, tb, br⟩ := b
 simp only [] at ha hb hla hlb hra hrb
 simp only [rsv, rcs, beR]
 have HA := Lib.hid ha
 have HBt := Lib.hid hb
 have HLn : Hid ((0 + ta.length + tb.length) * 40 ≤ 140737488355328 ∧ 0 + ta.length + tb.length ≤ maxLen) := by unfold Hid maxLen; omega
 have HLm : Hid ((0 + ta.length) * 40 ≤ 140737488355328 ∧ 0 + ta.length ≤ maxLen) := by unfold Hid maxLen; omega
 have HO1 := Lib.hid (twc_one ta)
 have HO2 := Lib.hid (twc_one tb)
 have HT : Hid (0 + ta.length + tb.length = (ta ++ tb).length) := by unfold Hid; simp
 have HR : Hid ((ar : Int) + br ≤ 200000000) := by unfold Hid; omega
 clear ha hb hla hlb
 generalize hna : ta.length = na at *
 generalize hnb : tb.length = nb at *
 clear hna hnb
 go_enter Try.func61, Try.ntmps61
 go_upto_region 1 with (fail)
 have HX := Lib.hid (al3 w (.cells #[.bool ai, .int .i64 ae, .int .i64 af, .slice ao na ac, .int .i64 ar] 64) (.cells #[.bool bi, .int .i64 be, .int .i64 bf, .slice bo nb bc, .int .i64 br] 64) (.cells #[.bool false, .int .i64 0, .int .i64 0, .slice none 0 0, .int .i64 0] 64))
 revert HX
 generalize ((w.alloc _).alloc _).alloc _ = wa
 generalize hg : w.heap.size = g
 intro HX
 obtain ⟨x1, x2, x3, x4⟩ := HX.out
 have HB := Lib.hid (hg ▸ x1)
 have H1 := Lib.hid (show hrow wa g _ _ from x2)
 have H2 := Lib.hid (show hrow wa (g + 1) _ _ from x3)
 have H3 := Lib.hid (show hrow wa (g + 1 + 1) _ _ from x4)
 clear x1 x2 x3 x4 HX
 have b0 : wa.cell? ⟨g, 2, none⟩ = some (.int .i64 af) := H1.out.cell 2
 have b1 : wa.cell? ⟨g, 3, none⟩ = some (.slice ao na ac) := H1.out.cell 3
 have b2 : wa.cell? ⟨g, 4, none⟩ = some (.int .i64 ar) := H1.out.cell 4
 have b3 : wa.cell? ⟨g + 1, 1, none⟩ = some (.int .i64 be) := H2.out.cell 1
 have b4 : wa.cell? ⟨g + 1, 2, none⟩ = some (.int .i64 bf) := H2.out.cell 2
 have b5 : wa.cell? ⟨g + 1, 3, none⟩ = some (.slice bo nb bc) := H2.out.cell 3
 have b6 : wa.cell? ⟨g + 1, 4, none⟩ = some (.int .i64 br) := H2.out.cell 4
 have HS : Hid (∀ w', Below wa.heap.size wa w' → w'.cell? ⟨g, 2, none⟩ = some (.int .i64 af) ∧ w'.cell? ⟨g, 3, none⟩ = some (.slice ao na ac) ∧ w'.cell? ⟨g, 4, none⟩ = some (.int .i64 ar) ∧ w'.cell? ⟨g + 1, 1, none⟩ = some (.int .i64 be) ∧ w'.cell? ⟨g + 1, 2, none⟩ = some (.int .i64 bf) ∧ w'.cell? ⟨g + 1, 3, none⟩ = some (.slice bo nb bc) ∧ w'.cell? ⟨g + 1, 4, none⟩ = some (.int .i64 br)) := fun w' hb => ⟨(H1.out.below hb).cell 2, (H1.out.below hb).cell 3, (H1.out.below hb).cell 4, (H2.out.below hb).cell 1, (H2.out.below hb).cell 2, (H2.out.below hb).cell 3, (H2.out.below hb).cell 4⟩
 have ng : g ≠ g + 1 + 1 := by omega
 have ng' : g + 1 ≠ g + 1 + 1 := by omega
 have HS5 : Hid (∀ (w' : World) (x0 x1 x2 x3 x4 : Value), (w'.cell? ⟨g, 2, none⟩ = some (.int .i64 af) ∧ w'.cell? ⟨g, 3, none⟩ = some (.slice ao na ac) ∧ w'.cell? ⟨g, 4, none⟩ = some (.int .i64 ar) ∧ w'.cell? ⟨g + 1, 1, none⟩ = some (.int .i64 be) ∧ w'.cell? ⟨g + 1, 2, none⟩ = some (.int .i64 bf) ∧ w'.cell? ⟨g + 1, 3, none⟩ = some (.slice bo nb bc) ∧ w'.cell? ⟨g + 1, 4, none⟩ = some (.int .i64 br)) → ((((((w'.setCell ⟨g + 1 + 1, 0, none⟩ x0).setCell ⟨g + 1 + 1, 1, none⟩ x1).setCell ⟨g + 1 + 1, 2, none⟩ x2).setCell ⟨g + 1 + 1, 3, none⟩ x3).setCell ⟨g + 1 + 1, 4, none⟩ x4).cell? ⟨g, 2, none⟩ = some (.int .i64 af) ∧ (((((w'.setCell ⟨g + 1 + 1, 0, none⟩ x0).setCell ⟨g + 1 + 1, 1, none⟩ x1).setCell ⟨g + 1 + 1, 2, none⟩ x2).setCell ⟨g + 1 + 1, 3, none⟩ x3).setCell ⟨g + 1 + 1, 4, none⟩ x4).cell? ⟨g, 3, none⟩ = some (.slice ao na ac) ∧ (((((w'.setCell ⟨g + 1 + 1, 0, none⟩ x0).setCell ⟨g + 1 + 1, 1, none⟩ x1).setCell ⟨g + 1 + 1, 2, none⟩ x2).setCell ⟨g + 1 + 1, 3, none⟩ x3).setCell ⟨g + 1 + 1, 4, none⟩ x4).cell? ⟨g, 4, none⟩ = some (.int .i64 ar) ∧ (((((w'.setCell ⟨g + 1 + 1, 0, none⟩ x0).setCell ⟨g + 1 + 1, 1, none⟩ x1).setCell ⟨g + 1 + 1, 2, none⟩ x2).setCell ⟨g + 1 + 1, 3, none⟩ x3).setCell ⟨g + 1 + 1, 4, none⟩ x4).cell? ⟨g + 1, 1, none⟩ = some (.int .i64 be) ∧ (((((w'.setCell ⟨g + 1 + 1, 0, none⟩ x0).setCell ⟨g + 1 + 1, 1, none⟩ x1).setCell ⟨g + 1 + 1, 2, none⟩ x2).setCell ⟨g + 1 + 1, 3, none⟩ x3).setCell ⟨g + 1 + 1, 4, none⟩ x4).cell? ⟨g + 1, 2, none⟩ = some (.int .i64 bf) ∧ (((((w'.setCell ⟨g + 1 + 1, 0, none⟩ x0).setCell ⟨g + 1 + 1, 1, none⟩ x1).setCell ⟨g + 1 + 1, 2, none⟩ x2).setCell ⟨g + 1 + 1, 3, none⟩ x3).setCell ⟨g + 1 + 1, 4, none⟩ x4).cell? ⟨g + 1, 3, none⟩ = some (.slice bo nb bc) ∧ (((((w'.setCell ⟨g + 1 + 1, 0, none⟩ x0).setCell ⟨g + 1 + 1, 1, none⟩ x1).setCell ⟨g + 1 + 1, 2, none⟩ x2).setCell ⟨g + 1 + 1, 3, none⟩ x3).setCell ⟨g + 1 + 1, 4, none⟩ x4).cell? ⟨g + 1, 4, none⟩ = some (.int .i64 br))) := fun w' x0 x1 x2 x3 x4 h => ⟨set5_cell h.1 ng, set5_cell h.2.1 ng, set5_cell h.2.2.1 ng, set5_cell h.2.2.2.1 ng', set5_cell h.2.2.2.2.1 ng', set5_cell h.2.2.2.2.2.1 ng', set5_cell h.2.2.2.2.2.2 ng'⟩
 have HD0 := Lib.hid ((Below.refl wa.heap.size wa).drew)
 have HOA : Hid (Own wa.drew (wa.drew.alloc (.cells #[] 43)) 43 5 (.slice (some ⟨wa.drew.heap.size, 0, none⟩) 0 0) 0 []) := Own.lit wa.drew 43 #[] 0 5 (by decide) rfl
 have HBA : Hid (Below wa.heap.size wa (wa.drew.alloc (.cells #[] 43))) := HD0.out.alloc HD0.out.size _
 have HAw := Lib.hid (fun w' (hb' : Below wa.heap.size wa w') => (HA.out.below (hg ▸ HB.out)).below hb')
 have HBw := Lib.hid (fun w' (hb' : Below wa.heap.size wa w') => (HBt.out.below (hg ▸ HB.out)).below hb')
 have hwr : IntKind.i64.wrap ((ar : Int) + br) = ar + br := IntWalk.i64_in _ (by omega)
 go_region_held3 (fun w' => w'.cell? ⟨g, 2, none⟩ = some (.int .i64 af) ∧ w'.cell? ⟨g, 3, none⟩ = some (.slice ao na ac) ∧ w'.cell? ⟨g, 4, none⟩ = some (.int .i64 ar) ∧ w'.cell? ⟨g + 1, 1, none⟩ = some (.int .i64 be) ∧ w'.cell? ⟨g + 1, 2, none⟩ = some (.int .i64 bf) ∧ w'.cell? ⟨g + 1, 3, none⟩ = some (.slice bo nb bc) ∧ w'.cell? ⟨g + 1, 4, none⟩ = some (.int .i64 br))
   (first | (with_reducible exact HS5.out _ _ _ _ _ _ (HS.out _ HDb.out)) | (with_reducible exact HS.out _ HDb.out) | (with_reducible exact HS.out _ HDa.out) | go_keep)
   ((first
    | (refine step_appz (w0 := wa.drew) (by rfl) (.tmp 12) (.tmp 14) 30 43 rfl elemTwR _ 0 [] (by rfl) HOA.out ao na ac (ta.flatMap twc) (by rfl) (HAw.out _ HBA.out) HO1.out HLm.out ?_; intro va wv hoa hfa; have HOa := Lib.hid hoa; have HDa := Lib.hid (HD0.out.trans (hoa.2.mono HD0.out.size)); clear hoa hfa)
    | (refine step_appz (w0 := wa.drew) (by rfl) (.tmp 15) (.tmp 17) 30 43 rfl elemTwR va (0 + na) _ (by rfl) HOa.out bo nb bc (tb.flatMap twc) (by rfl) (HBw.out _ HDa.out) HO2.out HLn.out ?_; intro vb wb hob hfb; have HOb := Lib.hid hob; have HDb := Lib.hid (HD0.out.trans (hob.2.mono HD0.out.size)); clear hob hfb; obtain ⟨vo, vc, rfl, hvs⟩ := HOb.out.sv; clear hvs; obtain ⟨q0, q1, q2, q3, q4⟩ := ((H3.out.below HDb.out)).c5; obtain ⟨f0, f1, f2, f3⟩ := ((H3.out.below HDb.out)).f4; have f4 := (H3.out.below HDb.out).frozen 4)))
 all_goals
  have hr5 := set5_row (.bool true) (.int .i64 be) (.int .i64 (if af < bf then bf else af)) (.slice vo (na + nb) vc) (.int .i64 ((ar : Int) + br)) (H3.out.below HDb.out)
  have hf5 := set5_fr wb (g + 1 + 1) (.bool true) (.int .i64 be) (.int .i64 (if af < bf then bf else af)) (.slice vo (na + nb) vc) (.int .i64 ((ar : Int) + br))
  unfold set5 at hr5 hf5
  have hg3 := H3.out.lt
  have HF : Hid (NewT w (((((wb.setCell ⟨g + 1 + 1, 0, none⟩ (.bool true)).setCell ⟨g + 1 + 1, 1, none⟩ (.int .i64 be)).setCell ⟨g + 1 + 1, 2, none⟩ (.int .i64 (if af < bf then bf else af))).setCell ⟨g + 1 + 1, 3, none⟩ (.slice vo (na + nb) vc)).setCell ⟨g + 1 + 1, 4, none⟩ (.int .i64 ((ar : Int) + br))) vo vc (ta ++ tb)) := by
   have ho := HOb.out
   rw [List.nil_append, ← List.flatMap_append] at ho
   simp only [Nat.zero_add] at ho
   obtain ⟨vo', vc', e, h1, h2, h3⟩ := NewT.of (by have := HT.out; omega) ho
   have ht := HT.out
   rw [Nat.zero_add] at ht
   rw [← ht] at e
   cases e
   refine ⟨?_, ?_, ?_⟩
   ·exact ((HB.out.trans (HDb.out.mono HB.out.size)).trans (hf5.below (by rw [hg]; have := HDb.out.size; omega) (fun k hk e => by rw [hg] at hk; omega)) : _)
   ·refine h2.fr hf5 (fun x hx _ e => ?_)
    have h4 := (h3 x hx).1
    have h5 : wa.drew.heap.size = wa.heap.size := rfl
    omega
   ·intro x hx
    obtain ⟨h4, cs, hr⟩ := h3 x hx
    have h5 : wa.drew.heap.size = wa.heap.size := rfl
    have := HB.out.size
    exact ⟨by omega, cs, hr.fr hf5 (fun e => by omega)⟩
  clear hf5 hg3
  revert hr5 HF
  generalize ((((wb.setCell _ _).setCell _ _).setCell _ _).setCell _ _).setCell _ _ = wf
  intro hr5 HF
  obtain ⟨z0, z1, z2, z3, z4⟩ := (hr5).c5
  have hmx := Lib.hid (show (if af < bf then bf else af) = max af bf by split <;> omega)
  have hln := Lib.hid (show na + nb = (ta ++ tb).length by have := HT.out; omega)
  generalize (if af < bf then bf else af) = mx at *
  go_wp2_with fail
  refine bodyPost_ret (v := .agg #[.bool true, .int .i64 be, .int .i64 mx, .slice vo (na + nb) vc, .int .i64 ((ar : Int) + br)]) (by simp [results, Try.results61, go_sem, z0, z1, z2, z3, z4]) rfl ⟨vo, vc, ?_, HF.out⟩
  rw [hmx.out, hln.out, List.length_append]; exact rfl
end Go.Proofs.Ytdnkffplkleolaa
namespace Go.Proofs.Ytdnkffplkleolaa
open Go.RowKit
set_option maxRecDepth 100000
set_option maxHeartbeats 4000000

theorem seqR_drop {E : St → Nat → Nat → Rs × St} {ks : List Int} {k : Nat} (h : k < ks.length) (r : Rs) (s : St) :
  seqR E (ks.drop k) r s = if (E s (ks[k]'h).toNat r.en).1.is then seqR E (ks.drop (k + 1)) (beR r (E s (ks[k]'h).toNat r.en).1) (E s (ks[k]'h).toNat r.en).2 else (failR (max r.far (E s (ks[k]'h).toNat r.en).1.far), (E s (ks[k]'h).toNat r.en).2) := by
 rw [List.drop_eq_getElem_cons h]
 rfl
theorem RsOk.roots {L p : Nat} {r : Rs} (h : RsOk L p r) : r.roots ≤ r.tree.length := by
 cases hi : r.is
 ·have := h.no hi; omega
 ·exact (h.yes hi).2.len
theorem al_cell {w : World} {a : Addr} {x : Value} {o : Obj} (h : w.cell? a = some x) : (w.alloc o).cell? a = some x :=
 (((Below.refl w.heap.size w).alloc (Nat.le_refl _) o).cell (World.block_lt_of_cell? _ _ h)).trans h
/-- What the walk of a match of a kid has, its result in a box of its own. -/
def InBox (K : Env) (wr : World) (o : Rs × St) (x : Value) (wx : World) : Prop :=
 ∃ hx v5 KS5 ao cap, x = .pointer (some ⟨hx, 0, none⟩) ∧ hrow wx hx #[.bool o.1.is, .int .i64 o.1.en, .int .i64 o.1.far, .slice ao o.1.tree.length cap, .int .i64 o.1.roots] 64 ∧ wr.heap.size ≤ hx ∧ RW K wx o.2 v5 KS5 ∧ TrW wx ao cap o.1.tree ∧ RF wr wx

/-- A box that is newer than a world is written. -/
theorem RF.new {w w1 w2 : World} {F : Nat → Prop} (h : RF w w1) (hf : Fr F w1 w2) (hF : ∀ k, F k → w.heap.size ≤ k) : RF w w2 :=
 ⟨hf.os.trans h.os, hf.tape.trans h.tape, hf.output.trans h.output, Nat.le_trans h.size hf.size, fun k hk hB => (hf.block k (Nat.lt_of_lt_of_le hk h.size) (fun hx => by have := hF k hx; omega)).trans (h.block k hk hB)⟩
theorem RW.boxed {K : Env} {w w' : World} {s : St} {v : Value} {KS : List (Ce × (Option Addr × Nat))} (h : RW K w s v KS) {k : Nat} {cs : Array Value} (hr : hrow w k cs 64) (hk : K.base.heap.size ≤ k) (hf : Fr (fun i => i = k) w w') : RW K w' s v KS :=
 h.fr hf (fun i hi => by have e : i = k := hi; subst e; exact ⟨hk, cs, _, hr, by decide, by decide, by decide⟩)
theorem TrW.boxed {w w' : World} {ao : Option Addr} {cap : Nat} {t : List Tw} (h : TrW w ao cap t) {k : Nat} {cs : Array Value} (hr : hrow w k cs 64) (hf : Fr (fun i => i = k) w w') : TrW w' ao cap t :=
 sv_fr2 h hf (fun i cs' hi hr' => by have e : i = k := hi; subst e; exact row_ne hr hr' (by decide) rfl)
theorem InBox.aft {K : Env} {wr w3 : World} {xi : Bool} {xe : Nat} {xf : Int} {xt : List Tw} {xr : Nat} {s2 : St} {v3 : Value} {KS3 : List (Ce × (Option Addr × Nat))} {o3 : Option Addr} {c3 : Nat} (G1 : RW K w3 s2 v3 KS3) (G2 : TrW w3 o3 c3 xt) (G3 : RF wr w3) :
  InBox K wr (⟨xi, xe, xf, xt, xr⟩, s2) (.pointer (some ⟨w3.heap.size, 0, none⟩)) (w3.alloc (.cells #[.bool xi, .int .i64 xe, .int .i64 xf, .slice o3 xt.length c3, .int .i64 xr] 64)) := by
 have hb : Below w3.heap.size w3 (w3.alloc (.cells #[.bool xi, .int .i64 xe, .int .i64 xf, .slice o3 xt.length c3, .int .i64 xr] 64)) := (Below.refl _ _).alloc (Nat.le_refl _) _
 exact ⟨w3.heap.size, v3, KS3, o3, c3, rfl, hrow.new _ _ _, G3.size, G1.below hb, G2.step (.below hb), G3.trans (.below hb)⟩
theorem InBox.bef {K : Env} {wr w3 : World} {xi : Bool} {xe : Nat} {xf : Int} {xt : List Tw} {xr : Nat} {s2 : St} {v3 : Value} {KS3 : List (Ce × (Option Addr × Nat))} {o3 : Option Addr} {c3 : Nat} (G1 : RW K w3 s2 v3 KS3) (G2 : TrW w3 o3 c3 xt) (G3 : RF wr w3) (GZ : hrow w3 wr.heap.size #[.bool false, .int .i64 0, .int .i64 0, .slice none 0 0, .int .i64 0] 64) (hl : K.base.heap.size ≤ wr.heap.size) :
  InBox K wr (⟨xi, xe, xf, xt, xr⟩, s2) (.pointer (some ⟨wr.heap.size, 0, none⟩)) ((((((w3.setCell ⟨wr.heap.size, 0, none⟩ (.bool xi)).setCell ⟨wr.heap.size, 1, none⟩ (.int .i64 xe)).setCell ⟨wr.heap.size, 2, none⟩ (.int .i64 xf)).setCell ⟨wr.heap.size, 3, none⟩ (.slice o3 xt.length c3)).setCell ⟨wr.heap.size, 4, none⟩ (.int .i64 xr))) := by
 have hr := set5_row (.bool xi) (.int .i64 xe) (.int .i64 xf) (.slice o3 xt.length c3) (.int .i64 xr) GZ
 have hf := set5_fr w3 wr.heap.size (.bool xi) (.int .i64 xe) (.int .i64 xf) (.slice o3 xt.length c3) (.int .i64 xr)
 unfold set5 at hr hf
 exact ⟨wr.heap.size, v3, KS3, o3, c3, rfl, hr, Nat.le_refl _, G1.boxed GZ hl hf, G2.boxed GZ hf, G3.new hf (fun k e => by omega)⟩

/-- A loop over kids: r has come of those ahead. -/
def SeqI (K : Env) (f : Nat) (w : World) (p : Nat) (F : Rs → St → Rs × St) (Z : Rs × St) (M hb h0 : Nat) (wr : World) : Prop :=
 ∃ r s' v' KS' ao cap, hrow wr hb #[.bool r.is, .int .i64 r.en, .int .i64 r.far, .slice ao r.tree.length cap, .int .i64 r.roots] 64 ∧ hrow wr h0 #[.bool false, .int .i64 0, .int .i64 0, .slice none 0 0, .int .i64 0] 64 ∧
  RW K wr s' v' KS' ∧ TrW wr ao cap r.tree ∧ RF w wr ∧ F r s' = Z ∧ StOk K.G.rules.length K.W.length s' ∧ RsOk K.W.length p r ∧ r.is = true ∧ Cap f s' ∧ r.tree.length + 2001 * s'.left ≤ M

theorem rseq_any (K : Env) (hK : EnvOk K) (f : Nat) (hE : EvC K f) (w : World) (s : St) (v : Value) (KS : List (Ce × (Option Addr × Nat))) (ks : List Int) (ka : Option Addr) (kc p : Nat)
  (h : RW K w s v KS) (hc : Cap f s) (hs : StOk K.G.rules.length K.W.length s) (hks : ∀ k ∈ ks, 0 ≤ k ∧ k < K.G.nodes.length) (hk : Sv K.base ka ks.length kc 1 (inc ks)) (hp : p ≤ K.W.length) :
  Calls Try.prog 49 #[.pointer (some ⟨K.g, 0, none⟩), .slice ka ks.length kc, .int .i64 p] w (REnd K w (seqR (ev K.G K.W f) ks (toR p) s)) := by
 have H := Lib.hid h
 have HE := Lib.hid hE
 have HC := Lib.hid hc
 have HS := Lib.hid hs
 have HKS := Lib.hid hks
 have HKB := Lib.hid hk
 have HP := Lib.hid hp
 have HEV := Lib.hid (@ev_ok K.G K.W hK.ok f)
 have hkb := hk.bound
 clear h hc hs hks hk hE
 have HB0 := Lib.hid (al1 (Below.refl w.heap.size w) (.cells #[.bool false, .int .i64 0, .int .i64 0, .slice none 0 0, .int .i64 0] 64))
 have HR0 := Lib.hid (hrow.new w #[.bool false, .int .i64 0, .int .i64 0, .slice none 0 0, .int .i64 0] 64)
 go_enter Try.func49, Try.ntmps49
 go_wp2_with fail
 refine (rto_any _ p).mono ?_
 rintro e w1 ⟨rfl, hb1⟩
 have HB1 := Lib.hid (HB0.out.trans (hb1.mono HB0.out.size))
 have HR1 := Lib.hid (HR0.out.below hb1)
 clear hb1 HB0 HR0
 simp only [rsv, rcs, toR, List.length_nil]
 go_wp2_with fail
 have HB2 := Lib.hid (al1 HB1.out (.cells #[.bool true, .int .i64 p, .int .i64 (-1), .slice none 0 0, .int .i64 0] 64))
 have HR2 := Lib.hid (HR1.out.below ((Below.refl w1.heap.size w1).alloc (Nat.le_refl _) (.cells #[.bool true, .int .i64 p, .int .i64 (-1), .slice none 0 0, .int .i64 0] 64)))
 have HX2 := Lib.hid (hrow.new w1 #[.bool true, .int .i64 p, .int .i64 (-1), .slice none 0 0, .int .i64 0] 64)
 revert HB2 HR2 HX2
 generalize w1.alloc _ = w2
 generalize hhb : w1.heap.size = hb
 generalize hh0 : w.heap.size = h0
 intro HB2 HR2 HX2
 have HH0 := Lib.hid hh0
 have HI0 : Hid (SeqI K f w p (fun r s' => seqR (ev K.G K.W f) (ks.drop 0) r s') (seqR (ev K.G K.W f) ks (toR p) s) (2001 * s.left) hb h0 w2) :=
  ⟨toR p, s, v, KS, none, 0, HX2.out, HR2.out, H.out.below (HH0.out ▸ HB2.out), TrW.nil _, RF.below (HH0.out ▸ HB2.out), rfl, HS.out, .at (by decide) (by omega) (Nat.le_refl _) hp, rfl, HC.out, by simp [toR]⟩
 have hlh : h0 < hb := by rw [← hhb, ← hh0]; exact HR1.out.lt
 have HLo : Hid (K.base.heap.size ≤ h0) := HH0.out ▸ H.out.low.size
 have HTop : Hid (s.left ≤ 20000) := Nat.le_trans HC.out.left HC.out.top
 clear HB2 HR2 HX2 HR1 HB1 H HS HC hhb hh0
 go_loopw [8, 9] (fun i _ wr => ∃ k : Nat, k ≤ ks.length ∧ i = .int .i64 k ∧ Hid (SeqI K f w p (fun r s' => seqR (ev K.G K.W f) (ks.drop k) r s') (seqR (ev K.G K.W f) ks (toR p) s) (2001 * s.left) hb h0 wr)) (fun i _ _ => ks.length - (intOf i).toNat)
 case atStart => exact ⟨0, by omega, rfl, HI0.out⟩
 case round =>
  obtain ⟨k, hkl, rfl, HI⟩ := hrel
  by_cases hit : k < ks.length
  ·have hit' : (k : Int) < ks.length := by omega
   have hkz : (0 : Int) ≤ k := by omega
   obtain ⟨⟨ri, re, rf, rt, rr⟩, s', v', KS', ao, cap, i1, i2, i3, i4, i5, i6, i7, i8, i9, i10, i11⟩ := HI.out
   clear HI
   simp only [] at i1 i4 i6 i8 i9 i10 i11
   subst i9
   have HX := Lib.hid i1
   have HZ := Lib.hid i2
   have HW := Lib.hid i3
   have HT := Lib.hid i4
   have HF := Lib.hid i5
   have HQ := Lib.hid i6
   have HSt := Lib.hid i7
   have HRo := Lib.hid i8
   have HCp := Lib.hid i10
   have HLe := Lib.hid i11
   obtain ⟨ce0, ce1, ce2, ce3, ce4⟩ := (i1).c5
   clear i1 i2 i3 i4 i5 i6 i7 i8 i10 i11
   obtain ⟨kb, rfl, hkc⟩ := HKB.out.cell k (by simp [inc]; omega)
   have HKd : Hid (∀ W', Below K.base.heap.size K.base W' → W'.cell? (kb.add k) = some (.int .i64 (ks[k]'hit))) := fun W' hb' => by
    have e : K.base.cell? (kb.add k) = some (.int .i64 (ks[k]'hit)) := by rw [hkc]; simp [inc, hit]
    exact (hb'.cell (World.block_lt_of_cell? _ _ e)).trans e
   have hkd := HKd.out _ HW.out.low
   have hkr := HKS.out _ (List.getElem_mem hit)
   have HQ2 := Lib.hid ((seqR_drop hit _ _).symm.trans HQ.out)
   clear HQ hkc
   generalize ks[k]'hit = q at *
   obtain ⟨n, rfl⟩ : ∃ n : Nat, q = n := ⟨q.toNat, by omega⟩
   simp only [Int.toNat_natCast] at HQ2
   have HPo := Lib.hid (HEV.out s' n re HSt.out (by omega) (HRo.out.yes rfl).1)
   have HCl := Lib.hid (fun W' (hb' : Below wr.heap.size wr W') => HE.out W' s' v' KS' n re (HW.out.below hb') HCp.out HSt.out (by omega) (HRo.out.yes rfl).1)
   generalize ev K.G K.W f s' n re = o at *
   obtain ⟨⟨xi, xe, xf, xt, xr⟩, s2⟩ := o
   simp only [] at HQ2
   have HEx : Hid (∀ W', Below wr.heap.size wr W' → Calls Try.prog 38 #[.pointer (some ⟨K.g, 0, none⟩), .int .i64 n, .int .i64 re] W' fun e w3 => ∃ v3 KS3 o3 c3, e = .returned (.agg #[.bool xi, .int .i64 xe, .int .i64 xf, .slice o3 xt.length c3, .int .i64 xr]) ∧ RW K w3 s2 v3 KS3 ∧ TrW w3 o3 c3 xt ∧ RF W' w3) := fun W' hb' => (HCl.out W' hb').mono (fun e w3 h => h)
   clear HCl
   have HD0 := Lib.hid ((Below.refl wr.heap.size wr).drew)
   have HDA : Hid (Below wr.heap.size wr (wr.drew.alloc (.cells #[.bool false, .int .i64 0, .int .i64 0, .slice none 0 0, .int .i64 0] 64))) := HD0.out.alloc HD0.out.size _
   have HZA : Hid (hrow (wr.drew.alloc (.cells #[.bool false, .int .i64 0, .int .i64 0, .slice none 0 0, .int .i64 0] 64)) wr.heap.size #[.bool false, .int .i64 0, .int .i64 0, .slice none 0 0, .int .i64 0] 64) := hrow.new wr.drew _ _
   have hbn : hb ≠ wr.heap.size := by have := HX.out.lt; omega
   have hkn : (kb.add k).block ≠ wr.heap.size := by have := World.block_lt_of_cell? _ _ hkd; omega
   go_upto_region 5 with (fail)
   go_cut [9] (fun x wx => InBox K wr (⟨xi, xe, xf, xt, xr⟩, s2) x wx)
   case first =>
    go_region_held3 (fun w' => w'.cell? ⟨hb, 1, none⟩ = some (.int .i64 re) ∧ w'.cell? (kb.add k) = some (.int .i64 n))
     (first | (with_reducible exact ⟨K1.out, K2.out⟩) | (with_reducible exact ⟨set5_cell K1.out hbn, set5_cell K2.out hkn⟩) | (with_reducible exact ⟨al_cell K1.out, al_cell K2.out⟩) | go_keep)
     ((first
      | (go_at_call 38; refine (HEx.out _ HDA.out).mono ?_; rintro e w3 ⟨v3, KS3, o3, c3, rfl, g1, g2, g3⟩; have G1 := Lib.hid g1; have G2 := Lib.hid g2; have G3 := Lib.hid ((RF.below HDA.out).trans g3); have GZ := Lib.hid (HZA.out.rf g3 (by decide) (by decide)); clear g1 g2 g3; have K1 : Hid (w3.cell? ⟨hb, 1, none⟩ = some (.int .i64 re)) := (HX.out.rf G3.out (by decide) (by decide)).cell 1; have K2 := Lib.hid (HKd.out _ G1.out.low); obtain ⟨q0, q1, q2, q3, q4⟩ := (GZ.out).c5; obtain ⟨f0, f1, f2, f3⟩ := (GZ.out).f4; have f4 := GZ.out.frozen 4)
      | (go_at_call 38; refine (HEx.out _ HD0.out).mono ?_; rintro e w3 ⟨v3, KS3, o3, c3, rfl, g1, g2, g3⟩; have G1 := Lib.hid g1; have G2 := Lib.hid g2; have G3 := Lib.hid ((RF.below HD0.out).trans g3); clear g1 g2 g3; have K1 : Hid (w3.cell? ⟨hb, 1, none⟩ = some (.int .i64 re)) := (HX.out.rf G3.out (by decide) (by decide)).cell 1; have K2 := Lib.hid (HKd.out _ G1.out.low))))
    all_goals
     have hbl := HW.out.low.size
     go_wp2_with fail
     go_meet
     first | (with_reducible exact InBox.aft G1.out G2.out G3.out) | (with_reducible exact InBox.bef G1.out G2.out G3.out GZ.out hbl)
   case rest =>
    obtain ⟨hx, v5, KS5, o5, c5, rfl, j1, j2, j3, j4, j5⟩ := hcut
    simp only [] at j1 j3 j4
    have J1 := Lib.hid j1
    have J3 := Lib.hid j3
    have J4 := Lib.hid j4
    have J5 := Lib.hid j5
    have HX5 := Lib.hid (HX.out.rf j5 (by decide) (by decide))
    have HZ5 := Lib.hid (HZ.out.rf j5 (by decide) (by decide))
    have HT5 := Lib.hid (HT.out.step j5)
    have hxw := HX.out.lt
    have hne : hb ≠ hx := by omega
    clear j1 j2 j3 j4 j5 HX HZ HT ce0 ce1 ce2 ce3 ce4 hkd hkr hbn hkn HDA HZA HD0 HEx
    obtain ⟨x0, x1, x2, x3, x4⟩ := (J1.out).c5
    obtain ⟨r0, r1, r2, r3, r4⟩ := (HX5.out).c5
    cases xi
    ·have HQ3 := Lib.hid ((if_neg Bool.false_ne_true).symm.trans HQ2.out)
     clear HQ2
     by_cases hm : rf < xf
     ·have hmx : max rf xf = xf := by omega
      rw [hmx] at HQ3
      go_wp2_with fail
      refine (rfail_any wc xf).mono ?_
      rintro e w6 ⟨rfl, hb6⟩
      simp only [rsv, rcs, failR, List.length_nil, Int.natCast_zero] at HQ3 ⊢
      have HZ6 := Lib.hid (HZ5.out.below hb6)
      have HB6 := Lib.hid hb6
      clear hb6
      obtain ⟨zq0, zq1, zq2, zq3, zq4⟩ := (HZ6.out).c5
      obtain ⟨zf0, zf1, zf2, zf3, zf4⟩ := (HZ6.out).f5
      have zr5 := set5_row (.bool false) (.int .i64 0) (.int .i64 xf) (.slice none 0 0) (.int .i64 0) (HZ6.out)
      have zf5 := set5_fr w6 h0 (.bool false) (.int .i64 0) (.int .i64 xf) (.slice none 0 0) (.int .i64 0)
      unfold set5 at zr5 zf5
      have ZR5 := Lib.hid zr5
      have ZF5 := Lib.hid zf5
      clear zr5 zf5
      go_wp2_with fail
      revert ZR5 ZF5
      generalize ((((w6.setCell _ _).setCell _ _).setCell _ _).setCell _ _).setCell _ _ = wz
      intro ZR5 ZF5
      obtain ⟨zc0, zc1, zc2, zc3, zc4⟩ := (ZR5.out).c5
      exact bodyPost_ret (v := .agg #[.bool false, .int .i64 0, .int .i64 xf, .slice none 0 0, .int .i64 0]) (by simp [results, Try.results49, go_sem, zc0, zc1, zc2, zc3, zc4]) rfl (by rw [← HQ3.out]; exact ⟨v5, KS5, none, 0, rfl, (J3.out.below HB6.out).boxed HZ6.out HLo.out ZF5.out, TrW.nil _, ((HF.out.trans J5.out).trans (.below HB6.out)).new ZF5.out (fun k e => by have := HH0.out; omega)⟩)
     ·have hmx : max rf xf = rf := by omega
      rw [hmx] at HQ3
      go_wp2_with fail
      refine (rfail_any wc rf).mono ?_
      rintro e w6 ⟨rfl, hb6⟩
      simp only [rsv, rcs, failR, List.length_nil, Int.natCast_zero] at HQ3 ⊢
      have HZ6 := Lib.hid (HZ5.out.below hb6)
      have HB6 := Lib.hid hb6
      clear hb6
      obtain ⟨zq0, zq1, zq2, zq3, zq4⟩ := (HZ6.out).c5
      obtain ⟨zf0, zf1, zf2, zf3, zf4⟩ := (HZ6.out).f5
      have zr5 := set5_row (.bool false) (.int .i64 0) (.int .i64 rf) (.slice none 0 0) (.int .i64 0) (HZ6.out)
      have zf5 := set5_fr w6 h0 (.bool false) (.int .i64 0) (.int .i64 rf) (.slice none 0 0) (.int .i64 0)
      unfold set5 at zr5 zf5
      have ZR5 := Lib.hid zr5
      have ZF5 := Lib.hid zf5
      clear zr5 zf5
      go_wp2_with fail
      revert ZR5 ZF5
      generalize ((((w6.setCell _ _).setCell _ _).setCell _ _).setCell _ _).setCell _ _ = wz
      intro ZR5 ZF5
      obtain ⟨zc0, zc1, zc2, zc3, zc4⟩ := (ZR5.out).c5
      exact bodyPost_ret (v := .agg #[.bool false, .int .i64 0, .int .i64 rf, .slice none 0 0, .int .i64 0]) (by simp [results, Try.results49, go_sem, zc0, zc1, zc2, zc3, zc4]) rfl (by rw [← HQ3.out]; exact ⟨v5, KS5, none, 0, rfl, (J3.out.below HB6.out).boxed HZ6.out HLo.out ZF5.out, TrW.nil _, ((HF.out.trans J5.out).trans (.below HB6.out)).new ZF5.out (fun k e => by have := HH0.out; omega)⟩)
    ·have HQ3 := Lib.hid ((if_pos rfl).symm.trans HQ2.out)
     clear HQ2
     go_wp2_with fail
     have l1 : rt.length ≤ 100000000 := by have := HLe.out; have := HTop.out; omega
     have l2 : xt.length ≤ 100000000 := by have h : xt.length + 2001 * s2.left ≤ 2001 * s'.left := HPo.out.len; have := HCp.out.left; have := HCp.out.top; omega
     refine (rbehind_any wc ⟨true, re, rf, rt, rr⟩ ⟨true, xe, xf, xt, xr⟩ ao o5 cap c5 HT5.out.sv J4.out.sv l1 l2 (by have h : rr ≤ rt.length := HRo.out.roots; show rr ≤ 100000000; omega) (by have h : xr ≤ xt.length := HPo.out.rs.roots; show xr ≤ 100000000; omega)).mono ?_
     rintro e w6 ⟨go, gc, rfl, hn⟩
     have HRb := Lib.hid (HRo.out.be rfl HPo.out.rs rfl)
     have HLb : Hid ((beR ⟨true, re, rf, rt, rr⟩ ⟨true, xe, xf, xt, xr⟩).tree.length + 2001 * s2.left ≤ 2001 * s.left) := by
      have h : xt.length + 2001 * s2.left ≤ 2001 * s'.left := HPo.out.len
      have h2 := HLe.out
      show (rt ++ xt).length + 2001 * s2.left ≤ 2001 * s.left
      rw [List.length_append]
      omega
     have hbe : (beR ⟨true, re, rf, rt, rr⟩ ⟨true, xe, xf, xt, xr⟩).is = true ∧ (beR ⟨true, re, rf, rt, rr⟩ ⟨true, xe, xf, xt, xr⟩).en = xe := ⟨rfl, rfl⟩
     generalize beR ⟨true, re, rf, rt, rr⟩ ⟨true, xe, xf, xt, xr⟩ = y at *
     obtain ⟨yi, ye, yf, yt, yr⟩ := y
     simp only [] at hbe
     obtain ⟨rfl, rfl⟩ := hbe
     simp only [rsv, rcs]
     have HN := Lib.hid hn.trw
     have HB6 := Lib.hid hn.1
     have HX6 := Lib.hid (HX5.out.below hn.1)
     have HZ6 := Lib.hid (HZ5.out.below hn.1)
     have HC2 := Lib.hid (HCp.out.of HPo.out.step HCp.out.top HCp.out.left)
     have HS2 := Lib.hid HPo.out.st
     clear hn
     obtain ⟨zq0, zq1, zq2, zq3, zq4⟩ := (HX6.out).c5
     obtain ⟨zf0, zf1, zf2, zf3, zf4⟩ := (HX6.out).f5
     have zr5 := set5_row (.bool true) (.int .i64 ye) (.int .i64 yf) (.slice go yt.length gc) (.int .i64 yr) HX6.out
     have zf5 := set5_fr w6 hb (.bool true) (.int .i64 ye) (.int .i64 yf) (.slice go yt.length gc) (.int .i64 yr)
     unfold set5 at zr5 zf5
     have ZR5 := Lib.hid zr5
     have ZF5 := Lib.hid zf5
     clear zr5 zf5
     go_wp2_with fail
     revert ZR5 ZF5
     generalize ((((w6.setCell _ _).setCell _ _).setCell _ _).setCell _ _).setCell _ _ = wz
     intro ZR5 ZF5
     go_roundw
     case rel =>
      refine ⟨k + 1, by omega, by go_num, ⟨_, s2, v5, KS5, go, gc, ZR5.out, HZ6.out.fr ZF5.out (by omega), (J3.out.below HB6.out).boxed HX6.out (by have := HLo.out; omega) ZF5.out, HN.out.boxed HX6.out ZF5.out, ((HF.out.trans J5.out).trans (.below HB6.out)).new ZF5.out (fun k e => by have := HH0.out; omega), HQ3.out, HS2.out, HRb.out, rfl, HC2.out, HLb.out⟩⟩
     case measure => simp [intOf]; omega
  ·have hge : (ks.length : Int) ≤ k := by omega
   obtain ⟨⟨ri, re, rf, rt, rr⟩, s', v', KS', ao, cap, i1, i2, i3, i4, i5, i6, i7, i8, i9, i10, i11⟩ := HI.out
   simp only [] at i1 i4 i6 i9
   subst i9
   rw [List.drop_eq_nil_of_le (by omega)] at i6
   have HX := Lib.hid i1
   have HZ := Lib.hid i2
   have HW := Lib.hid i3
   have HT := Lib.hid i4
   have HF := Lib.hid i5
   have HQ : Hid ((⟨true, re, rf, rt, rr⟩, s') = seqR (ev K.G K.W f) ks (toR p) s) := i6
   obtain ⟨ce0, ce1, ce2, ce3, ce4⟩ := (HX.out).c5
   clear i1 i2 i3 i4 i5 i6 i7 i8 i10 i11 HI
   obtain ⟨zq0, zq1, zq2, zq3, zq4⟩ := (HZ.out).c5
   obtain ⟨zf0, zf1, zf2, zf3, zf4⟩ := (HZ.out).f5
   have zr5 := set5_row (.bool true) (.int .i64 re) (.int .i64 rf) (.slice ao rt.length cap) (.int .i64 rr) (HZ.out)
   have zf5 := set5_fr wr h0 (.bool true) (.int .i64 re) (.int .i64 rf) (.slice ao rt.length cap) (.int .i64 rr)
   unfold set5 at zr5 zf5
   have ZR5 := Lib.hid zr5
   have ZF5 := Lib.hid zf5
   clear zr5 zf5
   go_wp2_with fail
   revert ZR5 ZF5
   generalize ((((wr.setCell _ _).setCell _ _).setCell _ _).setCell _ _).setCell _ _ = wz
   intro ZR5 ZF5
   obtain ⟨zc0, zc1, zc2, zc3, zc4⟩ := (ZR5.out).c5
   exact bodyPost_ret (v := .agg #[.bool true, .int .i64 re, .int .i64 rf, .slice ao rt.length cap, .int .i64 rr]) (by simp [results, Try.results49, go_sem, zc0, zc1, zc2, zc3, zc4]) rfl (by rw [← HQ.out]; exact ⟨v', KS', ao, cap, rfl, HW.out.boxed HZ.out HLo.out ZF5.out, HT.out.boxed HZ.out ZF5.out, HF.out.new ZF5.out (fun k e => by have := HH0.out; omega)⟩)
end Go.Proofs.Ytdnkffplkleolaa
namespace Go.Proofs.Ytdnkffplkleolaa
open Go.RowKit

def cvs (x0 x1 x2 x3 x4 x5 x6 x7 : Value) : List Value := [x0, x1, x2, x3, x4, x5, x6, x7]
theorem set8_0 (l r : List Value) (hl : l.length = 8) (x0 x1 x2 x3 x4 x5 x6 x7 : Value) : (((((((((l ++ r).set 0 x0).set 1 x1).set 2 x2).set 3 x3).set 4 x4).set 5 x5).set 6 x6).set 7 x7) = cvs x0 x1 x2 x3 x4 x5 x6 x7 ++ r := by
 match l, hl with
 | [_, _, _, _, _, _, _, _], _ => rfl
theorem set8_l {α : Type} {f : α → List Value} (hf : ∀ x, (f x).length = 8) (x : α) (x0 x1 x2 x3 x4 x5 x6 x7 : Value) (hx : f x = cvs x0 x1 x2 x3 x4 x5 x6 x7) : ∀ (Y : List α) (i : Nat), i < Y.length → (((((((((Y.flatMap f).set (i * 8) x0).set (i * 8 + 1) x1).set (i * 8 + 2) x2).set (i * 8 + 3) x3).set (i * 8 + 4) x4).set (i * 8 + 5) x5).set (i * 8 + 6) x6).set (i * 8 + 7) x7) = (Y.set i x).flatMap f
 | [], _, h => absurd h (by simp)
 | y :: Y, 0, _ => by
  simp only [Nat.zero_mul, Nat.zero_add, List.set_cons_zero, List.flatMap_cons]
  rw [set8_0 _ _ (hf y), hx]
 | y :: Y, i + 1, h => by
  have ih := set8_l hf x x0 x1 x2 x3 x4 x5 x6 x7 hx Y i (by simpa using h)
  simp only [List.set_cons_succ, List.flatMap_cons]
  rw [← ih]
  have e : ∀ (l : List Value) (q : Nat) (u : Value), (f y ++ l).set (q + 8) u = f y ++ l.set q u := fun l q u => by
   rw [List.set_append_right _ _ (by rw [hf]; omega), hf, Nat.add_sub_cancel]
  have e0 : (i + 1) * 8 = i * 8 + 8 := by omega
  rw [e0, show i * 8 + 8 + 1 = (i * 8 + 1) + 8 by omega, show i * 8 + 8 + 2 = (i * 8 + 2) + 8 by omega, show i * 8 + 8 + 3 = (i * 8 + 3) + 8 by omega, show i * 8 + 8 + 4 = (i * 8 + 4) + 8 by omega, show i * 8 + 8 + 5 = (i * 8 + 5) + 8 by omega, show i * 8 + 8 + 6 = (i * 8 + 6) + 8 by omega, show i * 8 + 8 + 7 = (i * 8 + 7) + 8 by omega, e, e, e, e, e, e, e, e]
theorem set8_fr (w : World) (q b : Nat) (x0 x1 x2 x3 x4 x5 x6 x7 : Value) : Fr (fun k => k = q) w ((((((((w.setCell ⟨q, b, none⟩ x0).setCell ⟨q, b + 1, none⟩ x1).setCell ⟨q, b + 2, none⟩ x2).setCell ⟨q, b + 3, none⟩ x3).setCell ⟨q, b + 4, none⟩ x4).setCell ⟨q, b + 5, none⟩ x5).setCell ⟨q, b + 6, none⟩ x6).setCell ⟨q, b + 7, none⟩ x7) := by
 have h0 := Fr.setCell w ⟨q, b, none⟩ x0
 have h1 := h0.trans (Fr.setCell _ ⟨q, b + 1, none⟩ x1) (fun _ _ h => h)
 have h2 := h1.trans (Fr.setCell _ ⟨q, b + 2, none⟩ x2) (fun _ _ h => h)
 have h3 := h2.trans (Fr.setCell _ ⟨q, b + 3, none⟩ x3) (fun _ _ h => h)
 have h4 := h3.trans (Fr.setCell _ ⟨q, b + 4, none⟩ x4) (fun _ _ h => h)
 have h5 := h4.trans (Fr.setCell _ ⟨q, b + 5, none⟩ x5) (fun _ _ h => h)
 have h6 := h5.trans (Fr.setCell _ ⟨q, b + 6, none⟩ x6) (fun _ _ h => h)
 have h7 := h6.trans (Fr.setCell _ ⟨q, b + 7, none⟩ x7) (fun _ _ h => h)
 exact h7
theorem owns_set8 {w : World} {B : Nat} {e : TypeId} {q n cap : Nat} {α : Type} {f : α → List Value} (hf : ∀ x, (f x).length = 8) {Y : List α} (h : w.ownsRow B e 8 (.slice (some ⟨q, 0, none⟩) n cap) n (Y.flatMap f)) (i : Nat) (hi : i < Y.length) (x : α) (x0 x1 x2 x3 x4 x5 x6 x7 : Value) (hx : f x = cvs x0 x1 x2 x3 x4 x5 x6 x7) :
  ((((((((w.setCell ⟨q, i * 8, none⟩ x0).setCell ⟨q, i * 8 + 1, none⟩ x1).setCell ⟨q, i * 8 + 2, none⟩ x2).setCell ⟨q, i * 8 + 3, none⟩ x3).setCell ⟨q, i * 8 + 4, none⟩ x4).setCell ⟨q, i * 8 + 5, none⟩ x5).setCell ⟨q, i * 8 + 6, none⟩ x6).setCell ⟨q, i * 8 + 7, none⟩ x7).ownsRow B e 8 (.slice (some ⟨q, 0, none⟩) n cap) n ((Y.set i x).flatMap f) := by
 rw [← set8_l hf x x0 x1 x2 x3 x4 x5 x6 x7 hx Y i hi]
 exact ((((((((h.stored (i * 8) x0).1.stored (i * 8 + 1) x1).1.stored (i * 8 + 2) x2).1.stored (i * 8 + 3) x3).1.stored (i * 8 + 4) x4).1.stored (i * 8 + 5) x5).1.stored (i * 8 + 6) x6).1.stored (i * 8 + 7) x7).1
theorem owns_ty {w : World} {B s n : Nat} {e : TypeId} {v : Value} {xs : List Value} (h : w.ownsRow B e s v n xs) {k : Nat} (hk : v.ownBlock = some k) : B ≤ k ∧ ∃ cs, hrow w k cs e := by
 rcases h.2 with ⟨h0, _⟩ | ⟨g, c, cur, h0, hg, h1, _⟩
 ·rw [h0] at hk; cases hk
 ·rw [h0] at hk; cases hk; exact ⟨hg, cur, h1⟩
/-- What changes in the row alone. -/
theorem RW.row' {K : Env} {w w' : World} {s : St} {v : Value} {KS KS' : List (Ce × (Option Addr × Nat))} (h : RW K w s v KS) (hf : Fr (fun k => v.ownBlock = some k) w w') (ht : ∀ c ∈ KS', TrW w c.2.1 c.2.2 c.1.res.tree) :
  hrow w' K.g #[.slice K.ro K.rn K.rc, .slice K.no K.nn K.nc, .slice K.wo K.wn K.wc, v, .bool s.round, .int .i64 s.left, .bool s.over] 62 ∧ Below K.base.heap.size K.base w' ∧ (∀ c ∈ KS', TrW w' c.2.1 c.2.2 c.1.res.tree) ∧ RF w w' := by
 refine ⟨h.obj.fr hf (fun e => h.ne e), h.low.trans (hf.below h.low.size (fun k hk e => by have := (owns_ty h.row e).1; omega)), fun c hc => sv_fr2 (ht c hc) hf (fun k cs e hr => ?_), RF.of_fr hf (fun k e => ?_)⟩
 ·obtain ⟨cs', hr'⟩ := (owns_ty h.row e).2
  exact row_ne hr' hr (by decide) rfl
 ·obtain ⟨cs', hr'⟩ := (owns_ty h.row e).2
  exact ⟨cs', _, _, hr'.h, .inr rfl⟩
theorem RW.shut {K : Env} {w : World} {s : St} {q n cap : Nat} {KS : List (Ce × (Option Addr × Nat))} (h : RW K w s (.slice (some ⟨q, 0, none⟩) n cap) KS) {k : Nat} (hk : k < KS.length) (c : Ce) (ao : Option Addr) (ac : Nat) (ht : TrW w ao ac c.res.tree) (x0 x1 x2 x3 x4 x5 x6 x7 : Value) (hx : cec (c, (ao, ac)) = cvs x0 x1 x2 x3 x4 x5 x6 x7) :
  RW K ((((((((w.setCell ⟨q, k * 8, none⟩ x0).setCell ⟨q, k * 8 + 1, none⟩ x1).setCell ⟨q, k * 8 + 2, none⟩ x2).setCell ⟨q, k * 8 + 3, none⟩ x3).setCell ⟨q, k * 8 + 4, none⟩ x4).setCell ⟨q, k * 8 + 5, none⟩ x5).setCell ⟨q, k * 8 + 6, none⟩ x6).setCell ⟨q, k * 8 + 7, none⟩ x7) { s with cells := s.cells.set k c } (.slice (some ⟨q, 0, none⟩) n cap) (KS.set k (c, (ao, ac))) ∧ RF w ((((((((w.setCell ⟨q, k * 8, none⟩ x0).setCell ⟨q, k * 8 + 1, none⟩ x1).setCell ⟨q, k * 8 + 2, none⟩ x2).setCell ⟨q, k * 8 + 3, none⟩ x3).setCell ⟨q, k * 8 + 4, none⟩ x4).setCell ⟨q, k * 8 + 5, none⟩ x5).setCell ⟨q, k * 8 + 6, none⟩ x6).setCell ⟨q, k * 8 + 7, none⟩ x7) := by
 have hn : KS.length = n := by
  have := h.row
  rcases this.2 with ⟨h0, _⟩ | ⟨g, c, cur, h0, _⟩
  ·cases h0
  ·cases h0; rfl
 have hr := h.row
 rw [hn] at hr
 have h8 := owns_set8 cec_len hr k hk (c, (ao, ac)) x0 x1 x2 x3 x4 x5 x6 x7 hx
 have hf := set8_fr w q (k * 8) x0 x1 x2 x3 x4 x5 x6 x7
 have he : (KS.set k (c, (ao, ac))).map (·.1) = s.cells.set k c := by rw [List.map_set, h.eq]
 have hl : (KS.set k (c, (ao, ac))).length = n := by rw [List.length_set, hn]
 have h2 := h.row' (KS' := KS.set k (c, (ao, ac))) (hf.weak (fun i e => by have e' : i = q := e; rw [e']; rfl)) (fun c' hc => (List.mem_or_eq_of_mem_set hc).elim (h.trees c') (fun e => by rw [e]; exact ht))
 exact ⟨⟨h2.1, h2.2.1, he, by rw [hl]; exact h8, h2.2.2.1⟩, h2.2.2.2⟩
theorem RW.opened {K : Env} (hK : K.base.heap.size ≤ K.g) {w w' : World} {s : St} {v v' : Value} {KS : List (Ce × (Option Addr × Nat))} (h : RW K w s v KS) (rule p : Nat)
  (ha : AppTo w K.base.heap.size 98 8 v KS.length (KS.flatMap cec) 1 (cec (⟨rule, p, false, failR 0⟩, (none, 0))) v' w') :
  RW K (w'.setCell ⟨K.g, 3, none⟩ v') (open0 rule p s) v' (KS ++ [(⟨rule, p, false, failR 0⟩, (none, 0))]) ∧ RF w (w'.setCell ⟨K.g, 3, none⟩ v') ∧ hrow w' K.g #[.slice K.ro K.rn K.rc, .slice K.no K.nn K.nc, .slice K.wo K.wn K.wc, v, .bool s.round, .int .i64 s.left, .bool s.over] 62 := by
 have ht : ∀ c ∈ KS ++ [(⟨rule, p, false, failR 0⟩, (none, 0))], TrW w c.2.1 c.2.2 c.1.res.tree := by
  intro c hc
  rcases List.mem_append.1 hc with hc | hc
  ·exact h.trees c hc
  ·simp only [List.mem_singleton] at hc
   subst hc
   exact TrW.nil w
 have P : hrow w' K.g #[.slice K.ro K.rn K.rc, .slice K.no K.nn K.nc, .slice K.wo K.wn K.wc, v, .bool s.round, .int .i64 s.left, .bool s.over] 62 ∧ Below K.base.heap.size K.base w' ∧ (∀ c ∈ KS ++ [(⟨rule, p, false, failR 0⟩, (none, 0))], TrW w' c.2.1 c.2.2 c.1.res.tree) ∧ RF w w' ∧ w'.ownsRow K.base.heap.size 98 8 v' (KS.length + 1) (KS.flatMap cec ++ cec (⟨rule, p, false, failR 0⟩, (none, 0))) := by
  rcases ha with ⟨g, cap, hv, hv', hf, ho, _⟩ | ho
  ·have h2 := h.row' (hf.weak (fun i e => by have e' : i = g := e; rw [e', hv]; rfl)) ht
   exact ⟨h2.1, h2.2.1, h2.2.2.1, h2.2.2.2, ho⟩
  ·exact ⟨h.obj.below ho.2, h.low.trans (ho.2.mono h.low.size), fun c hc => (ht c hc).step (.below ho.2), .below ho.2, (ho.since h.low).1⟩
 obtain ⟨p1, p2, p3, p4, p5⟩ := P
 have hf := Fr.setCell w' ⟨K.g, 3, none⟩ v'
 refine ⟨⟨?_, p2.setCell (p := ⟨K.g, 3, none⟩) hK v', by simp [open0, h.eq], ?_, fun c hc => sv_fr2 (p3 c hc) hf (fun k cs e hr => ?_)⟩, p4.trans (RF.of_fr hf (fun k e => ⟨_, _, _, (by have e' : k = K.g := e; subst e'; exact p1.h), .inl rfl⟩)), p1⟩
 ·unfold hrow
  rw [heap_setCell_same _ _ _ _ _ _ p1.h]
  rfl
 ·rw [List.length_append, List.flatMap_append]
  refine owns_fr ?_ hf (fun k hk e => ?_)
  ·simpa using p5
  ·have e' : k = K.g := e
   subst e'
   exact owns_ne p5 p1 (by decide) hk
 ·have e' : k = K.g := e
  subst e'
  exact row_ne hr p1 (by decide) rfl
theorem RW.slice1 {K : Env} {w : World} {s : St} {v : Value} {KS : List (Ce × (Option Addr × Nat))} {c : Ce × (Option Addr × Nat)} (h : RW K w s v (KS ++ [c])) : ∃ bo bc, v = .slice bo (KS.length + 1) bc := by
 obtain ⟨a, cap, hv, _⟩ := Sv.of_owns h.row
 refine ⟨a, cap, ?_⟩
 rw [hv]
 simp
end Go.Proofs.Ytdnkffplkleolaa
