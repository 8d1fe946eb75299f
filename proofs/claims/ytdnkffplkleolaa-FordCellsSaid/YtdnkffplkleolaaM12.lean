/- Walks and plain laws: Rh Ha. -/
import Derived.Test.YtdnkffplkleolaaM10
import Derived.Test.YtdnkffplkleolaaM11
import Derived.Test.YtdnkffplkleolaaM09
import Derived.Test.YtdnkffplkleolaaM02
import Derived.Test.YtdnkffplkleolaaM03
import Derived.WalkLawsBesides
import Derived.WalkSpells
import Derived.Deep.Cut
import Derived.Deep.CutBlock
import Derived.Deep.RegionWith
import Derived.Deep.DeepCutAuto
import Derived.BigRegion
namespace Go.Proofs.Ytdnkffplkleolaa
open Go.RowKit
set_option maxRecDepth 100000
set_option maxHeartbeats 4000000

theorem RW.node {K : Env} (hK : EnvOk K) {n : Nat} {x : Nd} (hx : K.G.nodes[n]? = some x) : ∃ na ko kc, K.no = some na ∧ n < K.nn ∧ K.nn ≤ 9223372036854775807 ∧ x.text.size ≤ 9223372036854775807 ∧ Sv K.base ko x.kids.length kc 1 (inc x.kids) ∧
  ∀ w', Below K.base.heap.size K.base w' → w'.cell? (na.add (n * 9)) = some (.int .i64 x.kind) ∧ ∀ j v, 0 < j → (ndc (x, (ko, kc)))[j]? = some v → w'.cell? ⟨(na.add (n * 9)).block, (na.add (n * 9)).off + j, none⟩ = some v := by
 have hl : n < K.NK.length := by
  have := (List.getElem?_eq_some_iff.1 hx).1
  rw [← hK.gr.eq] at this
  simpa using this
 have he : (K.NK[n]'hl).1 = x := by
  have h := hx
  rw [← hK.gr.eq, List.getElem?_map, List.getElem?_eq_getElem hl] at h
  simpa using h
 obtain ⟨na, hna, hc⟩ := Sv.at ndc_len hK.gr.nod.sv (by decide) n hl
 have hm : K.NK[n]'hl ∈ K.NK := List.getElem_mem hl
 have hkd := hK.gr.nod.kids _ hm
 have htx := hK.gr.nod.txt _ hm
 have hnn := hK.gr.nod.sv.n_eq ndc_len (by decide)
 have hb := hK.gr.nod.sv.bound
 generalize K.NK[n]'hl = q at *
 obtain ⟨x', ko, kc⟩ := q
 simp only [] at he
 subst he
 refine ⟨na, ko, kc, hna, by omega, by omega, htx, hkd, fun w' hb' => ⟨?_, fun j v hj hv => ?_⟩⟩
 ·have e := hc 0 _ rfl
  exact (hb'.cell (World.block_lt_of_cell? _ _ e)).trans e
 ·have e := hc j v hv
  rw [add_off _ _ _ hj] at e
  exact (hb'.cell (World.block_lt_of_cell? _ _ e)).trans e

theorem rev_over_true (K : Env) (hK : EnvOk K) (w : World) (cs : List Ce) (L : Nat) (v : Value) (KS : List (Ce × (Option Addr × Nat))) (n p : Nat) (h : RW K w ⟨cs, true, L, true⟩ v KS) :
  Calls Try.prog 38 #[.pointer (some ⟨K.g, 0, none⟩), .int .i64 n, .int .i64 p] w (REnd K w (failR (-1), ⟨cs, true, L, true⟩)) := by
 have HB0 := Lib.hid (al1 (Below.refl w.heap.size w) (.cells #[.bool false, .int .i64 0, .int .i64 0, .slice none 0 0, .int .i64 0] 64))
 have HR0 := Lib.hid (hrow.new w #[.bool false, .int .i64 0, .int .i64 0, .slice none 0 0, .int .i64 0] 64)
 have H1 := Lib.hid (h.below HB0.out)
 have HLo : Hid (K.base.heap.size ≤ w.heap.size) := h.low.size
 clear h
 go_enter Try.func38, Try.ntmps38
 go_upto_region 1 with (fail)
 revert HB0 HR0 H1
 generalize w.alloc _ = w1
 generalize hh0 : w.heap.size = h0
 intro HB0 HR0 H1
 have HH0 := Lib.hid hh0
 have HF1 := Lib.hid (RF.below (hh0 ▸ HB0.out))
 clear HB0 hh0
 have p4 := H1.out.obj.cell 4
 have p5 := H1.out.obj.cell 5
 have p6 := H1.out.obj.cell 6
 have pf5 := H1.out.obj.frozen 5
 have pf6 := H1.out.obj.frozen 6
 simp at p4 p5 p6
 have HS6 := Lib.hid (H1.out.setOver hK.hg true)
 have HR6 := Lib.hid (HR0.out.rf HS6.out.2 (by decide) (by decide))
 have q4 : (w1.setCell ⟨K.g, 6, none⟩ (.bool true)).cell? ⟨K.g, 4, none⟩ = some (.bool true) := HS6.out.1.obj.cell 4
 go_upto_region 2 with (fail)
 revert HS6 HR6 q4
 generalize w1.setCell _ _ = w2
 intro HS6 HR6 q4
 have q6 := HS6.out.1.obj.cell 6
 simp at q6
 clear p4 p5 p6 pf5 pf6
 go_wp2_with fail
 refine (rfail_any w2 (-1)).mono ?_
 rintro e w6 ⟨rfl, hb6⟩
 simp only [rsv, rcs, failR, List.length_nil, Int.natCast_zero]
 have HB6 := Lib.hid hb6
 have HZ6 := Lib.hid (HR6.out.below hb6)
 clear hb6
 obtain ⟨zq0, zq1, zq2, zq3, zq4⟩ := (HZ6.out).c5
 obtain ⟨zf0, zf1, zf2, zf3, zf4⟩ := (HZ6.out).f5
 have zr5 := set5_row (.bool false) (.int .i64 0) (.int .i64 (-1)) (.slice none 0 0) (.int .i64 0) (HZ6.out)
 have zf5 := set5_fr w6 h0 (.bool false) (.int .i64 0) (.int .i64 (-1)) (.slice none 0 0) (.int .i64 0)
 unfold set5 at zr5 zf5
 have ZR5 := Lib.hid zr5
 have ZF5 := Lib.hid zf5
 clear zr5 zf5
 go_wp2_with fail
 revert ZR5 ZF5
 generalize ((((w6.setCell _ _).setCell _ _).setCell _ _).setCell _ _).setCell _ _ = wz
 intro ZR5 ZF5
 obtain ⟨zc0, zc1, zc2, zc3, zc4⟩ := (ZR5.out).c5
 exact bodyPost_ret (v := .agg #[.bool false, .int .i64 0, .int .i64 (-1), .slice none 0 0, .int .i64 0]) (by simp [results, Try.results38, go_sem, zc0, zc1, zc2, zc3, zc4]) rfl (by exact ⟨v, KS, none, 0, rfl, (HS6.out.1.below HB6.out).boxed HZ6.out (by have := HH0.out; have := HLo.out; omega) ZF5.out, (TrW.nil _).boxed HZ6.out ZF5.out, ((HF1.out.trans HS6.out.2).trans (.below HB6.out)).new ZF5.out (fun k e => by have e' : k = h0 := e; have := HH0.out; omega)⟩)
theorem rev_zero_true (K : Env) (hK : EnvOk K) (w : World) (cs : List Ce) (v : Value) (KS : List (Ce × (Option Addr × Nat))) (n p : Nat) (h : RW K w ⟨cs, true, 0, false⟩ v KS) :
  Calls Try.prog 38 #[.pointer (some ⟨K.g, 0, none⟩), .int .i64 n, .int .i64 p] w (REnd K w (failR (-1), ⟨cs, true, 0, true⟩)) := by
 have HB0 := Lib.hid (al1 (Below.refl w.heap.size w) (.cells #[.bool false, .int .i64 0, .int .i64 0, .slice none 0 0, .int .i64 0] 64))
 have HR0 := Lib.hid (hrow.new w #[.bool false, .int .i64 0, .int .i64 0, .slice none 0 0, .int .i64 0] 64)
 have H1 := Lib.hid (h.below HB0.out)
 have HLo : Hid (K.base.heap.size ≤ w.heap.size) := h.low.size
 clear h
 go_enter Try.func38, Try.ntmps38
 go_upto_region 1 with (fail)
 revert HB0 HR0 H1
 generalize w.alloc _ = w1
 generalize hh0 : w.heap.size = h0
 intro HB0 HR0 H1
 have HH0 := Lib.hid hh0
 have HF1 := Lib.hid (RF.below (hh0 ▸ HB0.out))
 clear HB0 hh0
 have p4 := H1.out.obj.cell 4
 have p5 := H1.out.obj.cell 5
 have p6 := H1.out.obj.cell 6
 have pf5 := H1.out.obj.frozen 5
 have pf6 := H1.out.obj.frozen 6
 simp at p4 p5 p6
 have HS6 := Lib.hid (H1.out.setOver hK.hg true)
 have HR6 := Lib.hid (HR0.out.rf HS6.out.2 (by decide) (by decide))
 have q4 : (w1.setCell ⟨K.g, 6, none⟩ (.bool true)).cell? ⟨K.g, 4, none⟩ = some (.bool true) := HS6.out.1.obj.cell 4
 go_upto_region 2 with (fail)
 revert HS6 HR6 q4
 generalize w1.setCell _ _ = w2
 intro HS6 HR6 q4
 have q6 := HS6.out.1.obj.cell 6
 simp at q6
 clear p4 p5 p6 pf5 pf6
 go_wp2_with fail
 refine (rfail_any w2 (-1)).mono ?_
 rintro e w6 ⟨rfl, hb6⟩
 simp only [rsv, rcs, failR, List.length_nil, Int.natCast_zero]
 have HB6 := Lib.hid hb6
 have HZ6 := Lib.hid (HR6.out.below hb6)
 clear hb6
 obtain ⟨zq0, zq1, zq2, zq3, zq4⟩ := (HZ6.out).c5
 obtain ⟨zf0, zf1, zf2, zf3, zf4⟩ := (HZ6.out).f5
 have zr5 := set5_row (.bool false) (.int .i64 0) (.int .i64 (-1)) (.slice none 0 0) (.int .i64 0) (HZ6.out)
 have zf5 := set5_fr w6 h0 (.bool false) (.int .i64 0) (.int .i64 (-1)) (.slice none 0 0) (.int .i64 0)
 unfold set5 at zr5 zf5
 have ZR5 := Lib.hid zr5
 have ZF5 := Lib.hid zf5
 clear zr5 zf5
 go_wp2_with fail
 revert ZR5 ZF5
 generalize ((((w6.setCell _ _).setCell _ _).setCell _ _).setCell _ _).setCell _ _ = wz
 intro ZR5 ZF5
 obtain ⟨zc0, zc1, zc2, zc3, zc4⟩ := (ZR5.out).c5
 exact bodyPost_ret (v := .agg #[.bool false, .int .i64 0, .int .i64 (-1), .slice none 0 0, .int .i64 0]) (by simp [results, Try.results38, go_sem, zc0, zc1, zc2, zc3, zc4]) rfl (by exact ⟨v, KS, none, 0, rfl, (HS6.out.1.below HB6.out).boxed HZ6.out (by have := HH0.out; have := HLo.out; omega) ZF5.out, (TrW.nil _).boxed HZ6.out ZF5.out, ((HF1.out.trans HS6.out.2).trans (.below HB6.out)).new ZF5.out (fun k e => by have e' : k = h0 := e; have := HH0.out; omega)⟩)
theorem rev_over_false (K : Env) (hK : EnvOk K) (w : World) (cs : List Ce) (L : Nat) (v : Value) (KS : List (Ce × (Option Addr × Nat))) (n p : Nat) (h : RW K w ⟨cs, false, L, true⟩ v KS) :
  Calls Try.prog 38 #[.pointer (some ⟨K.g, 0, none⟩), .int .i64 n, .int .i64 p] w (REnd K w (failR (-1), ⟨cs, false, L, true⟩)) := by
 have HB0 := Lib.hid (al1 (Below.refl w.heap.size w) (.cells #[.bool false, .int .i64 0, .int .i64 0, .slice none 0 0, .int .i64 0] 64))
 have HR0 := Lib.hid (hrow.new w #[.bool false, .int .i64 0, .int .i64 0, .slice none 0 0, .int .i64 0] 64)
 have H1 := Lib.hid (h.below HB0.out)
 have HLo : Hid (K.base.heap.size ≤ w.heap.size) := h.low.size
 clear h
 go_enter Try.func38, Try.ntmps38
 go_upto_region 1 with (fail)
 revert HB0 HR0 H1
 generalize w.alloc _ = w1
 generalize hh0 : w.heap.size = h0
 intro HB0 HR0 H1
 have HH0 := Lib.hid hh0
 have HF1 := Lib.hid (RF.below (hh0 ▸ HB0.out))
 clear HB0 hh0
 have p4 := H1.out.obj.cell 4
 have p5 := H1.out.obj.cell 5
 have p6 := H1.out.obj.cell 6
 have pf5 := H1.out.obj.frozen 5
 have pf6 := H1.out.obj.frozen 6
 simp at p4 p5 p6
 have HS6 := Lib.hid (H1.out.setOver hK.hg true)
 have HR6 := Lib.hid (HR0.out.rf HS6.out.2 (by decide) (by decide))
 have q4 : (w1.setCell ⟨K.g, 6, none⟩ (.bool true)).cell? ⟨K.g, 4, none⟩ = some (.bool false) := HS6.out.1.obj.cell 4
 go_upto_region 2 with (fail)
 revert HS6 HR6 q4
 generalize w1.setCell _ _ = w2
 intro HS6 HR6 q4
 have q6 := HS6.out.1.obj.cell 6
 simp at q6
 clear p4 p5 p6 pf5 pf6
 go_wp2_with fail
 refine (rfail_any w2 (-1)).mono ?_
 rintro e w6 ⟨rfl, hb6⟩
 simp only [rsv, rcs, failR, List.length_nil, Int.natCast_zero]
 have HB6 := Lib.hid hb6
 have HZ6 := Lib.hid (HR6.out.below hb6)
 clear hb6
 obtain ⟨zq0, zq1, zq2, zq3, zq4⟩ := (HZ6.out).c5
 obtain ⟨zf0, zf1, zf2, zf3, zf4⟩ := (HZ6.out).f5
 have zr5 := set5_row (.bool false) (.int .i64 0) (.int .i64 (-1)) (.slice none 0 0) (.int .i64 0) (HZ6.out)
 have zf5 := set5_fr w6 h0 (.bool false) (.int .i64 0) (.int .i64 (-1)) (.slice none 0 0) (.int .i64 0)
 unfold set5 at zr5 zf5
 have ZR5 := Lib.hid zr5
 have ZF5 := Lib.hid zf5
 clear zr5 zf5
 go_wp2_with fail
 revert ZR5 ZF5
 generalize ((((w6.setCell _ _).setCell _ _).setCell _ _).setCell _ _).setCell _ _ = wz
 intro ZR5 ZF5
 obtain ⟨zc0, zc1, zc2, zc3, zc4⟩ := (ZR5.out).c5
 exact bodyPost_ret (v := .agg #[.bool false, .int .i64 0, .int .i64 (-1), .slice none 0 0, .int .i64 0]) (by simp [results, Try.results38, go_sem, zc0, zc1, zc2, zc3, zc4]) rfl (by exact ⟨v, KS, none, 0, rfl, (HS6.out.1.below HB6.out).boxed HZ6.out (by have := HH0.out; have := HLo.out; omega) ZF5.out, (TrW.nil _).boxed HZ6.out ZF5.out, ((HF1.out.trans HS6.out.2).trans (.below HB6.out)).new ZF5.out (fun k e => by have e' : k = h0 := e; have := HH0.out; omega)⟩)
theorem rev_zero_false (K : Env) (hK : EnvOk K) (w : World) (cs : List Ce) (v : Value) (KS : List (Ce × (Option Addr × Nat))) (n p : Nat) (h : RW K w ⟨cs, false, 0, false⟩ v KS) :
  Calls Try.prog 38 #[.pointer (some ⟨K.g, 0, none⟩), .int .i64 n, .int .i64 p] w (REnd K w (failR (-1), ⟨cs, false, 0, true⟩)) := by
 have HB0 := Lib.hid (al1 (Below.refl w.heap.size w) (.cells #[.bool false, .int .i64 0, .int .i64 0, .slice none 0 0, .int .i64 0] 64))
 have HR0 := Lib.hid (hrow.new w #[.bool false, .int .i64 0, .int .i64 0, .slice none 0 0, .int .i64 0] 64)
 have H1 := Lib.hid (h.below HB0.out)
 have HLo : Hid (K.base.heap.size ≤ w.heap.size) := h.low.size
 clear h
 go_enter Try.func38, Try.ntmps38
 go_upto_region 1 with (fail)
 revert HB0 HR0 H1
 generalize w.alloc _ = w1
 generalize hh0 : w.heap.size = h0
 intro HB0 HR0 H1
 have HH0 := Lib.hid hh0
 have HF1 := Lib.hid (RF.below (hh0 ▸ HB0.out))
 clear HB0 hh0
 have p4 := H1.out.obj.cell 4
 have p5 := H1.out.obj.cell 5
 have p6 := H1.out.obj.cell 6
 have pf5 := H1.out.obj.frozen 5
 have pf6 := H1.out.obj.frozen 6
 simp at p4 p5 p6
 have HS6 := Lib.hid (H1.out.setOver hK.hg true)
 have HR6 := Lib.hid (HR0.out.rf HS6.out.2 (by decide) (by decide))
 have q4 : (w1.setCell ⟨K.g, 6, none⟩ (.bool true)).cell? ⟨K.g, 4, none⟩ = some (.bool false) := HS6.out.1.obj.cell 4
 go_upto_region 2 with (fail)
 revert HS6 HR6 q4
 generalize w1.setCell _ _ = w2
 intro HS6 HR6 q4
 have q6 := HS6.out.1.obj.cell 6
 simp at q6
 clear p4 p5 p6 pf5 pf6
 go_wp2_with fail
 refine (rfail_any w2 (-1)).mono ?_
 rintro e w6 ⟨rfl, hb6⟩
 simp only [rsv, rcs, failR, List.length_nil, Int.natCast_zero]
 have HB6 := Lib.hid hb6
 have HZ6 := Lib.hid (HR6.out.below hb6)
 clear hb6
 obtain ⟨zq0, zq1, zq2, zq3, zq4⟩ := (HZ6.out).c5
 obtain ⟨zf0, zf1, zf2, zf3, zf4⟩ := (HZ6.out).f5
 have zr5 := set5_row (.bool false) (.int .i64 0) (.int .i64 (-1)) (.slice none 0 0) (.int .i64 0) (HZ6.out)
 have zf5 := set5_fr w6 h0 (.bool false) (.int .i64 0) (.int .i64 (-1)) (.slice none 0 0) (.int .i64 0)
 unfold set5 at zr5 zf5
 have ZR5 := Lib.hid zr5
 have ZF5 := Lib.hid zf5
 clear zr5 zf5
 go_wp2_with fail
 revert ZR5 ZF5
 generalize ((((w6.setCell _ _).setCell _ _).setCell _ _).setCell _ _).setCell _ _ = wz
 intro ZR5 ZF5
 obtain ⟨zc0, zc1, zc2, zc3, zc4⟩ := (ZR5.out).c5
 exact bodyPost_ret (v := .agg #[.bool false, .int .i64 0, .int .i64 (-1), .slice none 0 0, .int .i64 0]) (by simp [results, Try.results38, go_sem, zc0, zc1, zc2, zc3, zc4]) rfl (by exact ⟨v, KS, none, 0, rfl, (HS6.out.1.below HB6.out).boxed HZ6.out (by have := HH0.out; have := HLo.out; omega) ZF5.out, (TrW.nil _).boxed HZ6.out ZF5.out, ((HF1.out.trans HS6.out.2).trans (.below HB6.out)).new ZF5.out (fun k e => by have e' : k = h0 := e; have := HH0.out; omega)⟩)
theorem rev_round (K : Env) (hK : EnvOk K) (w : World) (cs : List Ce) (L : Nat) (v : Value) (KS : List (Ce × (Option Addr × Nat))) (n p : Nat) (h : RW K w ⟨cs, true, L + 1, false⟩ v KS) :
  Calls Try.prog 38 #[.pointer (some ⟨K.g, 0, none⟩), .int .i64 n, .int .i64 p] w (REnd K w (failR (-1), ⟨cs, true, L + 1, false⟩)) := by
 have HB0 := Lib.hid (al1 (Below.refl w.heap.size w) (.cells #[.bool false, .int .i64 0, .int .i64 0, .slice none 0 0, .int .i64 0] 64))
 have HR0 := Lib.hid (hrow.new w #[.bool false, .int .i64 0, .int .i64 0, .slice none 0 0, .int .i64 0] 64)
 have H1 := Lib.hid (h.below HB0.out)
 have HLo : Hid (K.base.heap.size ≤ w.heap.size) := h.low.size
 clear h
 go_enter Try.func38, Try.ntmps38
 go_upto_region 1 with (fail)
 revert HB0 HR0 H1
 generalize w.alloc _ = w1
 generalize hh0 : w.heap.size = h0
 intro HB0 HR0 H1
 have HH0 := Lib.hid hh0
 have HF1 := Lib.hid (RF.below (hh0 ▸ HB0.out))
 clear HB0 hh0
 have p4 := H1.out.obj.cell 4
 have p5 := H1.out.obj.cell 5
 have p6 := H1.out.obj.cell 6
 have pf5 := H1.out.obj.frozen 5
 have pf6 := H1.out.obj.frozen 6
 simp at p4 p5 p6
 have hl0 : ((L : Int) + 1 == 0) = false := by simp; omega
 have HS6 := Lib.hid (H1.out.setOver hK.hg false)
 have HR6 := Lib.hid (HR0.out.rf HS6.out.2 (by decide) (by decide))
 have q4 : (w1.setCell ⟨K.g, 6, none⟩ (.bool false)).cell? ⟨K.g, 4, none⟩ = some (.bool true) := HS6.out.1.obj.cell 4
 go_upto_region 2 with (fail)
 revert HS6 HR6 q4
 generalize w1.setCell _ _ = w2
 intro HS6 HR6 q4
 have q6 := HS6.out.1.obj.cell 6
 simp at q6
 clear p4 p5 p6 pf5 pf6
 go_wp2_with fail
 refine (rfail_any w2 (-1)).mono ?_
 rintro e w6 ⟨rfl, hb6⟩
 simp only [rsv, rcs, failR, List.length_nil, Int.natCast_zero]
 have HB6 := Lib.hid hb6
 have HZ6 := Lib.hid (HR6.out.below hb6)
 clear hb6
 obtain ⟨zq0, zq1, zq2, zq3, zq4⟩ := (HZ6.out).c5
 obtain ⟨zf0, zf1, zf2, zf3, zf4⟩ := (HZ6.out).f5
 have zr5 := set5_row (.bool false) (.int .i64 0) (.int .i64 (-1)) (.slice none 0 0) (.int .i64 0) (HZ6.out)
 have zf5 := set5_fr w6 h0 (.bool false) (.int .i64 0) (.int .i64 (-1)) (.slice none 0 0) (.int .i64 0)
 unfold set5 at zr5 zf5
 have ZR5 := Lib.hid zr5
 have ZF5 := Lib.hid zf5
 clear zr5 zf5
 go_wp2_with fail
 revert ZR5 ZF5
 generalize ((((w6.setCell _ _).setCell _ _).setCell _ _).setCell _ _).setCell _ _ = wz
 intro ZR5 ZF5
 obtain ⟨zc0, zc1, zc2, zc3, zc4⟩ := (ZR5.out).c5
 exact bodyPost_ret (v := .agg #[.bool false, .int .i64 0, .int .i64 (-1), .slice none 0 0, .int .i64 0]) (by simp [results, Try.results38, go_sem, zc0, zc1, zc2, zc3, zc4]) rfl (by exact ⟨v, KS, none, 0, rfl, (HS6.out.1.below HB6.out).boxed HZ6.out (by have := HH0.out; have := HLo.out; omega) ZF5.out, (TrW.nil _).boxed HZ6.out ZF5.out, ((HF1.out.trans HS6.out.2).trans (.below HB6.out)).new ZF5.out (fun k e => by have e' : k = h0 := e; have := HH0.out; omega)⟩)
theorem rev1 (K : Env) (hK : EnvOk K) (f : Nat) (hE : EvC K f) (w : World) (cs : List Ce) (L : Nat) (v : Value) (KS : List (Ce × (Option Addr × Nat))) (n p : Nat) (x : Nd) (h : RW K w ⟨cs, false, L + 1, false⟩ v KS) (hc : L ≤ f ∧ f + 1 ≤ 20000 ∧ cs.length + (L + 1) ≤ 20001)
  (hs : StOk K.G.rules.length K.W.length ⟨cs, false, L, false⟩) (hx : K.G.nodes[n]? = some x) (hk : x.kind = 1) (hp : p ≤ K.W.length) :
  Calls Try.prog 38 #[.pointer (some ⟨K.g, 0, none⟩), .int .i64 n, .int .i64 p] w (REnd K w (toR p, ⟨cs, false, L, false⟩)) := by
 obtain ⟨na, ko, kc, hna, hnl, hnb, htx, hkids, hcell⟩ := RW.node hK hx
 have HE := Lib.hid hE
 have HC := Lib.hid hc
 have HS := Lib.hid hs
 have HX := Lib.hid hx
 have HKk := Lib.hid hk
 have HP := Lib.hid hp
 have HNa := Lib.hid hna
 have HKd := Lib.hid hkids
 have HCell := Lib.hid hcell
 have hbn := hK.gr.nod.sv.bound
 have hkb := hkids.bound
 have hLb : L ≤ 20000 := by omega
 have hpb : p ≤ 2048 := by have := hK.w2; have := hK.wl; omega
 clear hE hc hs hx hk hna hkids hcell
 have HB0 := Lib.hid (al1 (Below.refl w.heap.size w) (.cells #[.bool false, .int .i64 0, .int .i64 0, .slice none 0 0, .int .i64 0] 64))
 have HR0 := Lib.hid (hrow.new w #[.bool false, .int .i64 0, .int .i64 0, .slice none 0 0, .int .i64 0] 64)
 have H1 := Lib.hid (h.below HB0.out)
 have HLo : Hid (K.base.heap.size ≤ w.heap.size) := h.low.size
 clear h
 go_enter Try.func38, Try.ntmps38
 go_upto_region 1 with (fail)
 revert HB0 HR0 H1
 generalize w.alloc _ = w1
 generalize hh0 : w.heap.size = h0
 intro HB0 HR0 H1
 have HH0 := Lib.hid hh0
 have HF1 := Lib.hid (RF.below (hh0 ▸ HB0.out))
 clear HB0 hh0
 have p4 := H1.out.obj.cell 4
 have p5 := H1.out.obj.cell 5
 have p6 := H1.out.obj.cell 6
 have pf5 := H1.out.obj.frozen 5
 have pf6 := H1.out.obj.frozen 6
 simp at p4 p5 p6
 have HS6 := Lib.hid (H1.out.setOver hK.hg false)
 have HS5 := Lib.hid (HS6.out.1.setLeft hK.hg L)
 have HF2 := Lib.hid (HF1.out.trans (HS6.out.2.trans HS5.out.2))
 have HW2 : Hid (RW K ((w1.setCell ⟨K.g, 6, none⟩ (.bool false)).setCell ⟨K.g, 5, none⟩ (.int .i64 L)) ⟨cs, false, L, false⟩ v KS) := HS5.out.1
 have HR2 := Lib.hid ((HR0.out.rf HS6.out.2 (by decide) (by decide)).rf HS5.out.2 (by decide) (by decide))
 clear HS6 HS5 HF1 H1 HR0
 go_upto_region 5 with (fail)
 revert HF2 HW2 HR2
 generalize (w1.setCell _ _).setCell _ _ = w2
 intro HF2 HW2 HR2
 clear p4 p5 p6 pf5 pf6
 have p1 : w2.cell? ⟨K.g, 1, none⟩ = some (.slice (some na) K.nn K.nc) := by rw [← HNa.out]; exact HW2.out.obj.cell 1
 have c0 : w2.cell? (na.add (n * 9)) = some (.int .i64 1) := HKk.out ▸ (HCell.out w2 HW2.out.low).1
 have cc := (HCell.out w2 HW2.out.low).2
 have c1 : w2.cell? ⟨(na.add (n * 9)).block, (na.add (n * 9)).off + 1, none⟩ = some (.int .u64 x.c0) := cc 1 _ (by decide) rfl
 have c2 : w2.cell? ⟨(na.add (n * 9)).block, (na.add (n * 9)).off + 2, none⟩ = some (.int .u64 x.c1) := cc 2 _ (by decide) rfl
 have c3 : w2.cell? ⟨(na.add (n * 9)).block, (na.add (n * 9)).off + 3, none⟩ = some (.int .u64 x.c2) := cc 3 _ (by decide) rfl
 have c4 : w2.cell? ⟨(na.add (n * 9)).block, (na.add (n * 9)).off + 4, none⟩ = some (.int .u64 x.c3) := cc 4 _ (by decide) rfl
 have c5 : w2.cell? ⟨(na.add (n * 9)).block, (na.add (n * 9)).off + 5, none⟩ = some (.string x.text) := cc 5 _ (by decide) rfl
 have c6 : w2.cell? ⟨(na.add (n * 9)).block, (na.add (n * 9)).off + 6, none⟩ = some (.int .i64 x.rule) := cc 6 _ (by decide) rfl
 have c7 : w2.cell? ⟨(na.add (n * 9)).block, (na.add (n * 9)).off + 7, none⟩ = some (.int .i64 x.lev) := cc 7 _ (by decide) rfl
 have c8 : w2.cell? ⟨(na.add (n * 9)).block, (na.add (n * 9)).off + 8, none⟩ = some (.slice ko x.kids.length kc) := cc 8 _ (by decide) rfl
 have hnl' : (n : Int) < K.nn := by omega
 have hn0 : (0 : Int) ≤ n := by omega
 clear cc
 have HXn := Lib.hid (hrow.new w2 #[.int .i64 1, .int .u64 x.c0, .int .u64 x.c1, .int .u64 x.c2, .int .u64 x.c3, .string x.text, .int .i64 x.rule, .int .i64 x.lev, .slice ko x.kids.length kc] 57)
 have HAl := Lib.hid (Below.refl w2.heap.size w2 |>.alloc (Nat.le_refl _) (.cells #[.int .i64 1, .int .u64 x.c0, .int .u64 x.c1, .int .u64 x.c2, .int .u64 x.c3, .string x.text, .int .i64 x.rule, .int .i64 x.lev, .slice ko x.kids.length kc] 57))
 have HW3 := Lib.hid (HW2.out.below HAl.out)
 have HF3 := Lib.hid (HF2.out.trans (.below HAl.out))
 have HR3 := Lib.hid (HR2.out.below HAl.out)
 have HLx : Hid (h0 < w2.heap.size) := HR2.out.lt
 go_upto_region 6 with (fail)
 revert HXn HW3 HF3 HR3 HLx
 generalize w2.alloc _ = w3
 generalize w2.heap.size = hx
 intro HXn HW3 HF3 HR3 HLx
 clear HAl HW2 HF2 HR2 c0 c1 c2 c3 c4 c5 c6 c7 c8 p1
 obtain ⟨x0, x1, x2, x3, x4, x5, x6, x7, x8⟩ := (HXn.out).c9
 go_wp2_with fail
 refine (rto_any w3 p).mono ?_
 rintro e w6 ⟨rfl, hb6⟩
 simp only [rsv, rcs, toR, List.length_nil, Int.natCast_zero]
 have HB6 := Lib.hid hb6
 have HZ6 := Lib.hid (HR3.out.below hb6)
 clear hb6
 obtain ⟨zq0, zq1, zq2, zq3, zq4⟩ := (HZ6.out).c5
 obtain ⟨zf0, zf1, zf2, zf3, zf4⟩ := (HZ6.out).f5
 have zr5 := set5_row (.bool true) (.int .i64 p) (.int .i64 (-1)) (.slice none 0 0) (.int .i64 0) (HZ6.out)
 have zf5 := set5_fr w6 h0 (.bool true) (.int .i64 p) (.int .i64 (-1)) (.slice none 0 0) (.int .i64 0)
 unfold set5 at zr5 zf5
 have ZR5 := Lib.hid zr5
 have ZF5 := Lib.hid zf5
 clear zr5 zf5
 go_wp2_with fail
 revert ZR5 ZF5
 generalize ((((w6.setCell _ _).setCell _ _).setCell _ _).setCell _ _).setCell _ _ = wz
 intro ZR5 ZF5
 obtain ⟨zc0, zc1, zc2, zc3, zc4⟩ := (ZR5.out).c5
 exact bodyPost_ret (v := .agg #[.bool true, .int .i64 p, .int .i64 (-1), .slice none 0 0, .int .i64 0]) (by simp [results, Try.results38, go_sem, zc0, zc1, zc2, zc3, zc4]) rfl (by exact ⟨v, KS, none, 0, rfl, (HW3.out.below HB6.out).boxed HZ6.out (by have := HH0.out; have := HLo.out; omega) ZF5.out, (TrW.nil _).boxed HZ6.out ZF5.out, (HF3.out.trans (.below HB6.out)).new ZF5.out (fun k e => by have e' : k = h0 := e; have := HH0.out; omega)⟩)
theorem rev2y (K : Env) (hK : EnvOk K) (f : Nat) (hE : EvC K f) (w : World) (cs : List Ce) (L : Nat) (v : Value) (KS : List (Ce × (Option Addr × Nat))) (n p : Nat) (x : Nd) (h : RW K w ⟨cs, false, L + 1, false⟩ v KS) (hc : L ≤ f ∧ f + 1 ≤ 20000 ∧ cs.length + (L + 1) ≤ 20001)
  (hs : StOk K.G.rules.length K.W.length ⟨cs, false, L, false⟩) (hx : K.G.nodes[n]? = some x) (hk : x.kind = 2) (hp : p ≤ K.W.length) (hpl : p < K.W.length) :
  Calls Try.prog 38 #[.pointer (some ⟨K.g, 0, none⟩), .int .i64 n, .int .i64 p] w (REnd K w (toR (p + 1), ⟨cs, false, L, false⟩)) := by
 obtain ⟨na, ko, kc, hna, hnl, hnb, htx, hkids, hcell⟩ := RW.node hK hx
 have HE := Lib.hid hE
 have HC := Lib.hid hc
 have HS := Lib.hid hs
 have HX := Lib.hid hx
 have HKk := Lib.hid hk
 have HP := Lib.hid hp
 have HNa := Lib.hid hna
 have HKd := Lib.hid hkids
 have HCell := Lib.hid hcell
 have hbn := hK.gr.nod.sv.bound
 have hkb := hkids.bound
 have hLb : L ≤ 20000 := by omega
 have hpb : p ≤ 2048 := by have := hK.w2; have := hK.wl; omega
 clear hE hc hs hx hk hna hkids hcell
 have HB0 := Lib.hid (al1 (Below.refl w.heap.size w) (.cells #[.bool false, .int .i64 0, .int .i64 0, .slice none 0 0, .int .i64 0] 64))
 have HR0 := Lib.hid (hrow.new w #[.bool false, .int .i64 0, .int .i64 0, .slice none 0 0, .int .i64 0] 64)
 have H1 := Lib.hid (h.below HB0.out)
 have HLo : Hid (K.base.heap.size ≤ w.heap.size) := h.low.size
 clear h
 go_enter Try.func38, Try.ntmps38
 go_upto_region 1 with (fail)
 revert HB0 HR0 H1
 generalize w.alloc _ = w1
 generalize hh0 : w.heap.size = h0
 intro HB0 HR0 H1
 have HH0 := Lib.hid hh0
 have HF1 := Lib.hid (RF.below (hh0 ▸ HB0.out))
 clear HB0 hh0
 have p4 := H1.out.obj.cell 4
 have p5 := H1.out.obj.cell 5
 have p6 := H1.out.obj.cell 6
 have pf5 := H1.out.obj.frozen 5
 have pf6 := H1.out.obj.frozen 6
 simp at p4 p5 p6
 have HS6 := Lib.hid (H1.out.setOver hK.hg false)
 have HS5 := Lib.hid (HS6.out.1.setLeft hK.hg L)
 have HF2 := Lib.hid (HF1.out.trans (HS6.out.2.trans HS5.out.2))
 have HW2 : Hid (RW K ((w1.setCell ⟨K.g, 6, none⟩ (.bool false)).setCell ⟨K.g, 5, none⟩ (.int .i64 L)) ⟨cs, false, L, false⟩ v KS) := HS5.out.1
 have HR2 := Lib.hid ((HR0.out.rf HS6.out.2 (by decide) (by decide)).rf HS5.out.2 (by decide) (by decide))
 clear HS6 HS5 HF1 H1 HR0
 go_upto_region 5 with (fail)
 revert HF2 HW2 HR2
 generalize (w1.setCell _ _).setCell _ _ = w2
 intro HF2 HW2 HR2
 clear p4 p5 p6 pf5 pf6
 have p1 : w2.cell? ⟨K.g, 1, none⟩ = some (.slice (some na) K.nn K.nc) := by rw [← HNa.out]; exact HW2.out.obj.cell 1
 have c0 : w2.cell? (na.add (n * 9)) = some (.int .i64 2) := HKk.out ▸ (HCell.out w2 HW2.out.low).1
 have cc := (HCell.out w2 HW2.out.low).2
 have c1 : w2.cell? ⟨(na.add (n * 9)).block, (na.add (n * 9)).off + 1, none⟩ = some (.int .u64 x.c0) := cc 1 _ (by decide) rfl
 have c2 : w2.cell? ⟨(na.add (n * 9)).block, (na.add (n * 9)).off + 2, none⟩ = some (.int .u64 x.c1) := cc 2 _ (by decide) rfl
 have c3 : w2.cell? ⟨(na.add (n * 9)).block, (na.add (n * 9)).off + 3, none⟩ = some (.int .u64 x.c2) := cc 3 _ (by decide) rfl
 have c4 : w2.cell? ⟨(na.add (n * 9)).block, (na.add (n * 9)).off + 4, none⟩ = some (.int .u64 x.c3) := cc 4 _ (by decide) rfl
 have c5 : w2.cell? ⟨(na.add (n * 9)).block, (na.add (n * 9)).off + 5, none⟩ = some (.string x.text) := cc 5 _ (by decide) rfl
 have c6 : w2.cell? ⟨(na.add (n * 9)).block, (na.add (n * 9)).off + 6, none⟩ = some (.int .i64 x.rule) := cc 6 _ (by decide) rfl
 have c7 : w2.cell? ⟨(na.add (n * 9)).block, (na.add (n * 9)).off + 7, none⟩ = some (.int .i64 x.lev) := cc 7 _ (by decide) rfl
 have c8 : w2.cell? ⟨(na.add (n * 9)).block, (na.add (n * 9)).off + 8, none⟩ = some (.slice ko x.kids.length kc) := cc 8 _ (by decide) rfl
 have hnl' : (n : Int) < K.nn := by omega
 have hn0 : (0 : Int) ≤ n := by omega
 clear cc
 have HXn := Lib.hid (hrow.new w2 #[.int .i64 2, .int .u64 x.c0, .int .u64 x.c1, .int .u64 x.c2, .int .u64 x.c3, .string x.text, .int .i64 x.rule, .int .i64 x.lev, .slice ko x.kids.length kc] 57)
 have HAl := Lib.hid (Below.refl w2.heap.size w2 |>.alloc (Nat.le_refl _) (.cells #[.int .i64 2, .int .u64 x.c0, .int .u64 x.c1, .int .u64 x.c2, .int .u64 x.c3, .string x.text, .int .i64 x.rule, .int .i64 x.lev, .slice ko x.kids.length kc] 57))
 have HW3 := Lib.hid (HW2.out.below HAl.out)
 have HF3 := Lib.hid (HF2.out.trans (.below HAl.out))
 have HR3 := Lib.hid (HR2.out.below HAl.out)
 have HLx : Hid (h0 < w2.heap.size) := HR2.out.lt
 go_upto_region 6 with (fail)
 revert HXn HW3 HF3 HR3 HLx
 generalize w2.alloc _ = w3
 generalize w2.heap.size = hx
 intro HXn HW3 HF3 HR3 HLx
 clear HAl HW2 HF2 HR2 c0 c1 c2 c3 c4 c5 c6 c7 c8 p1
 obtain ⟨x0, x1, x2, x3, x4, x5, x6, x7, x8⟩ := (HXn.out).c9
 have p2 : w3.cell? ⟨K.g, 2, none⟩ = some (.slice K.wo K.wn K.wc) := HW3.out.obj.cell 2
 have hwn : (p : Int) < K.wn := by have := hK.wl; omega
 have hwb := hK.inp.bound
 go_wp2_with fail
 refine (rto_any w3 (p + 1)).mono ?_
 rintro e w6 ⟨rfl, hb6⟩
 simp only [rsv, rcs, toR, List.length_nil, Int.natCast_zero]
 have HB6 := Lib.hid hb6
 have HZ6 := Lib.hid (HR3.out.below hb6)
 clear hb6
 obtain ⟨zq0, zq1, zq2, zq3, zq4⟩ := (HZ6.out).c5
 obtain ⟨zf0, zf1, zf2, zf3, zf4⟩ := (HZ6.out).f5
 have zr5 := set5_row (.bool true) (.int .i64 (p + 1)) (.int .i64 (-1)) (.slice none 0 0) (.int .i64 0) (HZ6.out)
 have zf5 := set5_fr w6 h0 (.bool true) (.int .i64 (p + 1)) (.int .i64 (-1)) (.slice none 0 0) (.int .i64 0)
 unfold set5 at zr5 zf5
 have ZR5 := Lib.hid zr5
 have ZF5 := Lib.hid zf5
 clear zr5 zf5
 go_wp2_with fail
 revert ZR5 ZF5
 generalize ((((w6.setCell _ _).setCell _ _).setCell _ _).setCell _ _).setCell _ _ = wz
 intro ZR5 ZF5
 obtain ⟨zc0, zc1, zc2, zc3, zc4⟩ := (ZR5.out).c5
 exact bodyPost_ret (v := .agg #[.bool true, .int .i64 (p + 1), .int .i64 (-1), .slice none 0 0, .int .i64 0]) (by simp [results, Try.results38, go_sem, zc0, zc1, zc2, zc3, zc4]) rfl (by exact ⟨v, KS, none, 0, rfl, (HW3.out.below HB6.out).boxed HZ6.out (by have := HH0.out; have := HLo.out; omega) ZF5.out, (TrW.nil _).boxed HZ6.out ZF5.out, (HF3.out.trans (.below HB6.out)).new ZF5.out (fun k e => by have e' : k = h0 := e; have := HH0.out; omega)⟩)
theorem rev2n (K : Env) (hK : EnvOk K) (f : Nat) (hE : EvC K f) (w : World) (cs : List Ce) (L : Nat) (v : Value) (KS : List (Ce × (Option Addr × Nat))) (n p : Nat) (x : Nd) (h : RW K w ⟨cs, false, L + 1, false⟩ v KS) (hc : L ≤ f ∧ f + 1 ≤ 20000 ∧ cs.length + (L + 1) ≤ 20001)
  (hs : StOk K.G.rules.length K.W.length ⟨cs, false, L, false⟩) (hx : K.G.nodes[n]? = some x) (hk : x.kind = 2) (hp : p ≤ K.W.length) (hpl : K.W.length ≤ p) :
  Calls Try.prog 38 #[.pointer (some ⟨K.g, 0, none⟩), .int .i64 n, .int .i64 p] w (REnd K w (failR p, ⟨cs, false, L, false⟩)) := by
 obtain ⟨na, ko, kc, hna, hnl, hnb, htx, hkids, hcell⟩ := RW.node hK hx
 have HE := Lib.hid hE
 have HC := Lib.hid hc
 have HS := Lib.hid hs
 have HX := Lib.hid hx
 have HKk := Lib.hid hk
 have HP := Lib.hid hp
 have HNa := Lib.hid hna
 have HKd := Lib.hid hkids
 have HCell := Lib.hid hcell
 have hbn := hK.gr.nod.sv.bound
 have hkb := hkids.bound
 have hLb : L ≤ 20000 := by omega
 have hpb : p ≤ 2048 := by have := hK.w2; have := hK.wl; omega
 clear hE hc hs hx hk hna hkids hcell
 have HB0 := Lib.hid (al1 (Below.refl w.heap.size w) (.cells #[.bool false, .int .i64 0, .int .i64 0, .slice none 0 0, .int .i64 0] 64))
 have HR0 := Lib.hid (hrow.new w #[.bool false, .int .i64 0, .int .i64 0, .slice none 0 0, .int .i64 0] 64)
 have H1 := Lib.hid (h.below HB0.out)
 have HLo : Hid (K.base.heap.size ≤ w.heap.size) := h.low.size
 clear h
 go_enter Try.func38, Try.ntmps38
 go_upto_region 1 with (fail)
 revert HB0 HR0 H1
 generalize w.alloc _ = w1
 generalize hh0 : w.heap.size = h0
 intro HB0 HR0 H1
 have HH0 := Lib.hid hh0
 have HF1 := Lib.hid (RF.below (hh0 ▸ HB0.out))
 clear HB0 hh0
 have p4 := H1.out.obj.cell 4
 have p5 := H1.out.obj.cell 5
 have p6 := H1.out.obj.cell 6
 have pf5 := H1.out.obj.frozen 5
 have pf6 := H1.out.obj.frozen 6
 simp at p4 p5 p6
 have HS6 := Lib.hid (H1.out.setOver hK.hg false)
 have HS5 := Lib.hid (HS6.out.1.setLeft hK.hg L)
 have HF2 := Lib.hid (HF1.out.trans (HS6.out.2.trans HS5.out.2))
 have HW2 : Hid (RW K ((w1.setCell ⟨K.g, 6, none⟩ (.bool false)).setCell ⟨K.g, 5, none⟩ (.int .i64 L)) ⟨cs, false, L, false⟩ v KS) := HS5.out.1
 have HR2 := Lib.hid ((HR0.out.rf HS6.out.2 (by decide) (by decide)).rf HS5.out.2 (by decide) (by decide))
 clear HS6 HS5 HF1 H1 HR0
 go_upto_region 5 with (fail)
 revert HF2 HW2 HR2
 generalize (w1.setCell _ _).setCell _ _ = w2
 intro HF2 HW2 HR2
 clear p4 p5 p6 pf5 pf6
 have p1 : w2.cell? ⟨K.g, 1, none⟩ = some (.slice (some na) K.nn K.nc) := by rw [← HNa.out]; exact HW2.out.obj.cell 1
 have c0 : w2.cell? (na.add (n * 9)) = some (.int .i64 2) := HKk.out ▸ (HCell.out w2 HW2.out.low).1
 have cc := (HCell.out w2 HW2.out.low).2
 have c1 : w2.cell? ⟨(na.add (n * 9)).block, (na.add (n * 9)).off + 1, none⟩ = some (.int .u64 x.c0) := cc 1 _ (by decide) rfl
 have c2 : w2.cell? ⟨(na.add (n * 9)).block, (na.add (n * 9)).off + 2, none⟩ = some (.int .u64 x.c1) := cc 2 _ (by decide) rfl
 have c3 : w2.cell? ⟨(na.add (n * 9)).block, (na.add (n * 9)).off + 3, none⟩ = some (.int .u64 x.c2) := cc 3 _ (by decide) rfl
 have c4 : w2.cell? ⟨(na.add (n * 9)).block, (na.add (n * 9)).off + 4, none⟩ = some (.int .u64 x.c3) := cc 4 _ (by decide) rfl
 have c5 : w2.cell? ⟨(na.add (n * 9)).block, (na.add (n * 9)).off + 5, none⟩ = some (.string x.text) := cc 5 _ (by decide) rfl
 have c6 : w2.cell? ⟨(na.add (n * 9)).block, (na.add (n * 9)).off + 6, none⟩ = some (.int .i64 x.rule) := cc 6 _ (by decide) rfl
 have c7 : w2.cell? ⟨(na.add (n * 9)).block, (na.add (n * 9)).off + 7, none⟩ = some (.int .i64 x.lev) := cc 7 _ (by decide) rfl
 have c8 : w2.cell? ⟨(na.add (n * 9)).block, (na.add (n * 9)).off + 8, none⟩ = some (.slice ko x.kids.length kc) := cc 8 _ (by decide) rfl
 have hnl' : (n : Int) < K.nn := by omega
 have hn0 : (0 : Int) ≤ n := by omega
 clear cc
 have HXn := Lib.hid (hrow.new w2 #[.int .i64 2, .int .u64 x.c0, .int .u64 x.c1, .int .u64 x.c2, .int .u64 x.c3, .string x.text, .int .i64 x.rule, .int .i64 x.lev, .slice ko x.kids.length kc] 57)
 have HAl := Lib.hid (Below.refl w2.heap.size w2 |>.alloc (Nat.le_refl _) (.cells #[.int .i64 2, .int .u64 x.c0, .int .u64 x.c1, .int .u64 x.c2, .int .u64 x.c3, .string x.text, .int .i64 x.rule, .int .i64 x.lev, .slice ko x.kids.length kc] 57))
 have HW3 := Lib.hid (HW2.out.below HAl.out)
 have HF3 := Lib.hid (HF2.out.trans (.below HAl.out))
 have HR3 := Lib.hid (HR2.out.below HAl.out)
 have HLx : Hid (h0 < w2.heap.size) := HR2.out.lt
 go_upto_region 6 with (fail)
 revert HXn HW3 HF3 HR3 HLx
 generalize w2.alloc _ = w3
 generalize w2.heap.size = hx
 intro HXn HW3 HF3 HR3 HLx
 clear HAl HW2 HF2 HR2 c0 c1 c2 c3 c4 c5 c6 c7 c8 p1
 obtain ⟨x0, x1, x2, x3, x4, x5, x6, x7, x8⟩ := (HXn.out).c9
 have p2 : w3.cell? ⟨K.g, 2, none⟩ = some (.slice K.wo K.wn K.wc) := HW3.out.obj.cell 2
 have hwn : (K.wn : Int) ≤ p := by have := hK.wl; omega
 have hwb := hK.inp.bound
 go_wp2_with fail
 refine (rfail_any w3 p).mono ?_
 rintro e w6 ⟨rfl, hb6⟩
 simp only [rsv, rcs, failR, List.length_nil, Int.natCast_zero]
 have HB6 := Lib.hid hb6
 have HZ6 := Lib.hid (HR3.out.below hb6)
 clear hb6
 obtain ⟨zq0, zq1, zq2, zq3, zq4⟩ := (HZ6.out).c5
 obtain ⟨zf0, zf1, zf2, zf3, zf4⟩ := (HZ6.out).f5
 have zr5 := set5_row (.bool false) (.int .i64 0) (.int .i64 p) (.slice none 0 0) (.int .i64 0) (HZ6.out)
 have zf5 := set5_fr w6 h0 (.bool false) (.int .i64 0) (.int .i64 p) (.slice none 0 0) (.int .i64 0)
 unfold set5 at zr5 zf5
 have ZR5 := Lib.hid zr5
 have ZF5 := Lib.hid zf5
 clear zr5 zf5
 go_wp2_with fail
 revert ZR5 ZF5
 generalize ((((w6.setCell _ _).setCell _ _).setCell _ _).setCell _ _).setCell _ _ = wz
 intro ZR5 ZF5
 obtain ⟨zc0, zc1, zc2, zc3, zc4⟩ := (ZR5.out).c5
 exact bodyPost_ret (v := .agg #[.bool false, .int .i64 0, .int .i64 p, .slice none 0 0, .int .i64 0]) (by simp [results, Try.results38, go_sem, zc0, zc1, zc2, zc3, zc4]) rfl (by exact ⟨v, KS, none, 0, rfl, (HW3.out.below HB6.out).boxed HZ6.out (by have := HH0.out; have := HLo.out; omega) ZF5.out, (TrW.nil _).boxed HZ6.out ZF5.out, (HF3.out.trans (.below HB6.out)).new ZF5.out (fun k e => by have e' : k = h0 := e; have := HH0.out; omega)⟩)
end Go.Proofs.Ytdnkffplkleolaa
namespace Go.Proofs.Ytdnkffplkleolaa
open Go.RowKit
set_option maxRecDepth 100000
set_option maxHeartbeats 1000000

/-- The cells of four words. -/
def cw (W : Nat → Nat) : Array Value := #[.int .u64 (W 0), .int .u64 (W 1), .int .u64 (W 2), .int .u64 (W 3)]
def Words (W : Nat → Nat) : Prop := ∀ i, W i < 2 ^ 64
theorem cw_get (W : Nat → Nat) (i : Nat) (h : i < 4) : (cw W)[i]? = some (.int .u64 (W i)) := by
 have : i = 0 ∨ i = 1 ∨ i = 2 ∨ i = 3 := by omega
 rcases this with rfl | rfl | rfl | rfl <;> rfl
theorem cw_one (W : Nat → Nat) : (cw W).all (·.oneCell') = true := by simp [cw, Value.oneCell']
theorem wraps64 (n : Int) (h0 : 0 ≤ n) (h1 : n < 2 ^ 64) : IntKind.u64.wrap n = n := by
 have h2 : (2 : Int) ^ 64 = 18446744073709551616 := by decide
 rw [h2] at h1
 simp [IntKind.wrap, IntKind.bits, IntKind.signed]; omega
theorem and_one (x : Nat) (hx : x < 2 ^ 64) : bits BinOp.and IntKind.u64 (x : Int) 1 = ((x % 2 : Nat) : Int) := by
 have := (bits_nat .u64 64 (by decide) wraps64 x 1 hx (by decide)).1
 rw [Nat.and_one_is_mod] at this
 exact this
/-- Is the byte in? -/
def inW (W : Nat → Nat) (b : Nat) : Bool := (W (b / 64)).testBit (b % 64)
def wo (x : Nd) : Nat → Nat := fun i => (clsAt x i).toNat
theorem wo_words {x : Nd} (h : ∀ i, 0 ≤ clsAt x i ∧ clsAt x i < 2 ^ 64) : Words (wo x) := by
 intro i
 have := h i
 show (clsAt x i).toNat < 2 ^ 64
 omega
theorem cw_wo {x : Nd} (h : ∀ i, 0 ≤ clsAt x i ∧ clsAt x i < 2 ^ 64) : #[.int .u64 x.c0, .int .u64 x.c1, .int .u64 x.c2, .int .u64 x.c3] = cw (wo x) := by
 have h0 : ((wo x 0 : Nat) : Int) = x.c0 := Int.toNat_of_nonneg (h 0).1
 have h1 : ((wo x 1 : Nat) : Int) = x.c1 := Int.toNat_of_nonneg (h 1).1
 have h2 : ((wo x 2 : Nat) : Int) = x.c2 := Int.toNat_of_nonneg (h 2).1
 have h3 : ((wo x 3 : Nat) : Int) = x.c3 := Int.toNat_of_nonneg (h 3).1
 rw [cw, h0, h1, h2, h3]
theorem hasB_inW {x : Nd} (h : ∀ i, 0 ≤ clsAt x i ∧ clsAt x i < 2 ^ 64) (b : Nat) : hasB x b = inW (wo x) b := by
 unfold hasB inW wo
 obtain ⟨k, hk⟩ := Int.eq_ofNat_of_zero_le (h (b / 64)).1
 rw [hk, Int.toNat_natCast, Nat.testBit_eq_decide_div_mod_eq, Bool.eq_iff_iff, beq_iff_eq, decide_eq_true_iff]
 norm_cast

theorem has_any (w : World) (g : Nat) (W : Nat → Nat) (hr : hrow w g (cw W) 150) (hW : Words W) (b : Nat) (hb : b < 256) :
  Calls Try.prog 100 #[.pointer (some ⟨g, 0, none⟩), .int .u8 b] w fun r w' => r = .returned (.bool (inW W b)) ∧ w = w' := by
 have hc : w.cell? ⟨g, b / 64, none⟩ = some (.int .u64 (W (b / 64))) := (hr.cell _).trans (cw_get W _ (by omega))
 have HW := Lib.hid hW
 clear hr hW
 go_enter Try.func100, Try.ntmps100
 go_wp2_with fail
 go_ret
 refine ⟨ret_bool ?_, rfl⟩
 have e : ((W (b / 64) : Int) / 2 ^ (b % 64)) = ((W (b / 64) / 2 ^ (b % 64) : Nat) : Int) := by norm_cast
 show (bits BinOp.and IntKind.u64 ((W (b / 64) : Int) / 2 ^ (b % 64)) 1 == 1) = _
 rw [e, and_one _ (Nat.lt_of_le_of_lt (Nat.div_le_self _ _) (HW.out _))]
 unfold inW
 rw [Nat.testBit_eq_decide_div_mod_eq, Bool.eq_iff_iff, beq_iff_eq, decide_eq_true_iff]
 omega
theorem cw_info : (Try.prog.info? 54).map (·.size) = some 4 ∧ (Try.prog.info? 150).map (·.size) = some 4 := ⟨by kernel_rfl, by kernel_rfl⟩

theorem hasF_any (w : World) (W : Nat → Nat) (hW : Words W) (b : Nat) (hb : b < 256) :
  Calls Try.prog 97 #[.agg (cw W), .int .u8 b] w fun r w' => r = .returned (.bool (inW W b)) ∧ Below w.heap.size w w' := by
 have HW := Lib.hid hW; clear hW
 have K1 : Hid ((Try.prog.info? 54).map (·.size) = some (cw W).size) := cw_info.1
 have K2 : Hid ((Try.prog.info? 150).map (·.size) = some (cw W).size) := cw_info.2
 have HN := Lib.hid (heap_alloc2_new w (.cells (cw W) 54) (.cells #[.int .u64 0, .int .u64 0, .int .u64 0, .int .u64 0] 150))
 go_enter Try.func97, Try.ntmps97
 go_upto_region 2 with (first
  | (with_reducible refine wpList_load_row rfl 54 (.tmp 2) rfl w.heap.size rfl 54 _ _ _ (heap_alloc_new _ _) Try.underlying54 rfl K1.out ?_)
  | (with_reducible refine wpList_store_row rfl 150 (.tmp 5) (.tmp 6) rfl (w.heap.size + 1) (cw W) rfl rfl 150 _ HN.out K2.out rfl (cw_one W) ?_))
 have hr := setRow_heap ((w.alloc (.cells (cw W) 54)).alloc (.cells #[.int .u64 0, .int .u64 0, .int .u64 0, .int .u64 0] 150)) (w.heap.size + 1) _ (cw W) 150 _ HN.out
 have hb := below_setRow (((Below.refl w.heap.size w).alloc (Nat.le_refl _) (.cells (cw W) 54)).alloc (by simp) (.cells #[.int .u64 0, .int .u64 0, .int .u64 0, .int .u64 0] 150)) (show w.heap.size ≤ w.heap.size + 1 by omega) (cw W)
 have HR := Lib.hid hr; have HB := Lib.hid hb
 clear hr hb HN
 revert HR HB
 generalize ((w.alloc (.cells (cw W) 54)).alloc (.cells #[.int .u64 0, .int .u64 0, .int .u64 0, .int .u64 0] 150)).setRow (w.heap.size + 1) (cw W) = wb
 intro HR HB
 go_frame
 go_wp2_with (go_at_call 100; refine (has_any _ _ W HR.out HW.out b hb).mono ?_; rintro e w2 ⟨rfl, rfl⟩)
 go_ret
 exact ⟨rfl, HB.out⟩

theorem hasR_any (w : World) (W : Nat → Nat) (hW : Words W) (b : Nat) (hb : b < 256) :
  Calls Try.prog 48 #[.agg (cw W), .int .u8 b] w fun r w' => r = .returned (.bool (inW W b)) ∧ Below w.heap.size w w' := by
 have hc : (cw W)[b / 64]? = some (.int .u64 (W (b / 64))) := cw_get W _ (by omega)
 have HW := Lib.hid hW
 clear hW
 have HB := Lib.hid ((Below.refl w.heap.size w).alloc (Nat.le_refl _) (.cells (cw W) 54))
 have hc2 : (w.alloc (.cells (cw W) 54)).cell? ⟨w.heap.size, b / 64, none⟩ = some (.int .u64 (W (b / 64))) := ((hrow.new w (cw W) 54).cell _).trans hc
 go_enter Try.func48, Try.ntmps48
 go_wp2_with fail
 go_ret
 refine ⟨ret_bool ?_, HB.out⟩
 unfold inW
 rw [Nat.testBit_eq_decide_div_mod_eq, Bool.eq_iff_iff, beq_iff_eq, decide_eq_true_iff]
 have e : ((W (b / 64) : Int) / 2 ^ (b % 64)) = ((W (b / 64) / 2 ^ (b % 64) : Nat) : Int) := by norm_cast
 rw [e, Int.tmod_eq_emod_of_nonneg (Int.natCast_nonneg _)]
 omega
end Go.Proofs.Ytdnkffplkleolaa
