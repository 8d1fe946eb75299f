/- Walks and plain laws: Ri Rj. -/
import Derived.Test.YtdnkffplkleolaaM12
import Derived.StillTailTactics
import Derived.BigQuiet
import Derived.IntWalk
namespace Go.Proofs.Ytdnkffplkleolaa
open Go.RowKit
set_option maxRecDepth 100000
set_option maxHeartbeats 4000000

theorem rev3y (K : Env) (hK : EnvOk K) (f : Nat) (hE : EvC K f) (w : World) (cs : List Ce) (L : Nat) (v : Value) (KS : List (Ce × (Option Addr × Nat))) (n p : Nat) (x : Nd) (h : RW K w ⟨cs, false, L + 1, false⟩ v KS) (hc : L ≤ f ∧ f + 1 ≤ 20000 ∧ cs.length + (L + 1) ≤ 20001)
  (hs : StOk K.G.rules.length K.W.length ⟨cs, false, L, false⟩) (hx : K.G.nodes[n]? = some x) (hk : x.kind = 3) (hp : p ≤ K.W.length) (b : Nat) (hwp : K.W[p]? = some b) (hbi : inW (wo x) b = true) :
  Calls Try.prog 38 #[.pointer (some ⟨K.g, 0, none⟩), .int .i64 n, .int .i64 p] w (REnd K w (toR (p + 1), ⟨cs, false, L, false⟩)) := by
 obtain ⟨na, ko, kc, hna, hnl, hnb, htx, hkids, hcell⟩ := RW.node hK hx
 have HE := Lib.hid hE
 have HC := Lib.hid hc
 have HS := Lib.hid hs
 have HX := Lib.hid hx
 have HKk := Lib.hid hk
 have HP := Lib.hid hp
 have HNa := Lib.hid hna
 have HKd := Lib.hid hkids
 have HCell := Lib.hid hcell
 have hbn := hK.gr.nod.sv.bound
 have hkb := hkids.bound
 have hLb : L ≤ 20000 := by omega
 have hpb : p ≤ 2048 := by have := hK.w2; have := hK.wl; omega
 clear hE hc hs hx hk hna hkids hcell
 have HB0 := Lib.hid (al1 (Below.refl w.heap.size w) (.cells #[.bool false, .int .i64 0, .int .i64 0, .slice none 0 0, .int .i64 0] 64))
 have HR0 := Lib.hid (hrow.new w #[.bool false, .int .i64 0, .int .i64 0, .slice none 0 0, .int .i64 0] 64)
 have H1 := Lib.hid (h.below HB0.out)
 have HLo : Hid (K.base.heap.size ≤ w.heap.size) := h.low.size
 clear h
 go_enter Try.func38, Try.ntmps38
 go_upto_region 1 with (fail)
 revert HB0 HR0 H1
 generalize w.alloc _ = w1
 generalize hh0 : w.heap.size = h0
 intro HB0 HR0 H1
 have HH0 := Lib.hid hh0
 have HF1 := Lib.hid (RF.below (hh0 ▸ HB0.out))
 clear HB0 hh0
 have p4 := H1.out.obj.cell 4
 have p5 := H1.out.obj.cell 5
 have p6 := H1.out.obj.cell 6
 have pf5 := H1.out.obj.frozen 5
 have pf6 := H1.out.obj.frozen 6
 simp at p4 p5 p6
 have HS6 := Lib.hid (H1.out.setOver hK.hg false)
 have HS5 := Lib.hid (HS6.out.1.setLeft hK.hg L)
 have HF2 := Lib.hid (HF1.out.trans (HS6.out.2.trans HS5.out.2))
 have HW2 : Hid (RW K ((w1.setCell ⟨K.g, 6, none⟩ (.bool false)).setCell ⟨K.g, 5, none⟩ (.int .i64 L)) ⟨cs, false, L, false⟩ v KS) := HS5.out.1
 have HR2 := Lib.hid ((HR0.out.rf HS6.out.2 (by decide) (by decide)).rf HS5.out.2 (by decide) (by decide))
 clear HS6 HS5 HF1 H1 HR0
 go_upto_region 5 with (fail)
 revert HF2 HW2 HR2
 generalize (w1.setCell _ _).setCell _ _ = w2
 intro HF2 HW2 HR2
 clear p4 p5 p6 pf5 pf6
 have p1 : w2.cell? ⟨K.g, 1, none⟩ = some (.slice (some na) K.nn K.nc) := by rw [← HNa.out]; exact HW2.out.obj.cell 1
 have c0 : w2.cell? (na.add (n * 9)) = some (.int .i64 3) := HKk.out ▸ (HCell.out w2 HW2.out.low).1
 have cc := (HCell.out w2 HW2.out.low).2
 have c1 : w2.cell? ⟨(na.add (n * 9)).block, (na.add (n * 9)).off + 1, none⟩ = some (.int .u64 x.c0) := cc 1 _ (by decide) rfl
 have c2 : w2.cell? ⟨(na.add (n * 9)).block, (na.add (n * 9)).off + 2, none⟩ = some (.int .u64 x.c1) := cc 2 _ (by decide) rfl
 have c3 : w2.cell? ⟨(na.add (n * 9)).block, (na.add (n * 9)).off + 3, none⟩ = some (.int .u64 x.c2) := cc 3 _ (by decide) rfl
 have c4 : w2.cell? ⟨(na.add (n * 9)).block, (na.add (n * 9)).off + 4, none⟩ = some (.int .u64 x.c3) := cc 4 _ (by decide) rfl
 have c5 : w2.cell? ⟨(na.add (n * 9)).block, (na.add (n * 9)).off + 5, none⟩ = some (.string x.text) := cc 5 _ (by decide) rfl
 have c6 : w2.cell? ⟨(na.add (n * 9)).block, (na.add (n * 9)).off + 6, none⟩ = some (.int .i64 x.rule) := cc 6 _ (by decide) rfl
 have c7 : w2.cell? ⟨(na.add (n * 9)).block, (na.add (n * 9)).off + 7, none⟩ = some (.int .i64 x.lev) := cc 7 _ (by decide) rfl
 have c8 : w2.cell? ⟨(na.add (n * 9)).block, (na.add (n * 9)).off + 8, none⟩ = some (.slice ko x.kids.length kc) := cc 8 _ (by decide) rfl
 have hnl' : (n : Int) < K.nn := by omega
 have hn0 : (0 : Int) ≤ n := by omega
 clear cc
 have HXn := Lib.hid (hrow.new w2 #[.int .i64 3, .int .u64 x.c0, .int .u64 x.c1, .int .u64 x.c2, .int .u64 x.c3, .string x.text, .int .i64 x.rule, .int .i64 x.lev, .slice ko x.kids.length kc] 57)
 have HAl := Lib.hid (Below.refl w2.heap.size w2 |>.alloc (Nat.le_refl _) (.cells #[.int .i64 3, .int .u64 x.c0, .int .u64 x.c1, .int .u64 x.c2, .int .u64 x.c3, .string x.text, .int .i64 x.rule, .int .i64 x.lev, .slice ko x.kids.length kc] 57))
 have HW3 := Lib.hid (HW2.out.below HAl.out)
 have HF3 := Lib.hid (HF2.out.trans (.below HAl.out))
 have HR3 := Lib.hid (HR2.out.below HAl.out)
 have HLx : Hid (h0 < w2.heap.size) := HR2.out.lt
 go_upto_region 6 with (fail)
 revert HXn HW3 HF3 HR3 HLx
 generalize w2.alloc _ = w3
 generalize w2.heap.size = hx
 intro HXn HW3 HF3 HR3 HLx
 clear HAl HW2 HF2 HR2 c0 c1 c2 c3 c4 c5 c6 c7 c8 p1
 obtain ⟨x0, x1, x2, x3, x4, x5, x6, x7, x8⟩ := (HXn.out).c9
 have p2 : w3.cell? ⟨K.g, 2, none⟩ = some (.slice K.wo K.wn K.wc) := HW3.out.obj.cell 2
 have hpl := (List.getElem?_eq_some_iff.1 hwp).1
 have hwn : (p : Int) < K.wn := by have := hK.wl; omega
 have hp0 : (0 : Int) ≤ p := by omega
 have hwb := hK.inp.bound
 obtain ⟨wa, hwa, hwc⟩ := hK.inp.cell p (by simp [bys]; omega)
 have HWa := Lib.hid hwa
 have hwc' : K.base.cell? (wa.add p) = some (.int .u8 b) := by rw [hwc]; simp [bys, hwp]
 have p7 : w3.cell? (wa.add p) = some (.int .u8 b) := (HW3.out.low.cell (World.block_lt_of_cell? _ _ hwc')).trans hwc'
 rw [hwa] at p2
 have HBy : Hid (b < 256) := hK.byt b (List.mem_of_getElem? hwp)
 have HWo := Lib.hid (wo_words (hK.ok.cls x (List.mem_of_getElem? HX.out)))
 have hcw := cw_wo (hK.ok.cls x (List.mem_of_getElem? HX.out))
 have HHas : Hid (∀ w', Calls Try.prog 48 #[.agg #[.int .u64 x.c0, .int .u64 x.c1, .int .u64 x.c2, .int .u64 x.c3], .int .u8 b] w' fun r w'' => r = .returned (.bool true) ∧ Below w'.heap.size w' w'') := fun w' => by rw [hcw, ← hbi]; exact hasR_any w' (wo x) HWo.out b HBy.out
 clear hwc hwc' hwa hcw hwp hbi
 go_upto_region 14 with (fail)
 go_still_tail 17, (by kernel_rfl)
 change wpList _ _ _ _ _ w3.drew
 have HD := (Below.refl w3.heap.size w3).drew
 have HW4 := Lib.hid (HW3.out.below HD)
 have HF4 := Lib.hid (HF3.out.trans (.below HD))
 have HR4 := Lib.hid (HR3.out.below HD)
 clear HD x0 x1 x2 x3 x4 x5 x6 x7 x8 p2 p7 HXn HW3 HF3 HR3
 revert HW4 HF4 HR4
 generalize w3.drew = w4
 intro HW4 HF4 HR4
 go_wp2_with fail
 refine (HHas.out _).mono ?_
 rintro e w5 ⟨rfl, hb5⟩
 have HW5 := Lib.hid (HW4.out.below hb5)
 have HF5 := Lib.hid (HF4.out.trans (.below hb5))
 have HR5 := Lib.hid (HR4.out.below hb5)
 clear hb5
 go_wp2_with fail
 refine (rto_any w5 (p + 1)).mono ?_
 rintro e w6 ⟨rfl, hb6⟩
 simp only [rsv, rcs, toR, List.length_nil, Int.natCast_zero]
 have HB6 := Lib.hid hb6
 have HZ6 := Lib.hid (HR5.out.below hb6)
 clear hb6
 obtain ⟨zq0, zq1, zq2, zq3, zq4⟩ := (HZ6.out).c5
 obtain ⟨zf0, zf1, zf2, zf3, zf4⟩ := (HZ6.out).f5
 have zr5 := set5_row (.bool true) (.int .i64 (p + 1)) (.int .i64 (-1)) (.slice none 0 0) (.int .i64 0) (HZ6.out)
 have zf5 := set5_fr w6 h0 (.bool true) (.int .i64 (p + 1)) (.int .i64 (-1)) (.slice none 0 0) (.int .i64 0)
 unfold set5 at zr5 zf5
 have ZR5 := Lib.hid zr5
 have ZF5 := Lib.hid zf5
 clear zr5 zf5
 go_wp2_with fail
 revert ZR5 ZF5
 generalize ((((w6.setCell _ _).setCell _ _).setCell _ _).setCell _ _).setCell _ _ = wz
 intro ZR5 ZF5
 obtain ⟨zc0, zc1, zc2, zc3, zc4⟩ := (ZR5.out).c5
 exact bodyPost_ret (v := .agg #[.bool true, .int .i64 (p + 1), .int .i64 (-1), .slice none 0 0, .int .i64 0]) (by simp [results, Try.results38, go_sem, zc0, zc1, zc2, zc3, zc4]) rfl (by exact ⟨v, KS, none, 0, rfl, (HW5.out.below HB6.out).boxed HZ6.out (by have := HH0.out; have := HLo.out; omega) ZF5.out, (TrW.nil _).boxed HZ6.out ZF5.out, (HF5.out.trans (.below HB6.out)).new ZF5.out (fun k e => by have e' : k = h0 := e; have := HH0.out; omega)⟩)
theorem rev3n (K : Env) (hK : EnvOk K) (f : Nat) (hE : EvC K f) (w : World) (cs : List Ce) (L : Nat) (v : Value) (KS : List (Ce × (Option Addr × Nat))) (n p : Nat) (x : Nd) (h : RW K w ⟨cs, false, L + 1, false⟩ v KS) (hc : L ≤ f ∧ f + 1 ≤ 20000 ∧ cs.length + (L + 1) ≤ 20001)
  (hs : StOk K.G.rules.length K.W.length ⟨cs, false, L, false⟩) (hx : K.G.nodes[n]? = some x) (hk : x.kind = 3) (hp : p ≤ K.W.length) (b : Nat) (hwp : K.W[p]? = some b) (hbi : inW (wo x) b = false) :
  Calls Try.prog 38 #[.pointer (some ⟨K.g, 0, none⟩), .int .i64 n, .int .i64 p] w (REnd K w (failR p, ⟨cs, false, L, false⟩)) := by
 obtain ⟨na, ko, kc, hna, hnl, hnb, htx, hkids, hcell⟩ := RW.node hK hx
 have HE := Lib.hid hE
 have HC := Lib.hid hc
 have HS := Lib.hid hs
 have HX := Lib.hid hx
 have HKk := Lib.hid hk
 have HP := Lib.hid hp
 have HNa := Lib.hid hna
 have HKd := Lib.hid hkids
 have HCell := Lib.hid hcell
 have hbn := hK.gr.nod.sv.bound
 have hkb := hkids.bound
 have hLb : L ≤ 20000 := by omega
 have hpb : p ≤ 2048 := by have := hK.w2; have := hK.wl; omega
 clear hE hc hs hx hk hna hkids hcell
 have HB0 := Lib.hid (al1 (Below.refl w.heap.size w) (.cells #[.bool false, .int .i64 0, .int .i64 0, .slice none 0 0, .int .i64 0] 64))
 have HR0 := Lib.hid (hrow.new w #[.bool false, .int .i64 0, .int .i64 0, .slice none 0 0, .int .i64 0] 64)
 have H1 := Lib.hid (h.below HB0.out)
 have HLo : Hid (K.base.heap.size ≤ w.heap.size) := h.low.size
 clear h
 go_enter Try.func38, Try.ntmps38
 go_upto_region 1 with (fail)
 revert HB0 HR0 H1
 generalize w.alloc _ = w1
 generalize hh0 : w.heap.size = h0
 intro HB0 HR0 H1
 have HH0 := Lib.hid hh0
 have HF1 := Lib.hid (RF.below (hh0 ▸ HB0.out))
 clear HB0 hh0
 have p4 := H1.out.obj.cell 4
 have p5 := H1.out.obj.cell 5
 have p6 := H1.out.obj.cell 6
 have pf5 := H1.out.obj.frozen 5
 have pf6 := H1.out.obj.frozen 6
 simp at p4 p5 p6
 have HS6 := Lib.hid (H1.out.setOver hK.hg false)
 have HS5 := Lib.hid (HS6.out.1.setLeft hK.hg L)
 have HF2 := Lib.hid (HF1.out.trans (HS6.out.2.trans HS5.out.2))
 have HW2 : Hid (RW K ((w1.setCell ⟨K.g, 6, none⟩ (.bool false)).setCell ⟨K.g, 5, none⟩ (.int .i64 L)) ⟨cs, false, L, false⟩ v KS) := HS5.out.1
 have HR2 := Lib.hid ((HR0.out.rf HS6.out.2 (by decide) (by decide)).rf HS5.out.2 (by decide) (by decide))
 clear HS6 HS5 HF1 H1 HR0
 go_upto_region 5 with (fail)
 revert HF2 HW2 HR2
 generalize (w1.setCell _ _).setCell _ _ = w2
 intro HF2 HW2 HR2
 clear p4 p5 p6 pf5 pf6
 have p1 : w2.cell? ⟨K.g, 1, none⟩ = some (.slice (some na) K.nn K.nc) := by rw [← HNa.out]; exact HW2.out.obj.cell 1
 have c0 : w2.cell? (na.add (n * 9)) = some (.int .i64 3) := HKk.out ▸ (HCell.out w2 HW2.out.low).1
 have cc := (HCell.out w2 HW2.out.low).2
 have c1 : w2.cell? ⟨(na.add (n * 9)).block, (na.add (n * 9)).off + 1, none⟩ = some (.int .u64 x.c0) := cc 1 _ (by decide) rfl
 have c2 : w2.cell? ⟨(na.add (n * 9)).block, (na.add (n * 9)).off + 2, none⟩ = some (.int .u64 x.c1) := cc 2 _ (by decide) rfl
 have c3 : w2.cell? ⟨(na.add (n * 9)).block, (na.add (n * 9)).off + 3, none⟩ = some (.int .u64 x.c2) := cc 3 _ (by decide) rfl
 have c4 : w2.cell? ⟨(na.add (n * 9)).block, (na.add (n * 9)).off + 4, none⟩ = some (.int .u64 x.c3) := cc 4 _ (by decide) rfl
 have c5 : w2.cell? ⟨(na.add (n * 9)).block, (na.add (n * 9)).off + 5, none⟩ = some (.string x.text) := cc 5 _ (by decide) rfl
 have c6 : w2.cell? ⟨(na.add (n * 9)).block, (na.add (n * 9)).off + 6, none⟩ = some (.int .i64 x.rule) := cc 6 _ (by decide) rfl
 have c7 : w2.cell? ⟨(na.add (n * 9)).block, (na.add (n * 9)).off + 7, none⟩ = some (.int .i64 x.lev) := cc 7 _ (by decide) rfl
 have c8 : w2.cell? ⟨(na.add (n * 9)).block, (na.add (n * 9)).off + 8, none⟩ = some (.slice ko x.kids.length kc) := cc 8 _ (by decide) rfl
 have hnl' : (n : Int) < K.nn := by omega
 have hn0 : (0 : Int) ≤ n := by omega
 clear cc
 have HXn := Lib.hid (hrow.new w2 #[.int .i64 3, .int .u64 x.c0, .int .u64 x.c1, .int .u64 x.c2, .int .u64 x.c3, .string x.text, .int .i64 x.rule, .int .i64 x.lev, .slice ko x.kids.length kc] 57)
 have HAl := Lib.hid (Below.refl w2.heap.size w2 |>.alloc (Nat.le_refl _) (.cells #[.int .i64 3, .int .u64 x.c0, .int .u64 x.c1, .int .u64 x.c2, .int .u64 x.c3, .string x.text, .int .i64 x.rule, .int .i64 x.lev, .slice ko x.kids.length kc] 57))
 have HW3 := Lib.hid (HW2.out.below HAl.out)
 have HF3 := Lib.hid (HF2.out.trans (.below HAl.out))
 have HR3 := Lib.hid (HR2.out.below HAl.out)
 have HLx : Hid (h0 < w2.heap.size) := HR2.out.lt
 go_upto_region 6 with (fail)
 revert HXn HW3 HF3 HR3 HLx
 generalize w2.alloc _ = w3
 generalize w2.heap.size = hx
 intro HXn HW3 HF3 HR3 HLx
 clear HAl HW2 HF2 HR2 c0 c1 c2 c3 c4 c5 c6 c7 c8 p1
 obtain ⟨x0, x1, x2, x3, x4, x5, x6, x7, x8⟩ := (HXn.out).c9
 have p2 : w3.cell? ⟨K.g, 2, none⟩ = some (.slice K.wo K.wn K.wc) := HW3.out.obj.cell 2
 have hpl := (List.getElem?_eq_some_iff.1 hwp).1
 have hwn : (p : Int) < K.wn := by have := hK.wl; omega
 have hp0 : (0 : Int) ≤ p := by omega
 have hwb := hK.inp.bound
 obtain ⟨wa, hwa, hwc⟩ := hK.inp.cell p (by simp [bys]; omega)
 have HWa := Lib.hid hwa
 have hwc' : K.base.cell? (wa.add p) = some (.int .u8 b) := by rw [hwc]; simp [bys, hwp]
 have p7 : w3.cell? (wa.add p) = some (.int .u8 b) := (HW3.out.low.cell (World.block_lt_of_cell? _ _ hwc')).trans hwc'
 rw [hwa] at p2
 have HBy : Hid (b < 256) := hK.byt b (List.mem_of_getElem? hwp)
 have HWo := Lib.hid (wo_words (hK.ok.cls x (List.mem_of_getElem? HX.out)))
 have hcw := cw_wo (hK.ok.cls x (List.mem_of_getElem? HX.out))
 have HHas : Hid (∀ w', Calls Try.prog 48 #[.agg #[.int .u64 x.c0, .int .u64 x.c1, .int .u64 x.c2, .int .u64 x.c3], .int .u8 b] w' fun r w'' => r = .returned (.bool false) ∧ Below w'.heap.size w' w'') := fun w' => by rw [hcw, ← hbi]; exact hasR_any w' (wo x) HWo.out b HBy.out
 clear hwc hwc' hwa hcw hwp hbi
 go_upto_region 14 with (fail)
 go_still_tail 17, (by kernel_rfl)
 change wpList _ _ _ _ _ w3.drew
 have HD := (Below.refl w3.heap.size w3).drew
 have HW4 := Lib.hid (HW3.out.below HD)
 have HF4 := Lib.hid (HF3.out.trans (.below HD))
 have HR4 := Lib.hid (HR3.out.below HD)
 clear HD x0 x1 x2 x3 x4 x5 x6 x7 x8 p2 p7 HXn HW3 HF3 HR3
 revert HW4 HF4 HR4
 generalize w3.drew = w4
 intro HW4 HF4 HR4
 go_wp2_with fail
 refine (HHas.out _).mono ?_
 rintro e w5 ⟨rfl, hb5⟩
 have HW5 := Lib.hid (HW4.out.below hb5)
 have HF5 := Lib.hid (HF4.out.trans (.below hb5))
 have HR5 := Lib.hid (HR4.out.below hb5)
 clear hb5
 go_wp2_with fail
 refine (rfail_any w5 p).mono ?_
 rintro e w6 ⟨rfl, hb6⟩
 simp only [rsv, rcs, failR, List.length_nil, Int.natCast_zero]
 have HB6 := Lib.hid hb6
 have HZ6 := Lib.hid (HR5.out.below hb6)
 clear hb6
 obtain ⟨zq0, zq1, zq2, zq3, zq4⟩ := (HZ6.out).c5
 obtain ⟨zf0, zf1, zf2, zf3, zf4⟩ := (HZ6.out).f5
 have zr5 := set5_row (.bool false) (.int .i64 0) (.int .i64 p) (.slice none 0 0) (.int .i64 0) (HZ6.out)
 have zf5 := set5_fr w6 h0 (.bool false) (.int .i64 0) (.int .i64 p) (.slice none 0 0) (.int .i64 0)
 unfold set5 at zr5 zf5
 have ZR5 := Lib.hid zr5
 have ZF5 := Lib.hid zf5
 clear zr5 zf5
 go_wp2_with fail
 revert ZR5 ZF5
 generalize ((((w6.setCell _ _).setCell _ _).setCell _ _).setCell _ _).setCell _ _ = wz
 intro ZR5 ZF5
 obtain ⟨zc0, zc1, zc2, zc3, zc4⟩ := (ZR5.out).c5
 exact bodyPost_ret (v := .agg #[.bool false, .int .i64 0, .int .i64 p, .slice none 0 0, .int .i64 0]) (by simp [results, Try.results38, go_sem, zc0, zc1, zc2, zc3, zc4]) rfl (by exact ⟨v, KS, none, 0, rfl, (HW5.out.below HB6.out).boxed HZ6.out (by have := HH0.out; have := HLo.out; omega) ZF5.out, (TrW.nil _).boxed HZ6.out ZF5.out, (HF5.out.trans (.below HB6.out)).new ZF5.out (fun k e => by have e' : k = h0 := e; have := HH0.out; omega)⟩)
theorem rev3e (K : Env) (hK : EnvOk K) (f : Nat) (hE : EvC K f) (w : World) (cs : List Ce) (L : Nat) (v : Value) (KS : List (Ce × (Option Addr × Nat))) (n p : Nat) (x : Nd) (h : RW K w ⟨cs, false, L + 1, false⟩ v KS) (hc : L ≤ f ∧ f + 1 ≤ 20000 ∧ cs.length + (L + 1) ≤ 20001)
  (hs : StOk K.G.rules.length K.W.length ⟨cs, false, L, false⟩) (hx : K.G.nodes[n]? = some x) (hk : x.kind = 3) (hp : p ≤ K.W.length) (hpl : K.W.length ≤ p) :
  Calls Try.prog 38 #[.pointer (some ⟨K.g, 0, none⟩), .int .i64 n, .int .i64 p] w (REnd K w (failR p, ⟨cs, false, L, false⟩)) := by
 obtain ⟨na, ko, kc, hna, hnl, hnb, htx, hkids, hcell⟩ := RW.node hK hx
 have HE := Lib.hid hE
 have HC := Lib.hid hc
 have HS := Lib.hid hs
 have HX := Lib.hid hx
 have HKk := Lib.hid hk
 have HP := Lib.hid hp
 have HNa := Lib.hid hna
 have HKd := Lib.hid hkids
 have HCell := Lib.hid hcell
 have hbn := hK.gr.nod.sv.bound
 have hkb := hkids.bound
 have hLb : L ≤ 20000 := by omega
 have hpb : p ≤ 2048 := by have := hK.w2; have := hK.wl; omega
 clear hE hc hs hx hk hna hkids hcell
 have HB0 := Lib.hid (al1 (Below.refl w.heap.size w) (.cells #[.bool false, .int .i64 0, .int .i64 0, .slice none 0 0, .int .i64 0] 64))
 have HR0 := Lib.hid (hrow.new w #[.bool false, .int .i64 0, .int .i64 0, .slice none 0 0, .int .i64 0] 64)
 have H1 := Lib.hid (h.below HB0.out)
 have HLo : Hid (K.base.heap.size ≤ w.heap.size) := h.low.size
 clear h
 go_enter Try.func38, Try.ntmps38
 go_upto_region 1 with (fail)
 revert HB0 HR0 H1
 generalize w.alloc _ = w1
 generalize hh0 : w.heap.size = h0
 intro HB0 HR0 H1
 have HH0 := Lib.hid hh0
 have HF1 := Lib.hid (RF.below (hh0 ▸ HB0.out))
 clear HB0 hh0
 have p4 := H1.out.obj.cell 4
 have p5 := H1.out.obj.cell 5
 have p6 := H1.out.obj.cell 6
 have pf5 := H1.out.obj.frozen 5
 have pf6 := H1.out.obj.frozen 6
 simp at p4 p5 p6
 have HS6 := Lib.hid (H1.out.setOver hK.hg false)
 have HS5 := Lib.hid (HS6.out.1.setLeft hK.hg L)
 have HF2 := Lib.hid (HF1.out.trans (HS6.out.2.trans HS5.out.2))
 have HW2 : Hid (RW K ((w1.setCell ⟨K.g, 6, none⟩ (.bool false)).setCell ⟨K.g, 5, none⟩ (.int .i64 L)) ⟨cs, false, L, false⟩ v KS) := HS5.out.1
 have HR2 := Lib.hid ((HR0.out.rf HS6.out.2 (by decide) (by decide)).rf HS5.out.2 (by decide) (by decide))
 clear HS6 HS5 HF1 H1 HR0
 go_upto_region 5 with (fail)
 revert HF2 HW2 HR2
 generalize (w1.setCell _ _).setCell _ _ = w2
 intro HF2 HW2 HR2
 clear p4 p5 p6 pf5 pf6
 have p1 : w2.cell? ⟨K.g, 1, none⟩ = some (.slice (some na) K.nn K.nc) := by rw [← HNa.out]; exact HW2.out.obj.cell 1
 have c0 : w2.cell? (na.add (n * 9)) = some (.int .i64 3) := HKk.out ▸ (HCell.out w2 HW2.out.low).1
 have cc := (HCell.out w2 HW2.out.low).2
 have c1 : w2.cell? ⟨(na.add (n * 9)).block, (na.add (n * 9)).off + 1, none⟩ = some (.int .u64 x.c0) := cc 1 _ (by decide) rfl
 have c2 : w2.cell? ⟨(na.add (n * 9)).block, (na.add (n * 9)).off + 2, none⟩ = some (.int .u64 x.c1) := cc 2 _ (by decide) rfl
 have c3 : w2.cell? ⟨(na.add (n * 9)).block, (na.add (n * 9)).off + 3, none⟩ = some (.int .u64 x.c2) := cc 3 _ (by decide) rfl
 have c4 : w2.cell? ⟨(na.add (n * 9)).block, (na.add (n * 9)).off + 4, none⟩ = some (.int .u64 x.c3) := cc 4 _ (by decide) rfl
 have c5 : w2.cell? ⟨(na.add (n * 9)).block, (na.add (n * 9)).off + 5, none⟩ = some (.string x.text) := cc 5 _ (by decide) rfl
 have c6 : w2.cell? ⟨(na.add (n * 9)).block, (na.add (n * 9)).off + 6, none⟩ = some (.int .i64 x.rule) := cc 6 _ (by decide) rfl
 have c7 : w2.cell? ⟨(na.add (n * 9)).block, (na.add (n * 9)).off + 7, none⟩ = some (.int .i64 x.lev) := cc 7 _ (by decide) rfl
 have c8 : w2.cell? ⟨(na.add (n * 9)).block, (na.add (n * 9)).off + 8, none⟩ = some (.slice ko x.kids.length kc) := cc 8 _ (by decide) rfl
 have hnl' : (n : Int) < K.nn := by omega
 have hn0 : (0 : Int) ≤ n := by omega
 clear cc
 have HXn := Lib.hid (hrow.new w2 #[.int .i64 3, .int .u64 x.c0, .int .u64 x.c1, .int .u64 x.c2, .int .u64 x.c3, .string x.text, .int .i64 x.rule, .int .i64 x.lev, .slice ko x.kids.length kc] 57)
 have HAl := Lib.hid (Below.refl w2.heap.size w2 |>.alloc (Nat.le_refl _) (.cells #[.int .i64 3, .int .u64 x.c0, .int .u64 x.c1, .int .u64 x.c2, .int .u64 x.c3, .string x.text, .int .i64 x.rule, .int .i64 x.lev, .slice ko x.kids.length kc] 57))
 have HW3 := Lib.hid (HW2.out.below HAl.out)
 have HF3 := Lib.hid (HF2.out.trans (.below HAl.out))
 have HR3 := Lib.hid (HR2.out.below HAl.out)
 have HLx : Hid (h0 < w2.heap.size) := HR2.out.lt
 go_upto_region 6 with (fail)
 revert HXn HW3 HF3 HR3 HLx
 generalize w2.alloc _ = w3
 generalize w2.heap.size = hx
 intro HXn HW3 HF3 HR3 HLx
 clear HAl HW2 HF2 HR2 c0 c1 c2 c3 c4 c5 c6 c7 c8 p1
 obtain ⟨x0, x1, x2, x3, x4, x5, x6, x7, x8⟩ := (HXn.out).c9
 have p2 : w3.cell? ⟨K.g, 2, none⟩ = some (.slice K.wo K.wn K.wc) := HW3.out.obj.cell 2
 have hwn : (K.wn : Int) ≤ p := by have := hK.wl; omega
 have hwd : decide ((p : Int) < (K.wn : Int)) = false := by simp; omega
 have hwd2 : decide (p < K.wn) = false := by have := hK.wl; simp; omega
 have hwb := hK.inp.bound
 go_upto_region 14 with (fail)
 go_quiet (fail)
 have HD := below_drewN (Below.refl w3.heap.size w3) nq
 have HW5 := Lib.hid (HW3.out.below HD)
 have HF5 := Lib.hid (HF3.out.trans (.below HD))
 have HR5 := Lib.hid (HR3.out.below HD)
 clear HD x0 x1 x2 x3 x4 x5 x6 x7 x8 p2 HXn HW3 HF3 HR3
 revert HW5 HF5 HR5
 generalize w3.drewN nq = w5
 intro HW5 HF5 HR5
 go_wp2_with fail
 refine (rfail_any w5 p).mono ?_
 rintro e w6 ⟨rfl, hb6⟩
 simp only [rsv, rcs, failR, List.length_nil, Int.natCast_zero]
 have HB6 := Lib.hid hb6
 have HZ6 := Lib.hid (HR5.out.below hb6)
 clear hb6
 obtain ⟨zq0, zq1, zq2, zq3, zq4⟩ := (HZ6.out).c5
 obtain ⟨zf0, zf1, zf2, zf3, zf4⟩ := (HZ6.out).f5
 have zr5 := set5_row (.bool false) (.int .i64 0) (.int .i64 p) (.slice none 0 0) (.int .i64 0) (HZ6.out)
 have zf5 := set5_fr w6 h0 (.bool false) (.int .i64 0) (.int .i64 p) (.slice none 0 0) (.int .i64 0)
 unfold set5 at zr5 zf5
 have ZR5 := Lib.hid zr5
 have ZF5 := Lib.hid zf5
 clear zr5 zf5
 go_wp2_with fail
 revert ZR5 ZF5
 generalize ((((w6.setCell _ _).setCell _ _).setCell _ _).setCell _ _).setCell _ _ = wz
 intro ZR5 ZF5
 obtain ⟨zc0, zc1, zc2, zc3, zc4⟩ := (ZR5.out).c5
 exact bodyPost_ret (v := .agg #[.bool false, .int .i64 0, .int .i64 p, .slice none 0 0, .int .i64 0]) (by simp [results, Try.results38, go_sem, zc0, zc1, zc2, zc3, zc4]) rfl (by exact ⟨v, KS, none, 0, rfl, (HW5.out.below HB6.out).boxed HZ6.out (by have := HH0.out; have := HLo.out; omega) ZF5.out, (TrW.nil _).boxed HZ6.out ZF5.out, (HF5.out.trans (.below HB6.out)).new ZF5.out (fun k e => by have e' : k = h0 := e; have := HH0.out; omega)⟩)
end Go.Proofs.Ytdnkffplkleolaa
namespace Go.Proofs.Ytdnkffplkleolaa
open Go.RowKit
set_option maxRecDepth 100000
set_option maxHeartbeats 4000000

theorem txtR_no {W : List Nat} {s : ByteArray} {p k : Nat} (h : ∀ j, j < k → txtAt W s p j = true) (hk : k < s.size) (hn : txtAt W s p k = false) : txtR W s p = failR ((p + k : Nat) : Int) := by
 unfold txtR
 have e : (List.range s.size).find? (fun i => !txtAt W s p i) = some k := by
  rw [List.find?_range_eq_some]
  exact ⟨by simp [hn], by simpa using hk, fun j hj => by simp [h j hj]⟩
 rw [e]
theorem txtR_yes {W : List Nat} {s : ByteArray} {p : Nat} (h : ∀ j, j < s.size → txtAt W s p j = true) : txtR W s p = toR (p + s.size) := by
 unfold txtR
 have e : (List.range s.size).find? (fun i => !txtAt W s p i) = none := by
  rw [List.find?_range_eq_none]
  exact fun j hj => by simp [h j hj]
 rw [e]
theorem node_text {R : Nat} {x : Nd} (h : nodeB R x = true) (hk : x.kind = 4) : x.text.size ≤ 64 := by
 unfold nodeB at h
 rw [hk] at h
 simp at h
 omega
def TxtI (K : Env) (w : World) (hx h0 : Nat) (x : Nd) (ko : Option Addr) (kc : Nat) (s : St) (v : Value) (KS : List (Ce × (Option Addr × Nat))) (p k : Nat) (wr : World) : Prop :=
 RW K wr s v KS ∧ RF w wr ∧ hrow wr h0 #[.bool false, .int .i64 0, .int .i64 0, .slice none 0 0, .int .i64 0] 64 ∧ hrow wr hx #[.int .i64 4, .int .u64 x.c0, .int .u64 x.c1, .int .u64 x.c2, .int .u64 x.c3, .string x.text, .int .i64 x.rule, .int .i64 x.lev, .slice ko x.kids.length kc] 57 ∧ ∀ j, j < k → txtAt K.W x.text p j = true
theorem TxtI.below {K : Env} {w : World} {hx h0 : Nat} {x : Nd} {ko : Option Addr} {kc : Nat} {s : St} {v : Value} {KS : List (Ce × (Option Addr × Nat))} {p k : Nat} {wr w' : World} (h : TxtI K w hx h0 x ko kc s v KS p k wr) (hb : Below wr.heap.size wr w') : TxtI K w hx h0 x ko kc s v KS p k w' :=
 ⟨h.1.below hb, h.2.1.trans (.below hb), h.2.2.1.below hb, h.2.2.2.1.below hb, h.2.2.2.2⟩
theorem TxtI.next {K : Env} {w : World} {hx h0 : Nat} {x : Nd} {ko : Option Addr} {kc : Nat} {s : St} {v : Value} {KS : List (Ce × (Option Addr × Nat))} {p k : Nat} {wr : World} (h : TxtI K w hx h0 x ko kc s v KS p k wr) (hb : txtAt K.W x.text p k = true) : TxtI K w hx h0 x ko kc s v KS p (k + 1) wr :=
 ⟨h.1, h.2.1, h.2.2.1, h.2.2.2.1, fun j hj => by
  by_cases e : j = k
  ·subst e; exact hb
  ·exact h.2.2.2.2 j (by omega)⟩

theorem rev4 (K : Env) (hK : EnvOk K) (f : Nat) (hE : EvC K f) (w : World) (cs : List Ce) (L : Nat) (v : Value) (KS : List (Ce × (Option Addr × Nat))) (n p : Nat) (x : Nd) (h : RW K w ⟨cs, false, L + 1, false⟩ v KS) (hc : L ≤ f ∧ f + 1 ≤ 20000 ∧ cs.length + (L + 1) ≤ 20001)
  (hs : StOk K.G.rules.length K.W.length ⟨cs, false, L, false⟩) (hx : K.G.nodes[n]? = some x) (hk : x.kind = 4) (hp : p ≤ K.W.length) :
  Calls Try.prog 38 #[.pointer (some ⟨K.g, 0, none⟩), .int .i64 n, .int .i64 p] w (REnd K w (txtR K.W x.text p, ⟨cs, false, L, false⟩)) := by
 obtain ⟨na, ko, kc, hna, hnl, hnb, htx, hkids, hcell⟩ := RW.node hK hx
 have HE := Lib.hid hE
 have HC := Lib.hid hc
 have HS := Lib.hid hs
 have HX := Lib.hid hx
 have HKk := Lib.hid hk
 have HP := Lib.hid hp
 have HNa := Lib.hid hna
 have HKd := Lib.hid hkids
 have HCell := Lib.hid hcell
 have hbn := hK.gr.nod.sv.bound
 have hkb := hkids.bound
 have hLb : L ≤ 20000 := by omega
 have hpb : p ≤ 2048 := by have := hK.w2; have := hK.wl; omega
 clear hE hc hs hx hk hna hkids hcell
 have HB0 := Lib.hid (al1 (Below.refl w.heap.size w) (.cells #[.bool false, .int .i64 0, .int .i64 0, .slice none 0 0, .int .i64 0] 64))
 have HR0 := Lib.hid (hrow.new w #[.bool false, .int .i64 0, .int .i64 0, .slice none 0 0, .int .i64 0] 64)
 have H1 := Lib.hid (h.below HB0.out)
 have HLo : Hid (K.base.heap.size ≤ w.heap.size) := h.low.size
 clear h
 go_enter Try.func38, Try.ntmps38
 go_upto_region 1 with (fail)
 revert HB0 HR0 H1
 generalize w.alloc _ = w1
 generalize hh0 : w.heap.size = h0
 intro HB0 HR0 H1
 have HH0 := Lib.hid hh0
 have HF1 := Lib.hid (RF.below (hh0 ▸ HB0.out))
 clear HB0 hh0
 have p4 := H1.out.obj.cell 4
 have p5 := H1.out.obj.cell 5
 have p6 := H1.out.obj.cell 6
 have pf5 := H1.out.obj.frozen 5
 have pf6 := H1.out.obj.frozen 6
 simp at p4 p5 p6
 have HS6 := Lib.hid (H1.out.setOver hK.hg false)
 have HS5 := Lib.hid (HS6.out.1.setLeft hK.hg L)
 have HF2 := Lib.hid (HF1.out.trans (HS6.out.2.trans HS5.out.2))
 have HW2 : Hid (RW K ((w1.setCell ⟨K.g, 6, none⟩ (.bool false)).setCell ⟨K.g, 5, none⟩ (.int .i64 L)) ⟨cs, false, L, false⟩ v KS) := HS5.out.1
 have HR2 := Lib.hid ((HR0.out.rf HS6.out.2 (by decide) (by decide)).rf HS5.out.2 (by decide) (by decide))
 clear HS6 HS5 HF1 H1 HR0
 go_upto_region 5 with (fail)
 revert HF2 HW2 HR2
 generalize (w1.setCell _ _).setCell _ _ = w2
 intro HF2 HW2 HR2
 clear p4 p5 p6 pf5 pf6
 have p1 : w2.cell? ⟨K.g, 1, none⟩ = some (.slice (some na) K.nn K.nc) := by rw [← HNa.out]; exact HW2.out.obj.cell 1
 have c0 : w2.cell? (na.add (n * 9)) = some (.int .i64 4) := HKk.out ▸ (HCell.out w2 HW2.out.low).1
 have cc := (HCell.out w2 HW2.out.low).2
 have c1 : w2.cell? ⟨(na.add (n * 9)).block, (na.add (n * 9)).off + 1, none⟩ = some (.int .u64 x.c0) := cc 1 _ (by decide) rfl
 have c2 : w2.cell? ⟨(na.add (n * 9)).block, (na.add (n * 9)).off + 2, none⟩ = some (.int .u64 x.c1) := cc 2 _ (by decide) rfl
 have c3 : w2.cell? ⟨(na.add (n * 9)).block, (na.add (n * 9)).off + 3, none⟩ = some (.int .u64 x.c2) := cc 3 _ (by decide) rfl
 have c4 : w2.cell? ⟨(na.add (n * 9)).block, (na.add (n * 9)).off + 4, none⟩ = some (.int .u64 x.c3) := cc 4 _ (by decide) rfl
 have c5 : w2.cell? ⟨(na.add (n * 9)).block, (na.add (n * 9)).off + 5, none⟩ = some (.string x.text) := cc 5 _ (by decide) rfl
 have c6 : w2.cell? ⟨(na.add (n * 9)).block, (na.add (n * 9)).off + 6, none⟩ = some (.int .i64 x.rule) := cc 6 _ (by decide) rfl
 have c7 : w2.cell? ⟨(na.add (n * 9)).block, (na.add (n * 9)).off + 7, none⟩ = some (.int .i64 x.lev) := cc 7 _ (by decide) rfl
 have c8 : w2.cell? ⟨(na.add (n * 9)).block, (na.add (n * 9)).off + 8, none⟩ = some (.slice ko x.kids.length kc) := cc 8 _ (by decide) rfl
 have hnl' : (n : Int) < K.nn := by omega
 have hn0 : (0 : Int) ≤ n := by omega
 clear cc
 have HXn := Lib.hid (hrow.new w2 #[.int .i64 4, .int .u64 x.c0, .int .u64 x.c1, .int .u64 x.c2, .int .u64 x.c3, .string x.text, .int .i64 x.rule, .int .i64 x.lev, .slice ko x.kids.length kc] 57)
 have HAl := Lib.hid (Below.refl w2.heap.size w2 |>.alloc (Nat.le_refl _) (.cells #[.int .i64 4, .int .u64 x.c0, .int .u64 x.c1, .int .u64 x.c2, .int .u64 x.c3, .string x.text, .int .i64 x.rule, .int .i64 x.lev, .slice ko x.kids.length kc] 57))
 have HW3 := Lib.hid (HW2.out.below HAl.out)
 have HF3 := Lib.hid (HF2.out.trans (.below HAl.out))
 have HR3 := Lib.hid (HR2.out.below HAl.out)
 have HLx : Hid (h0 < w2.heap.size) := HR2.out.lt
 go_upto_region 6 with (fail)
 revert HXn HW3 HF3 HR3 HLx
 generalize w2.alloc _ = w3
 generalize w2.heap.size = hx
 intro HXn HW3 HF3 HR3 HLx
 clear HAl HW2 HF2 HR2 c0 c1 c2 c3 c4 c5 c6 c7 c8 p1
 obtain ⟨x0, x1, x2, x3, x4, x5, x6, x7, x8⟩ := (HXn.out).c9
 have hts : x.text.size ≤ 64 := node_text (hK.ok.nod n x HX.out) HKk.out
 have HI0 : Hid (TxtI K w hx h0 x ko kc ⟨cs, false, L, false⟩ v KS p 0 w3) := ⟨HW3.out, HF3.out, HR3.out, HXn.out, fun j hj => absurd hj (by omega)⟩
 have hwl := hK.wl
 have hwb := hK.inp.bound
 clear HXn HW3 HF3 HR3
 go_wp2_with fail
 go_loopw [8] (fun i wr => ∃ k : Nat, k ≤ x.text.size ∧ i = .int .i64 k ∧ Hid (TxtI K w hx h0 x ko kc ⟨cs, false, L, false⟩ v KS p k wr)) (fun i _ => x.text.size - (intOf i).toNat)
 case atStart => exact ⟨0, by omega, rfl, HI0.out⟩
 case round =>
  obtain ⟨k, hk, rfl, HI⟩ := hrel
  clear HI0 x0 x1 x2 x3 x4 x5 x6 x7 x8
  have p2 : wr.cell? ⟨K.g, 2, none⟩ = some (.slice K.wo K.wn K.wc) := HI.out.1.obj.cell 2
  have x5 : wr.cell? ⟨hx, 5, none⟩ = some (.string x.text) := HI.out.2.2.2.1.cell 5
  have hkz : (0 : Int) ≤ k := by omega
  have hw1 : IntKind.i64.wrap ((p : Int) + k) = p + k := IntWalk.i64_in _ (by omega)
  have hw2 : (0 : Int) ≤ (p : Int) + k := by omega
  have hw3 : ((p : Int) + k).toNat = p + k := by omega
  by_cases hit : k < x.text.size
  ·have hit' : (k : Int) < x.text.size := by omega
   by_cases hpk : p + k < K.W.length
   ·have hpk' : (p : Int) + k < K.wn := by omega
    have hpd : decide ((K.wn : Int) ≤ (p : Int) + k) = false := by simp; omega
    obtain ⟨wa, hwa, hwc⟩ := hK.inp.cell (p + k) (by simp [bys]; omega)
    have hwc' : K.base.cell? (wa.add (p + k)) = some (.int .u8 (K.W[p + k]'hpk)) := by rw [hwc]; simp [bys, hpk]
    have p7 : wr.cell? (wa.add (p + k)) = some (.int .u8 (K.W[p + k]'hpk)) := (HI.out.1.low.cell (World.block_lt_of_cell? _ _ hwc')).trans hwc'
    rw [hwa] at p2
    have hg : x.text.get! k = x.text[k]'hit := by simp [ByteArray.get!, hit]; rfl
    have HAt : Hid (txtAt K.W x.text p k = decide (((K.W[p + k]'hpk : Nat) : Int) = ((x.text[k]'hit).toNat : Int))) := by
     show txtAt K.W x.text p k = _
     unfold txtAt
     rw [List.getElem?_eq_getElem hpk, hg]
     rw [Bool.eq_iff_iff, beq_iff_eq, Option.some.injEq, decide_eq_true_iff]
     omega
    clear hwc hwc' hwa hg
    generalize K.W[p + k]'hpk = b at *
    by_cases hbe : (b : Int) = ((x.text[k]'hit).toNat : Int)
    ·have hbd : ((b : Int) != ((x.text[k]'hit).toNat : Int)) = false := by simp; omega
     have HTn := Lib.hid (HI.out.next (by rw [HAt.out]; simpa using hbe))
     clear hbe HAt
     go_wp2_with fail
     go_quiet (fail)
     go_wp2_with fail
     go_roundw
     case rel => exact ⟨k + 1, by omega, by go_num, HTn.out.below (below_drewN (Below.refl _ _) _)⟩
     case measure => simp [intOf]; omega
    ·have hbd : ((b : Int) != ((x.text[k]'hit).toNat : Int)) = true := by simp; omega
     have HRes : Hid (txtR K.W x.text p = failR ((p : Int) + k)) := (txtR_no HI.out.2.2.2.2 hit (by rw [HAt.out]; simpa using hbe)).trans (by rw [Int.natCast_add])
     clear hbe HAt
     go_wp2_with fail
     go_quiet (fail)
     have HT := Lib.hid (HI.out.below (below_drewN (Below.refl wr.heap.size wr) nq))
     clear p2 x5 p7
     revert HT
     generalize wr.drewN nq = w5
     intro HT
     go_wp2_with fail
     refine (rfail_any w5 ((p : Int) + k)).mono ?_
     rintro e w6 ⟨rfl, hb6⟩
     simp only [rsv, rcs, failR, List.length_nil, Int.natCast_zero]
     have HB6 := Lib.hid (TxtI.below HT.out hb6)
     clear hb6
     have HZ6 := Lib.hid HB6.out.2.2.1
     obtain ⟨zq0, zq1, zq2, zq3, zq4⟩ := (HZ6.out).c5
     obtain ⟨zf0, zf1, zf2, zf3, zf4⟩ := (HZ6.out).f5
     have zr5 := set5_row (.bool false) (.int .i64 0) (.int .i64 ((p : Int) + k)) (.slice none 0 0) (.int .i64 0) (HZ6.out)
     have zf5 := set5_fr w6 h0 (.bool false) (.int .i64 0) (.int .i64 ((p : Int) + k)) (.slice none 0 0) (.int .i64 0)
     unfold set5 at zr5 zf5
     have ZR5 := Lib.hid zr5
     have ZF5 := Lib.hid zf5
     clear zr5 zf5
     go_wp2_with fail
     revert ZR5 ZF5
     generalize ((((w6.setCell _ _).setCell _ _).setCell _ _).setCell _ _).setCell _ _ = wz
     intro ZR5 ZF5
     obtain ⟨zc0, zc1, zc2, zc3, zc4⟩ := (ZR5.out).c5
     exact bodyPost_ret (v := .agg #[.bool false, .int .i64 0, .int .i64 ((p : Int) + k), .slice none 0 0, .int .i64 0]) (by simp [results, Try.results38, go_sem, zc0, zc1, zc2, zc3, zc4]) rfl (by rw [HRes.out]; exact ⟨v, KS, none, 0, rfl, (HB6.out.1).boxed HZ6.out (by have := HH0.out; have := HLo.out; omega) ZF5.out, (TrW.nil _).boxed HZ6.out ZF5.out, (HB6.out.2.1).new ZF5.out (fun k e => by have e' : k = h0 := e; have := HH0.out; omega)⟩)
   ·have hpk' : (K.wn : Int) ≤ (p : Int) + k := by omega
    have hpd : decide ((K.wn : Int) ≤ (p : Int) + k) = true := by simp; omega
    have HRes : Hid (txtR K.W x.text p = failR ((p : Int) + k)) := (txtR_no HI.out.2.2.2.2 hit (by unfold txtAt; rw [List.getElem?_eq_none (by omega)]; rfl)).trans (by rw [Int.natCast_add])
    go_wp2_with fail
    go_quiet (fail)
    have HT := Lib.hid (HI.out.below (below_drewN (Below.refl wr.heap.size wr) nq))
    clear p2 x5
    revert HT
    generalize wr.drewN nq = w5
    intro HT
    go_wp2_with fail
    refine (rfail_any w5 ((p : Int) + k)).mono ?_
    rintro e w6 ⟨rfl, hb6⟩
    simp only [rsv, rcs, failR, List.length_nil, Int.natCast_zero]
    have HB6 := Lib.hid (TxtI.below HT.out hb6)
    clear hb6
    have HZ6 := Lib.hid HB6.out.2.2.1
    obtain ⟨zq0, zq1, zq2, zq3, zq4⟩ := (HZ6.out).c5
    obtain ⟨zf0, zf1, zf2, zf3, zf4⟩ := (HZ6.out).f5
    have zr5 := set5_row (.bool false) (.int .i64 0) (.int .i64 ((p : Int) + k)) (.slice none 0 0) (.int .i64 0) (HZ6.out)
    have zf5 := set5_fr w6 h0 (.bool false) (.int .i64 0) (.int .i64 ((p : Int) + k)) (.slice none 0 0) (.int .i64 0)
    unfold set5 at zr5 zf5
    have ZR5 := Lib.hid zr5
    have ZF5 := Lib.hid zf5
    clear zr5 zf5
    go_wp2_with fail
    revert ZR5 ZF5
    generalize ((((w6.setCell _ _).setCell _ _).setCell _ _).setCell _ _).setCell _ _ = wz
    intro ZR5 ZF5
    obtain ⟨zc0, zc1, zc2, zc3, zc4⟩ := (ZR5.out).c5
    exact bodyPost_ret (v := .agg #[.bool false, .int .i64 0, .int .i64 ((p : Int) + k), .slice none 0 0, .int .i64 0]) (by simp [results, Try.results38, go_sem, zc0, zc1, zc2, zc3, zc4]) rfl (by rw [HRes.out]; exact ⟨v, KS, none, 0, rfl, (HB6.out.1).boxed HZ6.out (by have := HH0.out; have := HLo.out; omega) ZF5.out, (TrW.nil _).boxed HZ6.out ZF5.out, (HB6.out.2.1).new ZF5.out (fun k e => by have e' : k = h0 := e; have := HH0.out; omega)⟩)
  ·have hge : (x.text.size : Int) ≤ k := by omega
   have hke : k = x.text.size := by omega
   subst hke
   have HRes : Hid (txtR K.W x.text p = toR (p + x.text.size)) := txtR_yes HI.out.2.2.2.2
   have HT := Lib.hid HI.out
   go_wp2_with fail
   refine (rto_any wr (p + x.text.size)).mono ?_
   rintro e w6 ⟨rfl, hb6⟩
   simp only [rsv, rcs, toR, List.length_nil, Int.natCast_zero]
   have HB6 := Lib.hid (TxtI.below HT.out hb6)
   clear hb6
   have HZ6 := Lib.hid HB6.out.2.2.1
   obtain ⟨zq0, zq1, zq2, zq3, zq4⟩ := (HZ6.out).c5
   obtain ⟨zf0, zf1, zf2, zf3, zf4⟩ := (HZ6.out).f5
   have zr5 := set5_row (.bool true) (.int .i64 (p + x.text.size)) (.int .i64 (-1)) (.slice none 0 0) (.int .i64 0) (HZ6.out)
   have zf5 := set5_fr w6 h0 (.bool true) (.int .i64 (p + x.text.size)) (.int .i64 (-1)) (.slice none 0 0) (.int .i64 0)
   unfold set5 at zr5 zf5
   have ZR5 := Lib.hid zr5
   have ZF5 := Lib.hid zf5
   clear zr5 zf5
   go_wp2_with fail
   revert ZR5 ZF5
   generalize ((((w6.setCell _ _).setCell _ _).setCell _ _).setCell _ _).setCell _ _ = wz
   intro ZR5 ZF5
   obtain ⟨zc0, zc1, zc2, zc3, zc4⟩ := (ZR5.out).c5
   exact bodyPost_ret (v := .agg #[.bool true, .int .i64 (p + x.text.size), .int .i64 (-1), .slice none 0 0, .int .i64 0]) (by simp [results, Try.results38, go_sem, zc0, zc1, zc2, zc3, zc4]) rfl (by rw [HRes.out]; exact ⟨v, KS, none, 0, rfl, (HB6.out.1).boxed HZ6.out (by have := HH0.out; have := HLo.out; omega) ZF5.out, (TrW.nil _).boxed HZ6.out ZF5.out, (HB6.out.2.1).new ZF5.out (fun k e => by have e' : k = h0 := e; have := HH0.out; omega)⟩)
end Go.Proofs.Ytdnkffplkleolaa
