/- Walks and plain laws: Rk. -/
import Derived.Test.YtdnkffplkleolaaM12
namespace Go.Proofs.Ytdnkffplkleolaa
open Go.RowKit
set_option maxRecDepth 100000
set_option maxHeartbeats 4000000

theorem rev5 (K : Env) (hK : EnvOk K) (f : Nat) (hE : EvC K f) (w : World) (cs : List Ce) (L : Nat) (v : Value) (KS : List (Ce × (Option Addr × Nat))) (n p : Nat) (x : Nd) (h : RW K w ⟨cs, false, L + 1, false⟩ v KS) (hc : L ≤ f ∧ f + 1 ≤ 20000 ∧ cs.length + (L + 1) ≤ 20001)
  (hs : StOk K.G.rules.length K.W.length ⟨cs, false, L, false⟩) (hx : K.G.nodes[n]? = some x) (hk : x.kind = 5) (hp : p ≤ K.W.length) (rl : Nat) (hrl : Hid (x.rule = rl)) :
  Calls Try.prog 38 #[.pointer (some ⟨K.g, 0, none⟩), .int .i64 n, .int .i64 p] w (REnd K w (callR (ev K.G K.W f) K.G rl p ⟨cs, false, L, false⟩)) := by
 obtain ⟨na, ko, kc, hna, hnl, hnb, htx, hkids, hcell⟩ := RW.node hK hx
 have HE := Lib.hid hE
 have HC := Lib.hid hc
 have HS := Lib.hid hs
 have HX := Lib.hid hx
 have HKk := Lib.hid hk
 have HP := Lib.hid hp
 have HNa := Lib.hid hna
 have HKd := Lib.hid hkids
 have HCell := Lib.hid hcell
 have hbn := hK.gr.nod.sv.bound
 have hkb := hkids.bound
 have hLb : L ≤ 20000 := by omega
 have hpb : p ≤ 2048 := by have := hK.w2; have := hK.wl; omega
 clear hE hc hs hx hk hna hkids hcell
 have HB0 := Lib.hid (al1 (Below.refl w.heap.size w) (.cells #[.bool false, .int .i64 0, .int .i64 0, .slice none 0 0, .int .i64 0] 64))
 have HR0 := Lib.hid (hrow.new w #[.bool false, .int .i64 0, .int .i64 0, .slice none 0 0, .int .i64 0] 64)
 have H1 := Lib.hid (h.below HB0.out)
 have HLo : Hid (K.base.heap.size ≤ w.heap.size) := h.low.size
 clear h
 go_enter Try.func38, Try.ntmps38
 go_upto_region 1 with (fail)
 revert HB0 HR0 H1
 generalize w.alloc _ = w1
 generalize hh0 : w.heap.size = h0
 intro HB0 HR0 H1
 have HH0 := Lib.hid hh0
 have HF1 := Lib.hid (RF.below (hh0 ▸ HB0.out))
 clear HB0 hh0
 have p4 := H1.out.obj.cell 4
 have p5 := H1.out.obj.cell 5
 have p6 := H1.out.obj.cell 6
 have pf5 := H1.out.obj.frozen 5
 have pf6 := H1.out.obj.frozen 6
 simp at p4 p5 p6
 have HS6 := Lib.hid (H1.out.setOver hK.hg false)
 have HS5 := Lib.hid (HS6.out.1.setLeft hK.hg L)
 have HF2 := Lib.hid (HF1.out.trans (HS6.out.2.trans HS5.out.2))
 have HW2 : Hid (RW K ((w1.setCell ⟨K.g, 6, none⟩ (.bool false)).setCell ⟨K.g, 5, none⟩ (.int .i64 L)) ⟨cs, false, L, false⟩ v KS) := HS5.out.1
 have HR2 := Lib.hid ((HR0.out.rf HS6.out.2 (by decide) (by decide)).rf HS5.out.2 (by decide) (by decide))
 clear HS6 HS5 HF1 H1 HR0
 go_upto_region 5 with (fail)
 revert HF2 HW2 HR2
 generalize (w1.setCell _ _).setCell _ _ = w2
 intro HF2 HW2 HR2
 clear p4 p5 p6 pf5 pf6
 have p1 : w2.cell? ⟨K.g, 1, none⟩ = some (.slice (some na) K.nn K.nc) := by rw [← HNa.out]; exact HW2.out.obj.cell 1
 have c0 : w2.cell? (na.add (n * 9)) = some (.int .i64 5) := HKk.out ▸ (HCell.out w2 HW2.out.low).1
 have cc := (HCell.out w2 HW2.out.low).2
 have c1 : w2.cell? ⟨(na.add (n * 9)).block, (na.add (n * 9)).off + 1, none⟩ = some (.int .u64 x.c0) := cc 1 _ (by decide) rfl
 have c2 : w2.cell? ⟨(na.add (n * 9)).block, (na.add (n * 9)).off + 2, none⟩ = some (.int .u64 x.c1) := cc 2 _ (by decide) rfl
 have c3 : w2.cell? ⟨(na.add (n * 9)).block, (na.add (n * 9)).off + 3, none⟩ = some (.int .u64 x.c2) := cc 3 _ (by decide) rfl
 have c4 : w2.cell? ⟨(na.add (n * 9)).block, (na.add (n * 9)).off + 4, none⟩ = some (.int .u64 x.c3) := cc 4 _ (by decide) rfl
 have c5 : w2.cell? ⟨(na.add (n * 9)).block, (na.add (n * 9)).off + 5, none⟩ = some (.string x.text) := cc 5 _ (by decide) rfl
 have c6 : w2.cell? ⟨(na.add (n * 9)).block, (na.add (n * 9)).off + 6, none⟩ = some (.int .i64 x.rule) := cc 6 _ (by decide) rfl
 have c7 : w2.cell? ⟨(na.add (n * 9)).block, (na.add (n * 9)).off + 7, none⟩ = some (.int .i64 x.lev) := cc 7 _ (by decide) rfl
 have c8 : w2.cell? ⟨(na.add (n * 9)).block, (na.add (n * 9)).off + 8, none⟩ = some (.slice ko x.kids.length kc) := cc 8 _ (by decide) rfl
 have hnl' : (n : Int) < K.nn := by omega
 have hn0 : (0 : Int) ≤ n := by omega
 clear cc
 have HXn := Lib.hid (hrow.new w2 #[.int .i64 5, .int .u64 x.c0, .int .u64 x.c1, .int .u64 x.c2, .int .u64 x.c3, .string x.text, .int .i64 x.rule, .int .i64 x.lev, .slice ko x.kids.length kc] 57)
 have HAl := Lib.hid (Below.refl w2.heap.size w2 |>.alloc (Nat.le_refl _) (.cells #[.int .i64 5, .int .u64 x.c0, .int .u64 x.c1, .int .u64 x.c2, .int .u64 x.c3, .string x.text, .int .i64 x.rule, .int .i64 x.lev, .slice ko x.kids.length kc] 57))
 have HW3 := Lib.hid (HW2.out.below HAl.out)
 have HF3 := Lib.hid (HF2.out.trans (.below HAl.out))
 have HR3 := Lib.hid (HR2.out.below HAl.out)
 have HLx : Hid (h0 < w2.heap.size) := HR2.out.lt
 go_upto_region 6 with (fail)
 revert HXn HW3 HF3 HR3 HLx
 generalize w2.alloc _ = w3
 generalize w2.heap.size = hx
 intro HXn HW3 HF3 HR3 HLx
 clear HAl HW2 HF2 HR2 c0 c1 c2 c3 c4 c5 c6 c7 c8 p1
 obtain ⟨x0, x1, x2, x3, x4, x5, x6, x7, x8⟩ := (HXn.out).c9
 have hrr := node_call (hK.ok.nod n x HX.out) HKk.out
 rw [hrl.out] at x6 hrr
 have hrn : rl < K.G.rules.length := by omega
 clear hrr
 have HCl := Lib.hid (rcall_any K hK f HE.out w3 ⟨cs, false, L, false⟩ v KS rl p HW3.out HC.out.1 (by have := HC.out.2.1; omega) (by have := HC.out.2.2; simp only []; omega) HS.out rfl hrn HP.out)
 generalize callR (ev K.G K.W f) K.G rl p ⟨cs, false, L, false⟩ = o at *
 obtain ⟨⟨xi, xe, xf, xt, xr⟩, s2⟩ := o
 go_wp2_with fail
 refine (HCl.out).mono ?_
 rintro e w6 ⟨v6, KS6, o6, c6, rfl, g1, g2, g3⟩
 simp only [rsv, rcs] at g1 g2 ⊢
 have G1 := Lib.hid g1
 have G2 := Lib.hid g2
 have G3 := Lib.hid (HF3.out.trans g3)
 have HZ6 := Lib.hid (HR3.out.rf g3 (by decide) (by decide))
 clear g1 g2 g3
 obtain ⟨zq0, zq1, zq2, zq3, zq4⟩ := (HZ6.out).c5
 obtain ⟨zf0, zf1, zf2, zf3, zf4⟩ := (HZ6.out).f5
 have zr5 := set5_row (.bool xi) (.int .i64 xe) (.int .i64 xf) (.slice o6 xt.length c6) (.int .i64 xr) (HZ6.out)
 have zf5 := set5_fr w6 h0 (.bool xi) (.int .i64 xe) (.int .i64 xf) (.slice o6 xt.length c6) (.int .i64 xr)
 unfold set5 at zr5 zf5
 have ZR5 := Lib.hid zr5
 have ZF5 := Lib.hid zf5
 clear zr5 zf5
 go_wp2_with fail
 revert ZR5 ZF5
 generalize ((((w6.setCell _ _).setCell _ _).setCell _ _).setCell _ _).setCell _ _ = wz
 intro ZR5 ZF5
 obtain ⟨zc0, zc1, zc2, zc3, zc4⟩ := (ZR5.out).c5
 exact bodyPost_ret (v := .agg #[.bool xi, .int .i64 xe, .int .i64 xf, .slice o6 xt.length c6, .int .i64 xr]) (by simp [results, Try.results38, go_sem, zc0, zc1, zc2, zc3, zc4]) rfl (by exact ⟨v6, KS6, o6, c6, rfl, (G1.out).boxed HZ6.out (by have := HH0.out; have := HLo.out; omega) ZF5.out, (G2.out).boxed HZ6.out ZF5.out, (G3.out).new ZF5.out (fun k e => by have e' : k = h0 := e; have := HH0.out; omega)⟩)
theorem rev6 (K : Env) (hK : EnvOk K) (f : Nat) (hE : EvC K f) (w : World) (cs : List Ce) (L : Nat) (v : Value) (KS : List (Ce × (Option Addr × Nat))) (n p : Nat) (x : Nd) (h : RW K w ⟨cs, false, L + 1, false⟩ v KS) (hc : L ≤ f ∧ f + 1 ≤ 20000 ∧ cs.length + (L + 1) ≤ 20001)
  (hs : StOk K.G.rules.length K.W.length ⟨cs, false, L, false⟩) (hx : K.G.nodes[n]? = some x) (hk : x.kind = 6) (hp : p ≤ K.W.length) :
  Calls Try.prog 38 #[.pointer (some ⟨K.g, 0, none⟩), .int .i64 n, .int .i64 p] w (REnd K w (seqR (ev K.G K.W f) x.kids (toR p) ⟨cs, false, L, false⟩)) := by
 obtain ⟨na, ko, kc, hna, hnl, hnb, htx, hkids, hcell⟩ := RW.node hK hx
 have HE := Lib.hid hE
 have HC := Lib.hid hc
 have HS := Lib.hid hs
 have HX := Lib.hid hx
 have HKk := Lib.hid hk
 have HP := Lib.hid hp
 have HNa := Lib.hid hna
 have HKd := Lib.hid hkids
 have HCell := Lib.hid hcell
 have hbn := hK.gr.nod.sv.bound
 have hkb := hkids.bound
 have hLb : L ≤ 20000 := by omega
 have hpb : p ≤ 2048 := by have := hK.w2; have := hK.wl; omega
 clear hE hc hs hx hk hna hkids hcell
 have HB0 := Lib.hid (al1 (Below.refl w.heap.size w) (.cells #[.bool false, .int .i64 0, .int .i64 0, .slice none 0 0, .int .i64 0] 64))
 have HR0 := Lib.hid (hrow.new w #[.bool false, .int .i64 0, .int .i64 0, .slice none 0 0, .int .i64 0] 64)
 have H1 := Lib.hid (h.below HB0.out)
 have HLo : Hid (K.base.heap.size ≤ w.heap.size) := h.low.size
 clear h
 go_enter Try.func38, Try.ntmps38
 go_upto_region 1 with (fail)
 revert HB0 HR0 H1
 generalize w.alloc _ = w1
 generalize hh0 : w.heap.size = h0
 intro HB0 HR0 H1
 have HH0 := Lib.hid hh0
 have HF1 := Lib.hid (RF.below (hh0 ▸ HB0.out))
 clear HB0 hh0
 have p4 := H1.out.obj.cell 4
 have p5 := H1.out.obj.cell 5
 have p6 := H1.out.obj.cell 6
 have pf5 := H1.out.obj.frozen 5
 have pf6 := H1.out.obj.frozen 6
 simp at p4 p5 p6
 have HS6 := Lib.hid (H1.out.setOver hK.hg false)
 have HS5 := Lib.hid (HS6.out.1.setLeft hK.hg L)
 have HF2 := Lib.hid (HF1.out.trans (HS6.out.2.trans HS5.out.2))
 have HW2 : Hid (RW K ((w1.setCell ⟨K.g, 6, none⟩ (.bool false)).setCell ⟨K.g, 5, none⟩ (.int .i64 L)) ⟨cs, false, L, false⟩ v KS) := HS5.out.1
 have HR2 := Lib.hid ((HR0.out.rf HS6.out.2 (by decide) (by decide)).rf HS5.out.2 (by decide) (by decide))
 clear HS6 HS5 HF1 H1 HR0
 go_upto_region 5 with (fail)
 revert HF2 HW2 HR2
 generalize (w1.setCell _ _).setCell _ _ = w2
 intro HF2 HW2 HR2
 clear p4 p5 p6 pf5 pf6
 have p1 : w2.cell? ⟨K.g, 1, none⟩ = some (.slice (some na) K.nn K.nc) := by rw [← HNa.out]; exact HW2.out.obj.cell 1
 have c0 : w2.cell? (na.add (n * 9)) = some (.int .i64 6) := HKk.out ▸ (HCell.out w2 HW2.out.low).1
 have cc := (HCell.out w2 HW2.out.low).2
 have c1 : w2.cell? ⟨(na.add (n * 9)).block, (na.add (n * 9)).off + 1, none⟩ = some (.int .u64 x.c0) := cc 1 _ (by decide) rfl
 have c2 : w2.cell? ⟨(na.add (n * 9)).block, (na.add (n * 9)).off + 2, none⟩ = some (.int .u64 x.c1) := cc 2 _ (by decide) rfl
 have c3 : w2.cell? ⟨(na.add (n * 9)).block, (na.add (n * 9)).off + 3, none⟩ = some (.int .u64 x.c2) := cc 3 _ (by decide) rfl
 have c4 : w2.cell? ⟨(na.add (n * 9)).block, (na.add (n * 9)).off + 4, none⟩ = some (.int .u64 x.c3) := cc 4 _ (by decide) rfl
 have c5 : w2.cell? ⟨(na.add (n * 9)).block, (na.add (n * 9)).off + 5, none⟩ = some (.string x.text) := cc 5 _ (by decide) rfl
 have c6 : w2.cell? ⟨(na.add (n * 9)).block, (na.add (n * 9)).off + 6, none⟩ = some (.int .i64 x.rule) := cc 6 _ (by decide) rfl
 have c7 : w2.cell? ⟨(na.add (n * 9)).block, (na.add (n * 9)).off + 7, none⟩ = some (.int .i64 x.lev) := cc 7 _ (by decide) rfl
 have c8 : w2.cell? ⟨(na.add (n * 9)).block, (na.add (n * 9)).off + 8, none⟩ = some (.slice ko x.kids.length kc) := cc 8 _ (by decide) rfl
 have hnl' : (n : Int) < K.nn := by omega
 have hn0 : (0 : Int) ≤ n := by omega
 clear cc
 have HXn := Lib.hid (hrow.new w2 #[.int .i64 6, .int .u64 x.c0, .int .u64 x.c1, .int .u64 x.c2, .int .u64 x.c3, .string x.text, .int .i64 x.rule, .int .i64 x.lev, .slice ko x.kids.length kc] 57)
 have HAl := Lib.hid (Below.refl w2.heap.size w2 |>.alloc (Nat.le_refl _) (.cells #[.int .i64 6, .int .u64 x.c0, .int .u64 x.c1, .int .u64 x.c2, .int .u64 x.c3, .string x.text, .int .i64 x.rule, .int .i64 x.lev, .slice ko x.kids.length kc] 57))
 have HW3 := Lib.hid (HW2.out.below HAl.out)
 have HF3 := Lib.hid (HF2.out.trans (.below HAl.out))
 have HR3 := Lib.hid (HR2.out.below HAl.out)
 have HLx : Hid (h0 < w2.heap.size) := HR2.out.lt
 go_upto_region 6 with (fail)
 revert HXn HW3 HF3 HR3 HLx
 generalize w2.alloc _ = w3
 generalize w2.heap.size = hx
 intro HXn HW3 HF3 HR3 HLx
 clear HAl HW2 HF2 HR2 c0 c1 c2 c3 c4 c5 c6 c7 c8 p1
 obtain ⟨x0, x1, x2, x3, x4, x5, x6, x7, x8⟩ := (HXn.out).c9
 have hCap : Cap f ⟨cs, false, L, false⟩ := by have := HC.out; exact ⟨this.1, by omega, by simp only []; omega⟩
 have HCl := Lib.hid (rseq_any K hK f HE.out w3 ⟨cs, false, L, false⟩ v KS x.kids ko kc p HW3.out hCap HS.out (hK.ok.kid n x HX.out) HKd.out HP.out)
 clear hCap
 generalize seqR (ev K.G K.W f) x.kids (toR p) ⟨cs, false, L, false⟩ = o at *
 obtain ⟨⟨xi, xe, xf, xt, xr⟩, s2⟩ := o
 go_wp2_with fail
 refine (HCl.out).mono ?_
 rintro e w6 ⟨v6, KS6, o6, c6, rfl, g1, g2, g3⟩
 simp only [rsv, rcs] at g1 g2 ⊢
 have G1 := Lib.hid g1
 have G2 := Lib.hid g2
 have G3 := Lib.hid (HF3.out.trans g3)
 have HZ6 := Lib.hid (HR3.out.rf g3 (by decide) (by decide))
 clear g1 g2 g3
 obtain ⟨zq0, zq1, zq2, zq3, zq4⟩ := (HZ6.out).c5
 obtain ⟨zf0, zf1, zf2, zf3, zf4⟩ := (HZ6.out).f5
 have zr5 := set5_row (.bool xi) (.int .i64 xe) (.int .i64 xf) (.slice o6 xt.length c6) (.int .i64 xr) (HZ6.out)
 have zf5 := set5_fr w6 h0 (.bool xi) (.int .i64 xe) (.int .i64 xf) (.slice o6 xt.length c6) (.int .i64 xr)
 unfold set5 at zr5 zf5
 have ZR5 := Lib.hid zr5
 have ZF5 := Lib.hid zf5
 clear zr5 zf5
 go_wp2_with fail
 revert ZR5 ZF5
 generalize ((((w6.setCell _ _).setCell _ _).setCell _ _).setCell _ _).setCell _ _ = wz
 intro ZR5 ZF5
 obtain ⟨zc0, zc1, zc2, zc3, zc4⟩ := (ZR5.out).c5
 exact bodyPost_ret (v := .agg #[.bool xi, .int .i64 xe, .int .i64 xf, .slice o6 xt.length c6, .int .i64 xr]) (by simp [results, Try.results38, go_sem, zc0, zc1, zc2, zc3, zc4]) rfl (by exact ⟨v6, KS6, o6, c6, rfl, (G1.out).boxed HZ6.out (by have := HH0.out; have := HLo.out; omega) ZF5.out, (G2.out).boxed HZ6.out ZF5.out, (G3.out).new ZF5.out (fun k e => by have e' : k = h0 := e; have := HH0.out; omega)⟩)
theorem rev7 (K : Env) (hK : EnvOk K) (f : Nat) (hE : EvC K f) (w : World) (cs : List Ce) (L : Nat) (v : Value) (KS : List (Ce × (Option Addr × Nat))) (n p : Nat) (x : Nd) (h : RW K w ⟨cs, false, L + 1, false⟩ v KS) (hc : L ≤ f ∧ f + 1 ≤ 20000 ∧ cs.length + (L + 1) ≤ 20001)
  (hs : StOk K.G.rules.length K.W.length ⟨cs, false, L, false⟩) (hx : K.G.nodes[n]? = some x) (hk : x.kind = 7) (hp : p ≤ K.W.length) :
  Calls Try.prog 38 #[.pointer (some ⟨K.g, 0, none⟩), .int .i64 n, .int .i64 p] w (REnd K w (altR (ev K.G K.W f) p x.kids (-1) ⟨cs, false, L, false⟩)) := by
 obtain ⟨na, ko, kc, hna, hnl, hnb, htx, hkids, hcell⟩ := RW.node hK hx
 have HE := Lib.hid hE
 have HC := Lib.hid hc
 have HS := Lib.hid hs
 have HX := Lib.hid hx
 have HKk := Lib.hid hk
 have HP := Lib.hid hp
 have HNa := Lib.hid hna
 have HKd := Lib.hid hkids
 have HCell := Lib.hid hcell
 have hbn := hK.gr.nod.sv.bound
 have hkb := hkids.bound
 have hLb : L ≤ 20000 := by omega
 have hpb : p ≤ 2048 := by have := hK.w2; have := hK.wl; omega
 clear hE hc hs hx hk hna hkids hcell
 have HB0 := Lib.hid (al1 (Below.refl w.heap.size w) (.cells #[.bool false, .int .i64 0, .int .i64 0, .slice none 0 0, .int .i64 0] 64))
 have HR0 := Lib.hid (hrow.new w #[.bool false, .int .i64 0, .int .i64 0, .slice none 0 0, .int .i64 0] 64)
 have H1 := Lib.hid (h.below HB0.out)
 have HLo : Hid (K.base.heap.size ≤ w.heap.size) := h.low.size
 clear h
 go_enter Try.func38, Try.ntmps38
 go_upto_region 1 with (fail)
 revert HB0 HR0 H1
 generalize w.alloc _ = w1
 generalize hh0 : w.heap.size = h0
 intro HB0 HR0 H1
 have HH0 := Lib.hid hh0
 have HF1 := Lib.hid (RF.below (hh0 ▸ HB0.out))
 clear HB0 hh0
 have p4 := H1.out.obj.cell 4
 have p5 := H1.out.obj.cell 5
 have p6 := H1.out.obj.cell 6
 have pf5 := H1.out.obj.frozen 5
 have pf6 := H1.out.obj.frozen 6
 simp at p4 p5 p6
 have HS6 := Lib.hid (H1.out.setOver hK.hg false)
 have HS5 := Lib.hid (HS6.out.1.setLeft hK.hg L)
 have HF2 := Lib.hid (HF1.out.trans (HS6.out.2.trans HS5.out.2))
 have HW2 : Hid (RW K ((w1.setCell ⟨K.g, 6, none⟩ (.bool false)).setCell ⟨K.g, 5, none⟩ (.int .i64 L)) ⟨cs, false, L, false⟩ v KS) := HS5.out.1
 have HR2 := Lib.hid ((HR0.out.rf HS6.out.2 (by decide) (by decide)).rf HS5.out.2 (by decide) (by decide))
 clear HS6 HS5 HF1 H1 HR0
 go_upto_region 5 with (fail)
 revert HF2 HW2 HR2
 generalize (w1.setCell _ _).setCell _ _ = w2
 intro HF2 HW2 HR2
 clear p4 p5 p6 pf5 pf6
 have p1 : w2.cell? ⟨K.g, 1, none⟩ = some (.slice (some na) K.nn K.nc) := by rw [← HNa.out]; exact HW2.out.obj.cell 1
 have c0 : w2.cell? (na.add (n * 9)) = some (.int .i64 7) := HKk.out ▸ (HCell.out w2 HW2.out.low).1
 have cc := (HCell.out w2 HW2.out.low).2
 have c1 : w2.cell? ⟨(na.add (n * 9)).block, (na.add (n * 9)).off + 1, none⟩ = some (.int .u64 x.c0) := cc 1 _ (by decide) rfl
 have c2 : w2.cell? ⟨(na.add (n * 9)).block, (na.add (n * 9)).off + 2, none⟩ = some (.int .u64 x.c1) := cc 2 _ (by decide) rfl
 have c3 : w2.cell? ⟨(na.add (n * 9)).block, (na.add (n * 9)).off + 3, none⟩ = some (.int .u64 x.c2) := cc 3 _ (by decide) rfl
 have c4 : w2.cell? ⟨(na.add (n * 9)).block, (na.add (n * 9)).off + 4, none⟩ = some (.int .u64 x.c3) := cc 4 _ (by decide) rfl
 have c5 : w2.cell? ⟨(na.add (n * 9)).block, (na.add (n * 9)).off + 5, none⟩ = some (.string x.text) := cc 5 _ (by decide) rfl
 have c6 : w2.cell? ⟨(na.add (n * 9)).block, (na.add (n * 9)).off + 6, none⟩ = some (.int .i64 x.rule) := cc 6 _ (by decide) rfl
 have c7 : w2.cell? ⟨(na.add (n * 9)).block, (na.add (n * 9)).off + 7, none⟩ = some (.int .i64 x.lev) := cc 7 _ (by decide) rfl
 have c8 : w2.cell? ⟨(na.add (n * 9)).block, (na.add (n * 9)).off + 8, none⟩ = some (.slice ko x.kids.length kc) := cc 8 _ (by decide) rfl
 have hnl' : (n : Int) < K.nn := by omega
 have hn0 : (0 : Int) ≤ n := by omega
 clear cc
 have HXn := Lib.hid (hrow.new w2 #[.int .i64 7, .int .u64 x.c0, .int .u64 x.c1, .int .u64 x.c2, .int .u64 x.c3, .string x.text, .int .i64 x.rule, .int .i64 x.lev, .slice ko x.kids.length kc] 57)
 have HAl := Lib.hid (Below.refl w2.heap.size w2 |>.alloc (Nat.le_refl _) (.cells #[.int .i64 7, .int .u64 x.c0, .int .u64 x.c1, .int .u64 x.c2, .int .u64 x.c3, .string x.text, .int .i64 x.rule, .int .i64 x.lev, .slice ko x.kids.length kc] 57))
 have HW3 := Lib.hid (HW2.out.below HAl.out)
 have HF3 := Lib.hid (HF2.out.trans (.below HAl.out))
 have HR3 := Lib.hid (HR2.out.below HAl.out)
 have HLx : Hid (h0 < w2.heap.size) := HR2.out.lt
 go_upto_region 6 with (fail)
 revert HXn HW3 HF3 HR3 HLx
 generalize w2.alloc _ = w3
 generalize w2.heap.size = hx
 intro HXn HW3 HF3 HR3 HLx
 clear HAl HW2 HF2 HR2 c0 c1 c2 c3 c4 c5 c6 c7 c8 p1
 obtain ⟨x0, x1, x2, x3, x4, x5, x6, x7, x8⟩ := (HXn.out).c9
 have hCap : Cap f ⟨cs, false, L, false⟩ := by have := HC.out; exact ⟨this.1, by omega, by simp only []; omega⟩
 have HCl := Lib.hid (ralt_any K hK f HE.out w3 ⟨cs, false, L, false⟩ v KS x.kids ko kc p HW3.out hCap HS.out (hK.ok.kid n x HX.out) HKd.out HP.out)
 clear hCap
 generalize altR (ev K.G K.W f) p x.kids (-1) ⟨cs, false, L, false⟩ = o at *
 obtain ⟨⟨xi, xe, xf, xt, xr⟩, s2⟩ := o
 go_wp2_with fail
 refine (HCl.out).mono ?_
 rintro e w6 ⟨v6, KS6, o6, c6, rfl, g1, g2, g3⟩
 simp only [rsv, rcs] at g1 g2 ⊢
 have G1 := Lib.hid g1
 have G2 := Lib.hid g2
 have G3 := Lib.hid (HF3.out.trans g3)
 have HZ6 := Lib.hid (HR3.out.rf g3 (by decide) (by decide))
 clear g1 g2 g3
 obtain ⟨zq0, zq1, zq2, zq3, zq4⟩ := (HZ6.out).c5
 obtain ⟨zf0, zf1, zf2, zf3, zf4⟩ := (HZ6.out).f5
 have zr5 := set5_row (.bool xi) (.int .i64 xe) (.int .i64 xf) (.slice o6 xt.length c6) (.int .i64 xr) (HZ6.out)
 have zf5 := set5_fr w6 h0 (.bool xi) (.int .i64 xe) (.int .i64 xf) (.slice o6 xt.length c6) (.int .i64 xr)
 unfold set5 at zr5 zf5
 have ZR5 := Lib.hid zr5
 have ZF5 := Lib.hid zf5
 clear zr5 zf5
 go_wp2_with fail
 revert ZR5 ZF5
 generalize ((((w6.setCell _ _).setCell _ _).setCell _ _).setCell _ _).setCell _ _ = wz
 intro ZR5 ZF5
 obtain ⟨zc0, zc1, zc2, zc3, zc4⟩ := (ZR5.out).c5
 exact bodyPost_ret (v := .agg #[.bool xi, .int .i64 xe, .int .i64 xf, .slice o6 xt.length c6, .int .i64 xr]) (by simp [results, Try.results38, go_sem, zc0, zc1, zc2, zc3, zc4]) rfl (by exact ⟨v6, KS6, o6, c6, rfl, (G1.out).boxed HZ6.out (by have := HH0.out; have := HLo.out; omega) ZF5.out, (G2.out).boxed HZ6.out ZF5.out, (G3.out).new ZF5.out (fun k e => by have e' : k = h0 := e; have := HH0.out; omega)⟩)
end Go.Proofs.Ytdnkffplkleolaa
