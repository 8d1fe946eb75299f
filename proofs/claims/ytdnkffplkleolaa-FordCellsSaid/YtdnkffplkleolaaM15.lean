/- Walks and plain laws: Rl. -/
import Derived.Test.YtdnkffplkleolaaM12
import Derived.Test.YtdnkffplkleolaaM11
import Derived.StillTailTactics
namespace Go.Proofs.Ytdnkffplkleolaa
open Go.RowKit
set_option maxRecDepth 100000
set_option maxHeartbeats 4000000

theorem rev8 (K : Env) (hK : EnvOk K) (f : Nat) (hE : EvC K f) (w : World) (cs : List Ce) (L : Nat) (v : Value) (KS : List (Ce × (Option Addr × Nat))) (n p : Nat) (x : Nd) (h : RW K w ⟨cs, false, L + 1, false⟩ v KS) (hc : L ≤ f ∧ f + 1 ≤ 20000 ∧ cs.length + (L + 1) ≤ 20001)
  (hs : StOk K.G.rules.length K.W.length ⟨cs, false, L, false⟩) (hx : K.G.nodes[n]? = some x) (hk : x.kind = 8) (hp : p ≤ K.W.length) (kk : Nat) (HKi : Hid (x.kids = [(kk : Int)])) :
  Calls Try.prog 38 #[.pointer (some ⟨K.g, 0, none⟩), .int .i64 n, .int .i64 p] w (REnd K w (starR (ev K.G K.W f) kk (L + 1) (toR p) ⟨cs, false, L, false⟩)) := by
 obtain ⟨na, ko, kc, hna, hnl, hnb, htx, hkids, hcell⟩ := RW.node hK hx
 have HE := Lib.hid hE
 have HC := Lib.hid hc
 have HS := Lib.hid hs
 have HX := Lib.hid hx
 have HKk := Lib.hid hk
 have HP := Lib.hid hp
 have HNa := Lib.hid hna
 have HKd := Lib.hid hkids
 have HCell := Lib.hid hcell
 have hbn := hK.gr.nod.sv.bound
 have hkb := hkids.bound
 have hLb : L ≤ 20000 := by omega
 have hpb : p ≤ 2048 := by have := hK.w2; have := hK.wl; omega
 clear hE hc hs hx hk hna hkids hcell
 have HB0 := Lib.hid (al1 (Below.refl w.heap.size w) (.cells #[.bool false, .int .i64 0, .int .i64 0, .slice none 0 0, .int .i64 0] 64))
 have HR0 := Lib.hid (hrow.new w #[.bool false, .int .i64 0, .int .i64 0, .slice none 0 0, .int .i64 0] 64)
 have H1 := Lib.hid (h.below HB0.out)
 have HLo : Hid (K.base.heap.size ≤ w.heap.size) := h.low.size
 clear h
 go_enter Try.func38, Try.ntmps38
 go_upto_region 1 with (fail)
 revert HB0 HR0 H1
 generalize w.alloc _ = w1
 generalize hh0 : w.heap.size = h0
 intro HB0 HR0 H1
 have HH0 := Lib.hid hh0
 have HF1 := Lib.hid (RF.below (hh0 ▸ HB0.out))
 clear HB0 hh0
 have p4 := H1.out.obj.cell 4
 have p5 := H1.out.obj.cell 5
 have p6 := H1.out.obj.cell 6
 have pf5 := H1.out.obj.frozen 5
 have pf6 := H1.out.obj.frozen 6
 simp at p4 p5 p6
 have HS6 := Lib.hid (H1.out.setOver hK.hg false)
 have HS5 := Lib.hid (HS6.out.1.setLeft hK.hg L)
 have HF2 := Lib.hid (HF1.out.trans (HS6.out.2.trans HS5.out.2))
 have HW2 : Hid (RW K ((w1.setCell ⟨K.g, 6, none⟩ (.bool false)).setCell ⟨K.g, 5, none⟩ (.int .i64 L)) ⟨cs, false, L, false⟩ v KS) := HS5.out.1
 have HR2 := Lib.hid ((HR0.out.rf HS6.out.2 (by decide) (by decide)).rf HS5.out.2 (by decide) (by decide))
 clear HS6 HS5 HF1 H1 HR0
 go_upto_region 5 with (fail)
 revert HF2 HW2 HR2
 generalize (w1.setCell _ _).setCell _ _ = w2
 intro HF2 HW2 HR2
 clear p4 p5 p6 pf5 pf6
 have p1 : w2.cell? ⟨K.g, 1, none⟩ = some (.slice (some na) K.nn K.nc) := by rw [← HNa.out]; exact HW2.out.obj.cell 1
 have c0 : w2.cell? (na.add (n * 9)) = some (.int .i64 8) := HKk.out ▸ (HCell.out w2 HW2.out.low).1
 have cc := (HCell.out w2 HW2.out.low).2
 have c1 : w2.cell? ⟨(na.add (n * 9)).block, (na.add (n * 9)).off + 1, none⟩ = some (.int .u64 x.c0) := cc 1 _ (by decide) rfl
 have c2 : w2.cell? ⟨(na.add (n * 9)).block, (na.add (n * 9)).off + 2, none⟩ = some (.int .u64 x.c1) := cc 2 _ (by decide) rfl
 have c3 : w2.cell? ⟨(na.add (n * 9)).block, (na.add (n * 9)).off + 3, none⟩ = some (.int .u64 x.c2) := cc 3 _ (by decide) rfl
 have c4 : w2.cell? ⟨(na.add (n * 9)).block, (na.add (n * 9)).off + 4, none⟩ = some (.int .u64 x.c3) := cc 4 _ (by decide) rfl
 have c5 : w2.cell? ⟨(na.add (n * 9)).block, (na.add (n * 9)).off + 5, none⟩ = some (.string x.text) := cc 5 _ (by decide) rfl
 have c6 : w2.cell? ⟨(na.add (n * 9)).block, (na.add (n * 9)).off + 6, none⟩ = some (.int .i64 x.rule) := cc 6 _ (by decide) rfl
 have c7 : w2.cell? ⟨(na.add (n * 9)).block, (na.add (n * 9)).off + 7, none⟩ = some (.int .i64 x.lev) := cc 7 _ (by decide) rfl
 have c8 : w2.cell? ⟨(na.add (n * 9)).block, (na.add (n * 9)).off + 8, none⟩ = some (.slice ko x.kids.length kc) := cc 8 _ (by decide) rfl
 have hnl' : (n : Int) < K.nn := by omega
 have hn0 : (0 : Int) ≤ n := by omega
 clear cc
 have HXn := Lib.hid (hrow.new w2 #[.int .i64 8, .int .u64 x.c0, .int .u64 x.c1, .int .u64 x.c2, .int .u64 x.c3, .string x.text, .int .i64 x.rule, .int .i64 x.lev, .slice ko x.kids.length kc] 57)
 have HAl := Lib.hid (Below.refl w2.heap.size w2 |>.alloc (Nat.le_refl _) (.cells #[.int .i64 8, .int .u64 x.c0, .int .u64 x.c1, .int .u64 x.c2, .int .u64 x.c3, .string x.text, .int .i64 x.rule, .int .i64 x.lev, .slice ko x.kids.length kc] 57))
 have HW3 := Lib.hid (HW2.out.below HAl.out)
 have HF3 := Lib.hid (HF2.out.trans (.below HAl.out))
 have HR3 := Lib.hid (HR2.out.below HAl.out)
 have HLx : Hid (h0 < w2.heap.size) := HR2.out.lt
 go_upto_region 6 with (fail)
 revert HXn HW3 HF3 HR3 HLx
 generalize w2.alloc _ = w3
 generalize w2.heap.size = hx
 intro HXn HW3 HF3 HR3 HLx
 clear HAl HW2 HF2 HR2 c0 c1 c2 c3 c4 c5 c6 c7 c8 p1
 obtain ⟨x0, x1, x2, x3, x4, x5, x6, x7, x8⟩ := (HXn.out).c9
 have hCap : Cap f ⟨cs, false, L, false⟩ := by have := HC.out; exact ⟨this.1, by omega, by simp only []; omega⟩
 have hkn : kk < K.G.nodes.length := by have := hK.ok.kid n x HX.out kk (by rw [HKi.out]; simp); omega
 have hl1 : x.kids.length = 1 := by rw [HKi.out]; rfl
 obtain ⟨ka, hka, hkc⟩ := HKd.out.cell 0 (by simp [inc, HKi.out])
 have hkc' : K.base.cell? ka = some (.int .i64 kk) := by
  have e : ka.add 0 = ka := by unfold Addr.add; simp
  rw [e] at hkc
  rw [hkc]; simp [inc, HKi.out]
 have k0 : w3.cell? ka = some (.int .i64 kk) := (HW3.out.low.cell (World.block_lt_of_cell? _ _ hkc')).trans hkc'
 have HKc := Lib.hid hkc'
 subst hka
 rw [hl1] at x8 HXn hkb
 clear hkc hkc' hl1 HKd HCell
 have HSt : Hid (∀ W', Below w3.heap.size w3 W' → Calls Try.prog 51 #[.pointer (some ⟨K.g, 0, none⟩), .int .i64 kk, .agg #[.bool true, .int .i64 p, .int .i64 (-1), .slice none 0 0, .int .i64 0]] W' (REnd K W' (starR (ev K.G K.W f) kk (L + 1) (toR p) ⟨cs, false, L, false⟩))) := fun W' hb' =>
  rstar_any K hK f HE.out W' ⟨cs, false, L, false⟩ v KS kk p (toR p) none 0 (HW3.out.below hb') hCap HS.out hkn (TrW.nil _) (.at (by decide) (by omega) (Nat.le_refl _) HP.out) rfl (by simp [toR]; omega)
 clear hCap
 generalize starR (ev K.G K.W f) kk (L + 1) (toR p) ⟨cs, false, L, false⟩ = o at *
 obtain ⟨⟨xi, xe, xf, xt, xr⟩, s2⟩ := o
 have hhx : hx ≠ h0 := by have := HLx.out; omega
 have hkh : ka.block ≠ h0 := by have := World.block_lt_of_cell? _ _ HKc.out; have := HH0.out; have := HLo.out; omega
 go_upto_region 31 with (fail)
 have HD0 := Lib.hid ((Below.refl w3.heap.size w3).drew)
 go_region_held3 (fun w' => w'.cell? ⟨hx, 8, none⟩ = some (.slice (some ka) 1 kc) ∧ w'.cell? ka = some (.int .i64 kk))
  (first | (with_reducible exact ⟨set5_cell K1.out hhx, set5_cell K2.out hkh⟩) | (with_reducible exact ⟨K1.out, K2.out⟩) | (with_reducible exact ⟨J1.out, J2.out⟩) | go_keep)
  ((first
   | (go_at_call 47; refine (rto_any _ p).mono ?_; rintro e w4 ⟨rfl, hb4⟩; have HB4 := Lib.hid (HD0.out.trans (hb4.mono HD0.out.size)); have J1 : Hid (w4.cell? ⟨hx, 8, none⟩ = some (.slice (some ka) 1 kc)) := (HXn.out.below HB4.out).cell 8; have J2 := Lib.hid ((HB4.out.cell (World.block_lt_of_cell? _ _ k0)).trans k0); clear hb4; simp only [rsv, rcs, toR, List.length_nil, Int.natCast_zero])
   | (go_at_call 51; refine (HSt.out _ HB4.out).mono ?_; rintro e w6 ⟨v6, KS6, o6, c6, rfl, g1, g2, g3⟩; simp only [rsv, rcs] at g1 g2 ⊢; have G1 := Lib.hid g1; have G2 := Lib.hid g2; have G3 := Lib.hid ((RF.below HB4.out).trans g3); clear g1 g2 g3; have K1 : Hid (w6.cell? ⟨hx, 8, none⟩ = some (.slice (some ka) 1 kc)) := (HXn.out.rf G3.out (by decide) (by decide)).cell 8; have K2 : Hid (w6.cell? ka = some (.int .i64 kk)) := Lib.hid ((G1.out.low.cell (World.block_lt_of_cell? _ _ HKc.out)).trans HKc.out); have HZ6 := Lib.hid (HR3.out.rf G3.out (by decide) (by decide)); obtain ⟨zq0, zq1, zq2, zq3, zq4⟩ := (HZ6.out).c5; obtain ⟨zf0, zf1, zf2, zf3⟩ := (HZ6.out).f4; have zf4 := (HZ6.out).frozen 4)))
 have zr5 := set5_row (.bool xi) (.int .i64 xe) (.int .i64 xf) (.slice o6 xt.length c6) (.int .i64 xr) (HZ6.out)
 have zf5 := set5_fr w6 h0 (.bool xi) (.int .i64 xe) (.int .i64 xf) (.slice o6 xt.length c6) (.int .i64 xr)
 unfold set5 at zr5 zf5
 have ZR5 := Lib.hid zr5
 have ZF5 := Lib.hid zf5
 clear zr5 zf5
 revert ZR5 ZF5
 generalize ((((w6.setCell _ _).setCell _ _).setCell _ _).setCell _ _).setCell _ _ = wz
 intro ZR5 ZF5
 obtain ⟨zc0, zc1, zc2, zc3, zc4⟩ := (ZR5.out).c5
 go_wp2_with fail
 exact bodyPost_ret (v := .agg #[.bool xi, .int .i64 xe, .int .i64 xf, .slice o6 xt.length c6, .int .i64 xr]) (by simp [results, Try.results38, go_sem, zc0, zc1, zc2, zc3, zc4]) rfl (by exact ⟨v6, KS6, o6, c6, rfl, (G1.out).boxed HZ6.out (by have := HH0.out; have := HLo.out; omega) ZF5.out, (G2.out).boxed HZ6.out ZF5.out, (HF3.out.trans G3.out).new ZF5.out (fun k e => by have e' : k = h0 := e; have := HH0.out; omega)⟩)
theorem rev9n (K : Env) (hK : EnvOk K) (f : Nat) (hE : EvC K f) (w : World) (cs : List Ce) (L : Nat) (v : Value) (KS : List (Ce × (Option Addr × Nat))) (n p : Nat) (x : Nd) (h : RW K w ⟨cs, false, L + 1, false⟩ v KS) (hc : L ≤ f ∧ f + 1 ≤ 20000 ∧ cs.length + (L + 1) ≤ 20001)
  (hs : StOk K.G.rules.length K.W.length ⟨cs, false, L, false⟩) (hx : K.G.nodes[n]? = some x) (hk : x.kind = 9) (hp : p ≤ K.W.length) (kk : Nat) (HKi : Hid (x.kids = [(kk : Int)])) (hi : (ev K.G K.W f ⟨cs, false, L, false⟩ kk p).1.is = false) :
  Calls Try.prog 38 #[.pointer (some ⟨K.g, 0, none⟩), .int .i64 n, .int .i64 p] w (REnd K w ((ev K.G K.W f ⟨cs, false, L, false⟩ kk p))) := by
 obtain ⟨na, ko, kc, hna, hnl, hnb, htx, hkids, hcell⟩ := RW.node hK hx
 have HE := Lib.hid hE
 have HC := Lib.hid hc
 have HS := Lib.hid hs
 have HX := Lib.hid hx
 have HKk := Lib.hid hk
 have HP := Lib.hid hp
 have HNa := Lib.hid hna
 have HKd := Lib.hid hkids
 have HCell := Lib.hid hcell
 have hbn := hK.gr.nod.sv.bound
 have hkb := hkids.bound
 have hLb : L ≤ 20000 := by omega
 have hpb : p ≤ 2048 := by have := hK.w2; have := hK.wl; omega
 clear hE hc hs hx hk hna hkids hcell
 have HB0 := Lib.hid (al1 (Below.refl w.heap.size w) (.cells #[.bool false, .int .i64 0, .int .i64 0, .slice none 0 0, .int .i64 0] 64))
 have HR0 := Lib.hid (hrow.new w #[.bool false, .int .i64 0, .int .i64 0, .slice none 0 0, .int .i64 0] 64)
 have H1 := Lib.hid (h.below HB0.out)
 have HLo : Hid (K.base.heap.size ≤ w.heap.size) := h.low.size
 clear h
 go_enter Try.func38, Try.ntmps38
 go_upto_region 1 with (fail)
 revert HB0 HR0 H1
 generalize w.alloc _ = w1
 generalize hh0 : w.heap.size = h0
 intro HB0 HR0 H1
 have HH0 := Lib.hid hh0
 have HF1 := Lib.hid (RF.below (hh0 ▸ HB0.out))
 clear HB0 hh0
 have p4 := H1.out.obj.cell 4
 have p5 := H1.out.obj.cell 5
 have p6 := H1.out.obj.cell 6
 have pf5 := H1.out.obj.frozen 5
 have pf6 := H1.out.obj.frozen 6
 simp at p4 p5 p6
 have HS6 := Lib.hid (H1.out.setOver hK.hg false)
 have HS5 := Lib.hid (HS6.out.1.setLeft hK.hg L)
 have HF2 := Lib.hid (HF1.out.trans (HS6.out.2.trans HS5.out.2))
 have HW2 : Hid (RW K ((w1.setCell ⟨K.g, 6, none⟩ (.bool false)).setCell ⟨K.g, 5, none⟩ (.int .i64 L)) ⟨cs, false, L, false⟩ v KS) := HS5.out.1
 have HR2 := Lib.hid ((HR0.out.rf HS6.out.2 (by decide) (by decide)).rf HS5.out.2 (by decide) (by decide))
 clear HS6 HS5 HF1 H1 HR0
 go_upto_region 5 with (fail)
 revert HF2 HW2 HR2
 generalize (w1.setCell _ _).setCell _ _ = w2
 intro HF2 HW2 HR2
 clear p4 p5 p6 pf5 pf6
 have p1 : w2.cell? ⟨K.g, 1, none⟩ = some (.slice (some na) K.nn K.nc) := by rw [← HNa.out]; exact HW2.out.obj.cell 1
 have c0 : w2.cell? (na.add (n * 9)) = some (.int .i64 9) := HKk.out ▸ (HCell.out w2 HW2.out.low).1
 have cc := (HCell.out w2 HW2.out.low).2
 have c1 : w2.cell? ⟨(na.add (n * 9)).block, (na.add (n * 9)).off + 1, none⟩ = some (.int .u64 x.c0) := cc 1 _ (by decide) rfl
 have c2 : w2.cell? ⟨(na.add (n * 9)).block, (na.add (n * 9)).off + 2, none⟩ = some (.int .u64 x.c1) := cc 2 _ (by decide) rfl
 have c3 : w2.cell? ⟨(na.add (n * 9)).block, (na.add (n * 9)).off + 3, none⟩ = some (.int .u64 x.c2) := cc 3 _ (by decide) rfl
 have c4 : w2.cell? ⟨(na.add (n * 9)).block, (na.add (n * 9)).off + 4, none⟩ = some (.int .u64 x.c3) := cc 4 _ (by decide) rfl
 have c5 : w2.cell? ⟨(na.add (n * 9)).block, (na.add (n * 9)).off + 5, none⟩ = some (.string x.text) := cc 5 _ (by decide) rfl
 have c6 : w2.cell? ⟨(na.add (n * 9)).block, (na.add (n * 9)).off + 6, none⟩ = some (.int .i64 x.rule) := cc 6 _ (by decide) rfl
 have c7 : w2.cell? ⟨(na.add (n * 9)).block, (na.add (n * 9)).off + 7, none⟩ = some (.int .i64 x.lev) := cc 7 _ (by decide) rfl
 have c8 : w2.cell? ⟨(na.add (n * 9)).block, (na.add (n * 9)).off + 8, none⟩ = some (.slice ko x.kids.length kc) := cc 8 _ (by decide) rfl
 have hnl' : (n : Int) < K.nn := by omega
 have hn0 : (0 : Int) ≤ n := by omega
 clear cc
 have HXn := Lib.hid (hrow.new w2 #[.int .i64 9, .int .u64 x.c0, .int .u64 x.c1, .int .u64 x.c2, .int .u64 x.c3, .string x.text, .int .i64 x.rule, .int .i64 x.lev, .slice ko x.kids.length kc] 57)
 have HAl := Lib.hid (Below.refl w2.heap.size w2 |>.alloc (Nat.le_refl _) (.cells #[.int .i64 9, .int .u64 x.c0, .int .u64 x.c1, .int .u64 x.c2, .int .u64 x.c3, .string x.text, .int .i64 x.rule, .int .i64 x.lev, .slice ko x.kids.length kc] 57))
 have HW3 := Lib.hid (HW2.out.below HAl.out)
 have HF3 := Lib.hid (HF2.out.trans (.below HAl.out))
 have HR3 := Lib.hid (HR2.out.below HAl.out)
 have HLx : Hid (h0 < w2.heap.size) := HR2.out.lt
 go_upto_region 6 with (fail)
 revert HXn HW3 HF3 HR3 HLx
 generalize w2.alloc _ = w3
 generalize w2.heap.size = hx
 intro HXn HW3 HF3 HR3 HLx
 clear HAl HW2 HF2 HR2 c0 c1 c2 c3 c4 c5 c6 c7 c8 p1
 obtain ⟨x0, x1, x2, x3, x4, x5, x6, x7, x8⟩ := (HXn.out).c9
 have hCap : Cap f ⟨cs, false, L, false⟩ := by have := HC.out; exact ⟨this.1, by omega, by simp only []; omega⟩
 have hkn : kk < K.G.nodes.length := by have := hK.ok.kid n x HX.out kk (by rw [HKi.out]; simp); omega
 have hl1 : x.kids.length = 1 := by rw [HKi.out]; rfl
 obtain ⟨ka, hka, hkc⟩ := HKd.out.cell 0 (by simp [inc, HKi.out])
 have hkc' : K.base.cell? ka = some (.int .i64 kk) := by
  have e : ka.add 0 = ka := by unfold Addr.add; simp
  rw [e] at hkc
  rw [hkc]; simp [inc, HKi.out]
 have k0 : w3.cell? ka = some (.int .i64 kk) := (HW3.out.low.cell (World.block_lt_of_cell? _ _ hkc')).trans hkc'
 have HKc := Lib.hid hkc'
 subst hka
 rw [hl1] at x8 HXn hkb
 clear hkc hkc' hl1 HKd HCell
 have HCl := Lib.hid (HE.out w3 ⟨cs, false, L, false⟩ v KS kk p HW3.out hCap HS.out hkn HP.out)
 have HPo := Lib.hid (ev_ok hK.ok f ⟨cs, false, L, false⟩ kk p HS.out hkn HP.out)
 have HCp := Lib.hid hCap
 clear hCap
 generalize ev K.G K.W f ⟨cs, false, L, false⟩ kk p = o at *
 obtain ⟨⟨xi, xe, xf, xt, xr⟩, s2⟩ := o
 simp only [] at hi ⊢
 subst hi
 go_upto_region 33 with (go_at_call 38; refine (HCl.out).mono ?_; rintro e w6 ⟨v6, KS6, o6, c6, rfl, g1, g2, g3⟩; simp only [rsv, rcs] at g1 g2 ⊢; have G1 := Lib.hid g1; have G2 := Lib.hid g2; have G3 := Lib.hid (HF3.out.trans g3); have HZ6 := Lib.hid (HR3.out.rf g3 (by decide) (by decide)); have HX6 := Lib.hid (HXn.out.rf g3 (by decide) (by decide)); clear g1 g2 g3)
 have HAl := Lib.hid (Below.refl w6.heap.size w6 |>.alloc (Nat.le_refl _) (.cells #[.bool false, .int .i64 xe, .int .i64 xf, .slice o6 xt.length c6, .int .i64 xr] 64))
 have H9 := Lib.hid (hrow.new w6 #[.bool false, .int .i64 xe, .int .i64 xf, .slice o6 xt.length c6, .int .i64 xr] 64)
 have L1 := Lib.hid (G1.out.below HAl.out)
 have L2 := Lib.hid (G2.out.step (.below HAl.out))
 have L3 := Lib.hid (G3.out.trans (.below HAl.out))
 have L4 := Lib.hid (HZ6.out.below HAl.out)
 have L5 := Lib.hid (HX6.out.below HAl.out)
 clear G1 G2 G3 HZ6 HX6 HAl HXn HW3 HF3 HR3 x0 x1 x2 x3 x4 x5 x6 x7 x8 k0 HCl HE HS
 revert H9 L1 L2 L3 L4 L5
 generalize w6.alloc _ = w7
 generalize w6.heap.size = h9
 intro H9 L1 L2 L3 L4 L5
 have x0 : w7.cell? ⟨hx, 0, none⟩ = some (.int .i64 9) := L5.out.cell 0
 have x8 : w7.cell? ⟨hx, 8, none⟩ = some (.slice (some ka) 1 kc) := L5.out.cell 8
 obtain ⟨e0, e1, e2, e3, e4⟩ := (H9.out).c5
 obtain ⟨zq0, zq1, zq2, zq3, zq4⟩ := (L4.out).c5
 obtain ⟨zf0, zf1, zf2, zf3, zf4⟩ := (L4.out).f5
 have zr5 := set5_row (.bool false) (.int .i64 xe) (.int .i64 xf) (.slice o6 xt.length c6) (.int .i64 xr) (L4.out)
 have zf5 := set5_fr w7 h0 (.bool false) (.int .i64 xe) (.int .i64 xf) (.slice o6 xt.length c6) (.int .i64 xr)
 unfold set5 at zr5 zf5
 have ZR5 := Lib.hid zr5
 have ZF5 := Lib.hid zf5
 clear zr5 zf5
 go_wp2_with fail
 revert ZR5 ZF5
 generalize ((((w7.setCell _ _).setCell _ _).setCell _ _).setCell _ _).setCell _ _ = wz
 intro ZR5 ZF5
 obtain ⟨zc0, zc1, zc2, zc3, zc4⟩ := (ZR5.out).c5
 exact bodyPost_ret (v := .agg #[.bool false, .int .i64 xe, .int .i64 xf, .slice o6 xt.length c6, .int .i64 xr]) (by simp [results, Try.results38, go_sem, zc0, zc1, zc2, zc3, zc4]) rfl (by exact ⟨v6, KS6, o6, c6, rfl, (L1.out).boxed L4.out (by have := HH0.out; have := HLo.out; omega) ZF5.out, (L2.out).boxed L4.out ZF5.out, (L3.out).new ZF5.out (fun k e => by have e' : k = h0 := e; have := HH0.out; omega)⟩)
theorem rev10y (K : Env) (hK : EnvOk K) (f : Nat) (hE : EvC K f) (w : World) (cs : List Ce) (L : Nat) (v : Value) (KS : List (Ce × (Option Addr × Nat))) (n p : Nat) (x : Nd) (h : RW K w ⟨cs, false, L + 1, false⟩ v KS) (hc : L ≤ f ∧ f + 1 ≤ 20000 ∧ cs.length + (L + 1) ≤ 20001)
  (hs : StOk K.G.rules.length K.W.length ⟨cs, false, L, false⟩) (hx : K.G.nodes[n]? = some x) (hk : x.kind = 10) (hp : p ≤ K.W.length) (kk : Nat) (HKi : Hid (x.kids = [(kk : Int)])) (hi : (ev K.G K.W f ⟨cs, false, L, false⟩ kk p).1.is = true) :
  Calls Try.prog 38 #[.pointer (some ⟨K.g, 0, none⟩), .int .i64 n, .int .i64 p] w (REnd K w ((ev K.G K.W f ⟨cs, false, L, false⟩ kk p))) := by
 obtain ⟨na, ko, kc, hna, hnl, hnb, htx, hkids, hcell⟩ := RW.node hK hx
 have HE := Lib.hid hE
 have HC := Lib.hid hc
 have HS := Lib.hid hs
 have HX := Lib.hid hx
 have HKk := Lib.hid hk
 have HP := Lib.hid hp
 have HNa := Lib.hid hna
 have HKd := Lib.hid hkids
 have HCell := Lib.hid hcell
 have hbn := hK.gr.nod.sv.bound
 have hkb := hkids.bound
 have hLb : L ≤ 20000 := by omega
 have hpb : p ≤ 2048 := by have := hK.w2; have := hK.wl; omega
 clear hE hc hs hx hk hna hkids hcell
 have HB0 := Lib.hid (al1 (Below.refl w.heap.size w) (.cells #[.bool false, .int .i64 0, .int .i64 0, .slice none 0 0, .int .i64 0] 64))
 have HR0 := Lib.hid (hrow.new w #[.bool false, .int .i64 0, .int .i64 0, .slice none 0 0, .int .i64 0] 64)
 have H1 := Lib.hid (h.below HB0.out)
 have HLo : Hid (K.base.heap.size ≤ w.heap.size) := h.low.size
 clear h
 go_enter Try.func38, Try.ntmps38
 go_upto_region 1 with (fail)
 revert HB0 HR0 H1
 generalize w.alloc _ = w1
 generalize hh0 : w.heap.size = h0
 intro HB0 HR0 H1
 have HH0 := Lib.hid hh0
 have HF1 := Lib.hid (RF.below (hh0 ▸ HB0.out))
 clear HB0 hh0
 have p4 := H1.out.obj.cell 4
 have p5 := H1.out.obj.cell 5
 have p6 := H1.out.obj.cell 6
 have pf5 := H1.out.obj.frozen 5
 have pf6 := H1.out.obj.frozen 6
 simp at p4 p5 p6
 have HS6 := Lib.hid (H1.out.setOver hK.hg false)
 have HS5 := Lib.hid (HS6.out.1.setLeft hK.hg L)
 have HF2 := Lib.hid (HF1.out.trans (HS6.out.2.trans HS5.out.2))
 have HW2 : Hid (RW K ((w1.setCell ⟨K.g, 6, none⟩ (.bool false)).setCell ⟨K.g, 5, none⟩ (.int .i64 L)) ⟨cs, false, L, false⟩ v KS) := HS5.out.1
 have HR2 := Lib.hid ((HR0.out.rf HS6.out.2 (by decide) (by decide)).rf HS5.out.2 (by decide) (by decide))
 clear HS6 HS5 HF1 H1 HR0
 go_upto_region 5 with (fail)
 revert HF2 HW2 HR2
 generalize (w1.setCell _ _).setCell _ _ = w2
 intro HF2 HW2 HR2
 clear p4 p5 p6 pf5 pf6
 have p1 : w2.cell? ⟨K.g, 1, none⟩ = some (.slice (some na) K.nn K.nc) := by rw [← HNa.out]; exact HW2.out.obj.cell 1
 have c0 : w2.cell? (na.add (n * 9)) = some (.int .i64 10) := HKk.out ▸ (HCell.out w2 HW2.out.low).1
 have cc := (HCell.out w2 HW2.out.low).2
 have c1 : w2.cell? ⟨(na.add (n * 9)).block, (na.add (n * 9)).off + 1, none⟩ = some (.int .u64 x.c0) := cc 1 _ (by decide) rfl
 have c2 : w2.cell? ⟨(na.add (n * 9)).block, (na.add (n * 9)).off + 2, none⟩ = some (.int .u64 x.c1) := cc 2 _ (by decide) rfl
 have c3 : w2.cell? ⟨(na.add (n * 9)).block, (na.add (n * 9)).off + 3, none⟩ = some (.int .u64 x.c2) := cc 3 _ (by decide) rfl
 have c4 : w2.cell? ⟨(na.add (n * 9)).block, (na.add (n * 9)).off + 4, none⟩ = some (.int .u64 x.c3) := cc 4 _ (by decide) rfl
 have c5 : w2.cell? ⟨(na.add (n * 9)).block, (na.add (n * 9)).off + 5, none⟩ = some (.string x.text) := cc 5 _ (by decide) rfl
 have c6 : w2.cell? ⟨(na.add (n * 9)).block, (na.add (n * 9)).off + 6, none⟩ = some (.int .i64 x.rule) := cc 6 _ (by decide) rfl
 have c7 : w2.cell? ⟨(na.add (n * 9)).block, (na.add (n * 9)).off + 7, none⟩ = some (.int .i64 x.lev) := cc 7 _ (by decide) rfl
 have c8 : w2.cell? ⟨(na.add (n * 9)).block, (na.add (n * 9)).off + 8, none⟩ = some (.slice ko x.kids.length kc) := cc 8 _ (by decide) rfl
 have hnl' : (n : Int) < K.nn := by omega
 have hn0 : (0 : Int) ≤ n := by omega
 clear cc
 have HXn := Lib.hid (hrow.new w2 #[.int .i64 10, .int .u64 x.c0, .int .u64 x.c1, .int .u64 x.c2, .int .u64 x.c3, .string x.text, .int .i64 x.rule, .int .i64 x.lev, .slice ko x.kids.length kc] 57)
 have HAl := Lib.hid (Below.refl w2.heap.size w2 |>.alloc (Nat.le_refl _) (.cells #[.int .i64 10, .int .u64 x.c0, .int .u64 x.c1, .int .u64 x.c2, .int .u64 x.c3, .string x.text, .int .i64 x.rule, .int .i64 x.lev, .slice ko x.kids.length kc] 57))
 have HW3 := Lib.hid (HW2.out.below HAl.out)
 have HF3 := Lib.hid (HF2.out.trans (.below HAl.out))
 have HR3 := Lib.hid (HR2.out.below HAl.out)
 have HLx : Hid (h0 < w2.heap.size) := HR2.out.lt
 go_upto_region 6 with (fail)
 revert HXn HW3 HF3 HR3 HLx
 generalize w2.alloc _ = w3
 generalize w2.heap.size = hx
 intro HXn HW3 HF3 HR3 HLx
 clear HAl HW2 HF2 HR2 c0 c1 c2 c3 c4 c5 c6 c7 c8 p1
 obtain ⟨x0, x1, x2, x3, x4, x5, x6, x7, x8⟩ := (HXn.out).c9
 have hCap : Cap f ⟨cs, false, L, false⟩ := by have := HC.out; exact ⟨this.1, by omega, by simp only []; omega⟩
 have hkn : kk < K.G.nodes.length := by have := hK.ok.kid n x HX.out kk (by rw [HKi.out]; simp); omega
 have hl1 : x.kids.length = 1 := by rw [HKi.out]; rfl
 obtain ⟨ka, hka, hkc⟩ := HKd.out.cell 0 (by simp [inc, HKi.out])
 have hkc' : K.base.cell? ka = some (.int .i64 kk) := by
  have e : ka.add 0 = ka := by unfold Addr.add; simp
  rw [e] at hkc
  rw [hkc]; simp [inc, HKi.out]
 have k0 : w3.cell? ka = some (.int .i64 kk) := (HW3.out.low.cell (World.block_lt_of_cell? _ _ hkc')).trans hkc'
 have HKc := Lib.hid hkc'
 subst hka
 rw [hl1] at x8 HXn hkb
 clear hkc hkc' hl1 HKd HCell
 have HCl := Lib.hid (HE.out w3 ⟨cs, false, L, false⟩ v KS kk p HW3.out hCap HS.out hkn HP.out)
 have HPo := Lib.hid (ev_ok hK.ok f ⟨cs, false, L, false⟩ kk p HS.out hkn HP.out)
 have HCp := Lib.hid hCap
 clear hCap
 generalize ev K.G K.W f ⟨cs, false, L, false⟩ kk p = o at *
 obtain ⟨⟨xi, xe, xf, xt, xr⟩, s2⟩ := o
 simp only [] at hi ⊢
 subst hi
 go_upto_region 33 with (go_at_call 38; refine (HCl.out).mono ?_; rintro e w6 ⟨v6, KS6, o6, c6, rfl, g1, g2, g3⟩; simp only [rsv, rcs] at g1 g2 ⊢; have G1 := Lib.hid g1; have G2 := Lib.hid g2; have G3 := Lib.hid (HF3.out.trans g3); have HZ6 := Lib.hid (HR3.out.rf g3 (by decide) (by decide)); have HX6 := Lib.hid (HXn.out.rf g3 (by decide) (by decide)); clear g1 g2 g3)
 have HAl := Lib.hid (Below.refl w6.heap.size w6 |>.alloc (Nat.le_refl _) (.cells #[.bool true, .int .i64 xe, .int .i64 xf, .slice o6 xt.length c6, .int .i64 xr] 64))
 have H9 := Lib.hid (hrow.new w6 #[.bool true, .int .i64 xe, .int .i64 xf, .slice o6 xt.length c6, .int .i64 xr] 64)
 have L1 := Lib.hid (G1.out.below HAl.out)
 have L2 := Lib.hid (G2.out.step (.below HAl.out))
 have L3 := Lib.hid (G3.out.trans (.below HAl.out))
 have L4 := Lib.hid (HZ6.out.below HAl.out)
 have L5 := Lib.hid (HX6.out.below HAl.out)
 clear G1 G2 G3 HZ6 HX6 HAl HXn HW3 HF3 HR3 x0 x1 x2 x3 x4 x5 x6 x7 x8 k0 HCl HE HS
 revert H9 L1 L2 L3 L4 L5
 generalize w6.alloc _ = w7
 generalize w6.heap.size = h9
 intro H9 L1 L2 L3 L4 L5
 have x0 : w7.cell? ⟨hx, 0, none⟩ = some (.int .i64 10) := L5.out.cell 0
 have x8 : w7.cell? ⟨hx, 8, none⟩ = some (.slice (some ka) 1 kc) := L5.out.cell 8
 obtain ⟨e0, e1, e2, e3, e4⟩ := (H9.out).c5
 obtain ⟨zq0, zq1, zq2, zq3, zq4⟩ := (L4.out).c5
 obtain ⟨zf0, zf1, zf2, zf3, zf4⟩ := (L4.out).f5
 have zr5 := set5_row (.bool true) (.int .i64 xe) (.int .i64 xf) (.slice o6 xt.length c6) (.int .i64 xr) (L4.out)
 have zf5 := set5_fr w7 h0 (.bool true) (.int .i64 xe) (.int .i64 xf) (.slice o6 xt.length c6) (.int .i64 xr)
 unfold set5 at zr5 zf5
 have ZR5 := Lib.hid zr5
 have ZF5 := Lib.hid zf5
 clear zr5 zf5
 go_wp2_with fail
 revert ZR5 ZF5
 generalize ((((w7.setCell _ _).setCell _ _).setCell _ _).setCell _ _).setCell _ _ = wz
 intro ZR5 ZF5
 obtain ⟨zc0, zc1, zc2, zc3, zc4⟩ := (ZR5.out).c5
 exact bodyPost_ret (v := .agg #[.bool true, .int .i64 xe, .int .i64 xf, .slice o6 xt.length c6, .int .i64 xr]) (by simp [results, Try.results38, go_sem, zc0, zc1, zc2, zc3, zc4]) rfl (by exact ⟨v6, KS6, o6, c6, rfl, (L1.out).boxed L4.out (by have := HH0.out; have := HLo.out; omega) ZF5.out, (L2.out).boxed L4.out ZF5.out, (L3.out).new ZF5.out (fun k e => by have e' : k = h0 := e; have := HH0.out; omega)⟩)
theorem rev10n (K : Env) (hK : EnvOk K) (f : Nat) (hE : EvC K f) (w : World) (cs : List Ce) (L : Nat) (v : Value) (KS : List (Ce × (Option Addr × Nat))) (n p : Nat) (x : Nd) (h : RW K w ⟨cs, false, L + 1, false⟩ v KS) (hc : L ≤ f ∧ f + 1 ≤ 20000 ∧ cs.length + (L + 1) ≤ 20001)
  (hs : StOk K.G.rules.length K.W.length ⟨cs, false, L, false⟩) (hx : K.G.nodes[n]? = some x) (hk : x.kind = 10) (hp : p ≤ K.W.length) (kk : Nat) (HKi : Hid (x.kids = [(kk : Int)])) (hi : (ev K.G K.W f ⟨cs, false, L, false⟩ kk p).1.is = false) :
  Calls Try.prog 38 #[.pointer (some ⟨K.g, 0, none⟩), .int .i64 n, .int .i64 p] w (REnd K w (⟨true, p, (ev K.G K.W f ⟨cs, false, L, false⟩ kk p).1.far, [], 0⟩, (ev K.G K.W f ⟨cs, false, L, false⟩ kk p).2)) := by
 obtain ⟨na, ko, kc, hna, hnl, hnb, htx, hkids, hcell⟩ := RW.node hK hx
 have HE := Lib.hid hE
 have HC := Lib.hid hc
 have HS := Lib.hid hs
 have HX := Lib.hid hx
 have HKk := Lib.hid hk
 have HP := Lib.hid hp
 have HNa := Lib.hid hna
 have HKd := Lib.hid hkids
 have HCell := Lib.hid hcell
 have hbn := hK.gr.nod.sv.bound
 have hkb := hkids.bound
 have hLb : L ≤ 20000 := by omega
 have hpb : p ≤ 2048 := by have := hK.w2; have := hK.wl; omega
 clear hE hc hs hx hk hna hkids hcell
 have HB0 := Lib.hid (al1 (Below.refl w.heap.size w) (.cells #[.bool false, .int .i64 0, .int .i64 0, .slice none 0 0, .int .i64 0] 64))
 have HR0 := Lib.hid (hrow.new w #[.bool false, .int .i64 0, .int .i64 0, .slice none 0 0, .int .i64 0] 64)
 have H1 := Lib.hid (h.below HB0.out)
 have HLo : Hid (K.base.heap.size ≤ w.heap.size) := h.low.size
 clear h
 go_enter Try.func38, Try.ntmps38
 go_upto_region 1 with (fail)
 revert HB0 HR0 H1
 generalize w.alloc _ = w1
 generalize hh0 : w.heap.size = h0
 intro HB0 HR0 H1
 have HH0 := Lib.hid hh0
 have HF1 := Lib.hid (RF.below (hh0 ▸ HB0.out))
 clear HB0 hh0
 have p4 := H1.out.obj.cell 4
 have p5 := H1.out.obj.cell 5
 have p6 := H1.out.obj.cell 6
 have pf5 := H1.out.obj.frozen 5
 have pf6 := H1.out.obj.frozen 6
 simp at p4 p5 p6
 have HS6 := Lib.hid (H1.out.setOver hK.hg false)
 have HS5 := Lib.hid (HS6.out.1.setLeft hK.hg L)
 have HF2 := Lib.hid (HF1.out.trans (HS6.out.2.trans HS5.out.2))
 have HW2 : Hid (RW K ((w1.setCell ⟨K.g, 6, none⟩ (.bool false)).setCell ⟨K.g, 5, none⟩ (.int .i64 L)) ⟨cs, false, L, false⟩ v KS) := HS5.out.1
 have HR2 := Lib.hid ((HR0.out.rf HS6.out.2 (by decide) (by decide)).rf HS5.out.2 (by decide) (by decide))
 clear HS6 HS5 HF1 H1 HR0
 go_upto_region 5 with (fail)
 revert HF2 HW2 HR2
 generalize (w1.setCell _ _).setCell _ _ = w2
 intro HF2 HW2 HR2
 clear p4 p5 p6 pf5 pf6
 have p1 : w2.cell? ⟨K.g, 1, none⟩ = some (.slice (some na) K.nn K.nc) := by rw [← HNa.out]; exact HW2.out.obj.cell 1
 have c0 : w2.cell? (na.add (n * 9)) = some (.int .i64 10) := HKk.out ▸ (HCell.out w2 HW2.out.low).1
 have cc := (HCell.out w2 HW2.out.low).2
 have c1 : w2.cell? ⟨(na.add (n * 9)).block, (na.add (n * 9)).off + 1, none⟩ = some (.int .u64 x.c0) := cc 1 _ (by decide) rfl
 have c2 : w2.cell? ⟨(na.add (n * 9)).block, (na.add (n * 9)).off + 2, none⟩ = some (.int .u64 x.c1) := cc 2 _ (by decide) rfl
 have c3 : w2.cell? ⟨(na.add (n * 9)).block, (na.add (n * 9)).off + 3, none⟩ = some (.int .u64 x.c2) := cc 3 _ (by decide) rfl
 have c4 : w2.cell? ⟨(na.add (n * 9)).block, (na.add (n * 9)).off + 4, none⟩ = some (.int .u64 x.c3) := cc 4 _ (by decide) rfl
 have c5 : w2.cell? ⟨(na.add (n * 9)).block, (na.add (n * 9)).off + 5, none⟩ = some (.string x.text) := cc 5 _ (by decide) rfl
 have c6 : w2.cell? ⟨(na.add (n * 9)).block, (na.add (n * 9)).off + 6, none⟩ = some (.int .i64 x.rule) := cc 6 _ (by decide) rfl
 have c7 : w2.cell? ⟨(na.add (n * 9)).block, (na.add (n * 9)).off + 7, none⟩ = some (.int .i64 x.lev) := cc 7 _ (by decide) rfl
 have c8 : w2.cell? ⟨(na.add (n * 9)).block, (na.add (n * 9)).off + 8, none⟩ = some (.slice ko x.kids.length kc) := cc 8 _ (by decide) rfl
 have hnl' : (n : Int) < K.nn := by omega
 have hn0 : (0 : Int) ≤ n := by omega
 clear cc
 have HXn := Lib.hid (hrow.new w2 #[.int .i64 10, .int .u64 x.c0, .int .u64 x.c1, .int .u64 x.c2, .int .u64 x.c3, .string x.text, .int .i64 x.rule, .int .i64 x.lev, .slice ko x.kids.length kc] 57)
 have HAl := Lib.hid (Below.refl w2.heap.size w2 |>.alloc (Nat.le_refl _) (.cells #[.int .i64 10, .int .u64 x.c0, .int .u64 x.c1, .int .u64 x.c2, .int .u64 x.c3, .string x.text, .int .i64 x.rule, .int .i64 x.lev, .slice ko x.kids.length kc] 57))
 have HW3 := Lib.hid (HW2.out.below HAl.out)
 have HF3 := Lib.hid (HF2.out.trans (.below HAl.out))
 have HR3 := Lib.hid (HR2.out.below HAl.out)
 have HLx : Hid (h0 < w2.heap.size) := HR2.out.lt
 go_upto_region 6 with (fail)
 revert HXn HW3 HF3 HR3 HLx
 generalize w2.alloc _ = w3
 generalize w2.heap.size = hx
 intro HXn HW3 HF3 HR3 HLx
 clear HAl HW2 HF2 HR2 c0 c1 c2 c3 c4 c5 c6 c7 c8 p1
 obtain ⟨x0, x1, x2, x3, x4, x5, x6, x7, x8⟩ := (HXn.out).c9
 have hCap : Cap f ⟨cs, false, L, false⟩ := by have := HC.out; exact ⟨this.1, by omega, by simp only []; omega⟩
 have hkn : kk < K.G.nodes.length := by have := hK.ok.kid n x HX.out kk (by rw [HKi.out]; simp); omega
 have hl1 : x.kids.length = 1 := by rw [HKi.out]; rfl
 obtain ⟨ka, hka, hkc⟩ := HKd.out.cell 0 (by simp [inc, HKi.out])
 have hkc' : K.base.cell? ka = some (.int .i64 kk) := by
  have e : ka.add 0 = ka := by unfold Addr.add; simp
  rw [e] at hkc
  rw [hkc]; simp [inc, HKi.out]
 have k0 : w3.cell? ka = some (.int .i64 kk) := (HW3.out.low.cell (World.block_lt_of_cell? _ _ hkc')).trans hkc'
 have HKc := Lib.hid hkc'
 subst hka
 rw [hl1] at x8 HXn hkb
 clear hkc hkc' hl1 HKd HCell
 have HCl := Lib.hid (HE.out w3 ⟨cs, false, L, false⟩ v KS kk p HW3.out hCap HS.out hkn HP.out)
 have HPo := Lib.hid (ev_ok hK.ok f ⟨cs, false, L, false⟩ kk p HS.out hkn HP.out)
 have HCp := Lib.hid hCap
 clear hCap
 generalize ev K.G K.W f ⟨cs, false, L, false⟩ kk p = o at *
 obtain ⟨⟨xi, xe, xf, xt, xr⟩, s2⟩ := o
 simp only [] at hi ⊢
 subst hi
 go_upto_region 33 with (go_at_call 38; refine (HCl.out).mono ?_; rintro e w6 ⟨v6, KS6, o6, c6, rfl, g1, g2, g3⟩; simp only [rsv, rcs] at g1 g2 ⊢; have G1 := Lib.hid g1; have G2 := Lib.hid g2; have G3 := Lib.hid (HF3.out.trans g3); have HZ6 := Lib.hid (HR3.out.rf g3 (by decide) (by decide)); have HX6 := Lib.hid (HXn.out.rf g3 (by decide) (by decide)); clear g1 g2 g3)
 have HAl := Lib.hid (Below.refl w6.heap.size w6 |>.alloc (Nat.le_refl _) (.cells #[.bool false, .int .i64 xe, .int .i64 xf, .slice o6 xt.length c6, .int .i64 xr] 64))
 have H9 := Lib.hid (hrow.new w6 #[.bool false, .int .i64 xe, .int .i64 xf, .slice o6 xt.length c6, .int .i64 xr] 64)
 have L1 := Lib.hid (G1.out.below HAl.out)
 have L2 := Lib.hid (G2.out.step (.below HAl.out))
 have L3 := Lib.hid (G3.out.trans (.below HAl.out))
 have L4 := Lib.hid (HZ6.out.below HAl.out)
 have L5 := Lib.hid (HX6.out.below HAl.out)
 clear G1 G2 G3 HZ6 HX6 HAl HXn HW3 HF3 HR3 x0 x1 x2 x3 x4 x5 x6 x7 x8 k0 HCl HE HS
 revert H9 L1 L2 L3 L4 L5
 generalize w6.alloc _ = w7
 generalize w6.heap.size = h9
 intro H9 L1 L2 L3 L4 L5
 have x0 : w7.cell? ⟨hx, 0, none⟩ = some (.int .i64 10) := L5.out.cell 0
 have x8 : w7.cell? ⟨hx, 8, none⟩ = some (.slice (some ka) 1 kc) := L5.out.cell 8
 obtain ⟨e0, e1, e2, e3, e4⟩ := (H9.out).c5
 obtain ⟨zq0, zq1, zq2, zq3, zq4⟩ := (L4.out).c5
 obtain ⟨zf0, zf1, zf2, zf3, zf4⟩ := (L4.out).f5
 have zr5 := set5_row (.bool true) (.int .i64 p) (.int .i64 xf) (.slice none 0 0) (.int .i64 0) (L4.out)
 have zf5 := set5_fr w7 h0 (.bool true) (.int .i64 p) (.int .i64 xf) (.slice none 0 0) (.int .i64 0)
 unfold set5 at zr5 zf5
 have ZR5 := Lib.hid zr5
 have ZF5 := Lib.hid zf5
 clear zr5 zf5
 go_wp2_with fail
 revert ZR5 ZF5
 generalize ((((w7.setCell _ _).setCell _ _).setCell _ _).setCell _ _).setCell _ _ = wz
 intro ZR5 ZF5
 obtain ⟨zc0, zc1, zc2, zc3, zc4⟩ := (ZR5.out).c5
 exact bodyPost_ret (v := .agg #[.bool true, .int .i64 p, .int .i64 xf, .slice none 0 0, .int .i64 0]) (by simp [results, Try.results38, go_sem, zc0, zc1, zc2, zc3, zc4]) rfl (by exact ⟨v6, KS6, none, 0, rfl, (L1.out).boxed L4.out (by have := HH0.out; have := HLo.out; omega) ZF5.out, (TrW.nil _).boxed L4.out ZF5.out, (L3.out).new ZF5.out (fun k e => by have e' : k = h0 := e; have := HH0.out; omega)⟩)
theorem rev11y (K : Env) (hK : EnvOk K) (f : Nat) (hE : EvC K f) (w : World) (cs : List Ce) (L : Nat) (v : Value) (KS : List (Ce × (Option Addr × Nat))) (n p : Nat) (x : Nd) (h : RW K w ⟨cs, false, L + 1, false⟩ v KS) (hc : L ≤ f ∧ f + 1 ≤ 20000 ∧ cs.length + (L + 1) ≤ 20001)
  (hs : StOk K.G.rules.length K.W.length ⟨cs, false, L, false⟩) (hx : K.G.nodes[n]? = some x) (hk : x.kind = 11) (hp : p ≤ K.W.length) (kk : Nat) (HKi : Hid (x.kids = [(kk : Int)])) (hi : (ev K.G K.W f ⟨cs, false, L, false⟩ kk p).1.is = true) :
  Calls Try.prog 38 #[.pointer (some ⟨K.g, 0, none⟩), .int .i64 n, .int .i64 p] w (REnd K w (failR (ev K.G K.W f ⟨cs, false, L, false⟩ kk p).1.far, (ev K.G K.W f ⟨cs, false, L, false⟩ kk p).2)) := by
 obtain ⟨na, ko, kc, hna, hnl, hnb, htx, hkids, hcell⟩ := RW.node hK hx
 have HE := Lib.hid hE
 have HC := Lib.hid hc
 have HS := Lib.hid hs
 have HX := Lib.hid hx
 have HKk := Lib.hid hk
 have HP := Lib.hid hp
 have HNa := Lib.hid hna
 have HKd := Lib.hid hkids
 have HCell := Lib.hid hcell
 have hbn := hK.gr.nod.sv.bound
 have hkb := hkids.bound
 have hLb : L ≤ 20000 := by omega
 have hpb : p ≤ 2048 := by have := hK.w2; have := hK.wl; omega
 clear hE hc hs hx hk hna hkids hcell
 have HB0 := Lib.hid (al1 (Below.refl w.heap.size w) (.cells #[.bool false, .int .i64 0, .int .i64 0, .slice none 0 0, .int .i64 0] 64))
 have HR0 := Lib.hid (hrow.new w #[.bool false, .int .i64 0, .int .i64 0, .slice none 0 0, .int .i64 0] 64)
 have H1 := Lib.hid (h.below HB0.out)
 have HLo : Hid (K.base.heap.size ≤ w.heap.size) := h.low.size
 clear h
 go_enter Try.func38, Try.ntmps38
 go_upto_region 1 with (fail)
 revert HB0 HR0 H1
 generalize w.alloc _ = w1
 generalize hh0 : w.heap.size = h0
 intro HB0 HR0 H1
 have HH0 := Lib.hid hh0
 have HF1 := Lib.hid (RF.below (hh0 ▸ HB0.out))
 clear HB0 hh0
 have p4 := H1.out.obj.cell 4
 have p5 := H1.out.obj.cell 5
 have p6 := H1.out.obj.cell 6
 have pf5 := H1.out.obj.frozen 5
 have pf6 := H1.out.obj.frozen 6
 simp at p4 p5 p6
 have HS6 := Lib.hid (H1.out.setOver hK.hg false)
 have HS5 := Lib.hid (HS6.out.1.setLeft hK.hg L)
 have HF2 := Lib.hid (HF1.out.trans (HS6.out.2.trans HS5.out.2))
 have HW2 : Hid (RW K ((w1.setCell ⟨K.g, 6, none⟩ (.bool false)).setCell ⟨K.g, 5, none⟩ (.int .i64 L)) ⟨cs, false, L, false⟩ v KS) := HS5.out.1
 have HR2 := Lib.hid ((HR0.out.rf HS6.out.2 (by decide) (by decide)).rf HS5.out.2 (by decide) (by decide))
 clear HS6 HS5 HF1 H1 HR0
 go_upto_region 5 with (fail)
 revert HF2 HW2 HR2
 generalize (w1.setCell _ _).setCell _ _ = w2
 intro HF2 HW2 HR2
 clear p4 p5 p6 pf5 pf6
 have p1 : w2.cell? ⟨K.g, 1, none⟩ = some (.slice (some na) K.nn K.nc) := by rw [← HNa.out]; exact HW2.out.obj.cell 1
 have c0 : w2.cell? (na.add (n * 9)) = some (.int .i64 11) := HKk.out ▸ (HCell.out w2 HW2.out.low).1
 have cc := (HCell.out w2 HW2.out.low).2
 have c1 : w2.cell? ⟨(na.add (n * 9)).block, (na.add (n * 9)).off + 1, none⟩ = some (.int .u64 x.c0) := cc 1 _ (by decide) rfl
 have c2 : w2.cell? ⟨(na.add (n * 9)).block, (na.add (n * 9)).off + 2, none⟩ = some (.int .u64 x.c1) := cc 2 _ (by decide) rfl
 have c3 : w2.cell? ⟨(na.add (n * 9)).block, (na.add (n * 9)).off + 3, none⟩ = some (.int .u64 x.c2) := cc 3 _ (by decide) rfl
 have c4 : w2.cell? ⟨(na.add (n * 9)).block, (na.add (n * 9)).off + 4, none⟩ = some (.int .u64 x.c3) := cc 4 _ (by decide) rfl
 have c5 : w2.cell? ⟨(na.add (n * 9)).block, (na.add (n * 9)).off + 5, none⟩ = some (.string x.text) := cc 5 _ (by decide) rfl
 have c6 : w2.cell? ⟨(na.add (n * 9)).block, (na.add (n * 9)).off + 6, none⟩ = some (.int .i64 x.rule) := cc 6 _ (by decide) rfl
 have c7 : w2.cell? ⟨(na.add (n * 9)).block, (na.add (n * 9)).off + 7, none⟩ = some (.int .i64 x.lev) := cc 7 _ (by decide) rfl
 have c8 : w2.cell? ⟨(na.add (n * 9)).block, (na.add (n * 9)).off + 8, none⟩ = some (.slice ko x.kids.length kc) := cc 8 _ (by decide) rfl
 have hnl' : (n : Int) < K.nn := by omega
 have hn0 : (0 : Int) ≤ n := by omega
 clear cc
 have HXn := Lib.hid (hrow.new w2 #[.int .i64 11, .int .u64 x.c0, .int .u64 x.c1, .int .u64 x.c2, .int .u64 x.c3, .string x.text, .int .i64 x.rule, .int .i64 x.lev, .slice ko x.kids.length kc] 57)
 have HAl := Lib.hid (Below.refl w2.heap.size w2 |>.alloc (Nat.le_refl _) (.cells #[.int .i64 11, .int .u64 x.c0, .int .u64 x.c1, .int .u64 x.c2, .int .u64 x.c3, .string x.text, .int .i64 x.rule, .int .i64 x.lev, .slice ko x.kids.length kc] 57))
 have HW3 := Lib.hid (HW2.out.below HAl.out)
 have HF3 := Lib.hid (HF2.out.trans (.below HAl.out))
 have HR3 := Lib.hid (HR2.out.below HAl.out)
 have HLx : Hid (h0 < w2.heap.size) := HR2.out.lt
 go_upto_region 6 with (fail)
 revert HXn HW3 HF3 HR3 HLx
 generalize w2.alloc _ = w3
 generalize w2.heap.size = hx
 intro HXn HW3 HF3 HR3 HLx
 clear HAl HW2 HF2 HR2 c0 c1 c2 c3 c4 c5 c6 c7 c8 p1
 obtain ⟨x0, x1, x2, x3, x4, x5, x6, x7, x8⟩ := (HXn.out).c9
 have hCap : Cap f ⟨cs, false, L, false⟩ := by have := HC.out; exact ⟨this.1, by omega, by simp only []; omega⟩
 have hkn : kk < K.G.nodes.length := by have := hK.ok.kid n x HX.out kk (by rw [HKi.out]; simp); omega
 have hl1 : x.kids.length = 1 := by rw [HKi.out]; rfl
 obtain ⟨ka, hka, hkc⟩ := HKd.out.cell 0 (by simp [inc, HKi.out])
 have hkc' : K.base.cell? ka = some (.int .i64 kk) := by
  have e : ka.add 0 = ka := by unfold Addr.add; simp
  rw [e] at hkc
  rw [hkc]; simp [inc, HKi.out]
 have k0 : w3.cell? ka = some (.int .i64 kk) := (HW3.out.low.cell (World.block_lt_of_cell? _ _ hkc')).trans hkc'
 have HKc := Lib.hid hkc'
 subst hka
 rw [hl1] at x8 HXn hkb
 clear hkc hkc' hl1 HKd HCell
 have HCl := Lib.hid (HE.out w3 ⟨cs, false, L, false⟩ v KS kk p HW3.out hCap HS.out hkn HP.out)
 have HPo := Lib.hid (ev_ok hK.ok f ⟨cs, false, L, false⟩ kk p HS.out hkn HP.out)
 have HCp := Lib.hid hCap
 clear hCap
 generalize ev K.G K.W f ⟨cs, false, L, false⟩ kk p = o at *
 obtain ⟨⟨xi, xe, xf, xt, xr⟩, s2⟩ := o
 simp only [] at hi ⊢
 subst hi
 go_upto_region 33 with (go_at_call 38; refine (HCl.out).mono ?_; rintro e w6 ⟨v6, KS6, o6, c6, rfl, g1, g2, g3⟩; simp only [rsv, rcs] at g1 g2 ⊢; have G1 := Lib.hid g1; have G2 := Lib.hid g2; have G3 := Lib.hid (HF3.out.trans g3); have HZ6 := Lib.hid (HR3.out.rf g3 (by decide) (by decide)); have HX6 := Lib.hid (HXn.out.rf g3 (by decide) (by decide)); clear g1 g2 g3)
 have HAl := Lib.hid (Below.refl w6.heap.size w6 |>.alloc (Nat.le_refl _) (.cells #[.bool true, .int .i64 xe, .int .i64 xf, .slice o6 xt.length c6, .int .i64 xr] 64))
 have H9 := Lib.hid (hrow.new w6 #[.bool true, .int .i64 xe, .int .i64 xf, .slice o6 xt.length c6, .int .i64 xr] 64)
 have L1 := Lib.hid (G1.out.below HAl.out)
 have L2 := Lib.hid (G2.out.step (.below HAl.out))
 have L3 := Lib.hid (G3.out.trans (.below HAl.out))
 have L4 := Lib.hid (HZ6.out.below HAl.out)
 have L5 := Lib.hid (HX6.out.below HAl.out)
 clear G1 G2 G3 HZ6 HX6 HAl HXn HW3 HF3 HR3 x0 x1 x2 x3 x4 x5 x6 x7 x8 k0 HCl HE HS
 revert H9 L1 L2 L3 L4 L5
 generalize w6.alloc _ = w7
 generalize w6.heap.size = h9
 intro H9 L1 L2 L3 L4 L5
 have x0 : w7.cell? ⟨hx, 0, none⟩ = some (.int .i64 11) := L5.out.cell 0
 have x8 : w7.cell? ⟨hx, 8, none⟩ = some (.slice (some ka) 1 kc) := L5.out.cell 8
 obtain ⟨e0, e1, e2, e3, e4⟩ := (H9.out).c5
 go_wp2_with fail
 refine (rfail_any w7 xf).mono ?_
 rintro e w8 ⟨rfl, hb8⟩
 simp only [rsv, rcs, failR, List.length_nil, Int.natCast_zero]
 have HB8 := Lib.hid hb8
 have HZ8 := Lib.hid (L4.out.below hb8)
 clear hb8
 obtain ⟨zq0, zq1, zq2, zq3, zq4⟩ := (HZ8.out).c5
 obtain ⟨zf0, zf1, zf2, zf3, zf4⟩ := (HZ8.out).f5
 have zr5 := set5_row (.bool false) (.int .i64 0) (.int .i64 xf) (.slice none 0 0) (.int .i64 0) (HZ8.out)
 have zf5 := set5_fr w8 h0 (.bool false) (.int .i64 0) (.int .i64 xf) (.slice none 0 0) (.int .i64 0)
 unfold set5 at zr5 zf5
 have ZR5 := Lib.hid zr5
 have ZF5 := Lib.hid zf5
 clear zr5 zf5
 go_wp2_with fail
 revert ZR5 ZF5
 generalize ((((w8.setCell _ _).setCell _ _).setCell _ _).setCell _ _).setCell _ _ = wz
 intro ZR5 ZF5
 obtain ⟨zc0, zc1, zc2, zc3, zc4⟩ := (ZR5.out).c5
 exact bodyPost_ret (v := .agg #[.bool false, .int .i64 0, .int .i64 xf, .slice none 0 0, .int .i64 0]) (by simp [results, Try.results38, go_sem, zc0, zc1, zc2, zc3, zc4]) rfl (by exact ⟨v6, KS6, none, 0, rfl, (L1.out.below HB8.out).boxed HZ8.out (by have := HH0.out; have := HLo.out; omega) ZF5.out, (TrW.nil _).boxed HZ8.out ZF5.out, (L3.out.trans (.below HB8.out)).new ZF5.out (fun k e => by have e' : k = h0 := e; have := HH0.out; omega)⟩)
theorem rev11n (K : Env) (hK : EnvOk K) (f : Nat) (hE : EvC K f) (w : World) (cs : List Ce) (L : Nat) (v : Value) (KS : List (Ce × (Option Addr × Nat))) (n p : Nat) (x : Nd) (h : RW K w ⟨cs, false, L + 1, false⟩ v KS) (hc : L ≤ f ∧ f + 1 ≤ 20000 ∧ cs.length + (L + 1) ≤ 20001)
  (hs : StOk K.G.rules.length K.W.length ⟨cs, false, L, false⟩) (hx : K.G.nodes[n]? = some x) (hk : x.kind = 11) (hp : p ≤ K.W.length) (kk : Nat) (HKi : Hid (x.kids = [(kk : Int)])) (hi : (ev K.G K.W f ⟨cs, false, L, false⟩ kk p).1.is = false) :
  Calls Try.prog 38 #[.pointer (some ⟨K.g, 0, none⟩), .int .i64 n, .int .i64 p] w (REnd K w (⟨true, p, (ev K.G K.W f ⟨cs, false, L, false⟩ kk p).1.far, [], 0⟩, (ev K.G K.W f ⟨cs, false, L, false⟩ kk p).2)) := by
 obtain ⟨na, ko, kc, hna, hnl, hnb, htx, hkids, hcell⟩ := RW.node hK hx
 have HE := Lib.hid hE
 have HC := Lib.hid hc
 have HS := Lib.hid hs
 have HX := Lib.hid hx
 have HKk := Lib.hid hk
 have HP := Lib.hid hp
 have HNa := Lib.hid hna
 have HKd := Lib.hid hkids
 have HCell := Lib.hid hcell
 have hbn := hK.gr.nod.sv.bound
 have hkb := hkids.bound
 have hLb : L ≤ 20000 := by omega
 have hpb : p ≤ 2048 := by have := hK.w2; have := hK.wl; omega
 clear hE hc hs hx hk hna hkids hcell
 have HB0 := Lib.hid (al1 (Below.refl w.heap.size w) (.cells #[.bool false, .int .i64 0, .int .i64 0, .slice none 0 0, .int .i64 0] 64))
 have HR0 := Lib.hid (hrow.new w #[.bool false, .int .i64 0, .int .i64 0, .slice none 0 0, .int .i64 0] 64)
 have H1 := Lib.hid (h.below HB0.out)
 have HLo : Hid (K.base.heap.size ≤ w.heap.size) := h.low.size
 clear h
 go_enter Try.func38, Try.ntmps38
 go_upto_region 1 with (fail)
 revert HB0 HR0 H1
 generalize w.alloc _ = w1
 generalize hh0 : w.heap.size = h0
 intro HB0 HR0 H1
 have HH0 := Lib.hid hh0
 have HF1 := Lib.hid (RF.below (hh0 ▸ HB0.out))
 clear HB0 hh0
 have p4 := H1.out.obj.cell 4
 have p5 := H1.out.obj.cell 5
 have p6 := H1.out.obj.cell 6
 have pf5 := H1.out.obj.frozen 5
 have pf6 := H1.out.obj.frozen 6
 simp at p4 p5 p6
 have HS6 := Lib.hid (H1.out.setOver hK.hg false)
 have HS5 := Lib.hid (HS6.out.1.setLeft hK.hg L)
 have HF2 := Lib.hid (HF1.out.trans (HS6.out.2.trans HS5.out.2))
 have HW2 : Hid (RW K ((w1.setCell ⟨K.g, 6, none⟩ (.bool false)).setCell ⟨K.g, 5, none⟩ (.int .i64 L)) ⟨cs, false, L, false⟩ v KS) := HS5.out.1
 have HR2 := Lib.hid ((HR0.out.rf HS6.out.2 (by decide) (by decide)).rf HS5.out.2 (by decide) (by decide))
 clear HS6 HS5 HF1 H1 HR0
 go_upto_region 5 with (fail)
 revert HF2 HW2 HR2
 generalize (w1.setCell _ _).setCell _ _ = w2
 intro HF2 HW2 HR2
 clear p4 p5 p6 pf5 pf6
 have p1 : w2.cell? ⟨K.g, 1, none⟩ = some (.slice (some na) K.nn K.nc) := by rw [← HNa.out]; exact HW2.out.obj.cell 1
 have c0 : w2.cell? (na.add (n * 9)) = some (.int .i64 11) := HKk.out ▸ (HCell.out w2 HW2.out.low).1
 have cc := (HCell.out w2 HW2.out.low).2
 have c1 : w2.cell? ⟨(na.add (n * 9)).block, (na.add (n * 9)).off + 1, none⟩ = some (.int .u64 x.c0) := cc 1 _ (by decide) rfl
 have c2 : w2.cell? ⟨(na.add (n * 9)).block, (na.add (n * 9)).off + 2, none⟩ = some (.int .u64 x.c1) := cc 2 _ (by decide) rfl
 have c3 : w2.cell? ⟨(na.add (n * 9)).block, (na.add (n * 9)).off + 3, none⟩ = some (.int .u64 x.c2) := cc 3 _ (by decide) rfl
 have c4 : w2.cell? ⟨(na.add (n * 9)).block, (na.add (n * 9)).off + 4, none⟩ = some (.int .u64 x.c3) := cc 4 _ (by decide) rfl
 have c5 : w2.cell? ⟨(na.add (n * 9)).block, (na.add (n * 9)).off + 5, none⟩ = some (.string x.text) := cc 5 _ (by decide) rfl
 have c6 : w2.cell? ⟨(na.add (n * 9)).block, (na.add (n * 9)).off + 6, none⟩ = some (.int .i64 x.rule) := cc 6 _ (by decide) rfl
 have c7 : w2.cell? ⟨(na.add (n * 9)).block, (na.add (n * 9)).off + 7, none⟩ = some (.int .i64 x.lev) := cc 7 _ (by decide) rfl
 have c8 : w2.cell? ⟨(na.add (n * 9)).block, (na.add (n * 9)).off + 8, none⟩ = some (.slice ko x.kids.length kc) := cc 8 _ (by decide) rfl
 have hnl' : (n : Int) < K.nn := by omega
 have hn0 : (0 : Int) ≤ n := by omega
 clear cc
 have HXn := Lib.hid (hrow.new w2 #[.int .i64 11, .int .u64 x.c0, .int .u64 x.c1, .int .u64 x.c2, .int .u64 x.c3, .string x.text, .int .i64 x.rule, .int .i64 x.lev, .slice ko x.kids.length kc] 57)
 have HAl := Lib.hid (Below.refl w2.heap.size w2 |>.alloc (Nat.le_refl _) (.cells #[.int .i64 11, .int .u64 x.c0, .int .u64 x.c1, .int .u64 x.c2, .int .u64 x.c3, .string x.text, .int .i64 x.rule, .int .i64 x.lev, .slice ko x.kids.length kc] 57))
 have HW3 := Lib.hid (HW2.out.below HAl.out)
 have HF3 := Lib.hid (HF2.out.trans (.below HAl.out))
 have HR3 := Lib.hid (HR2.out.below HAl.out)
 have HLx : Hid (h0 < w2.heap.size) := HR2.out.lt
 go_upto_region 6 with (fail)
 revert HXn HW3 HF3 HR3 HLx
 generalize w2.alloc _ = w3
 generalize w2.heap.size = hx
 intro HXn HW3 HF3 HR3 HLx
 clear HAl HW2 HF2 HR2 c0 c1 c2 c3 c4 c5 c6 c7 c8 p1
 obtain ⟨x0, x1, x2, x3, x4, x5, x6, x7, x8⟩ := (HXn.out).c9
 have hCap : Cap f ⟨cs, false, L, false⟩ := by have := HC.out; exact ⟨this.1, by omega, by simp only []; omega⟩
 have hkn : kk < K.G.nodes.length := by have := hK.ok.kid n x HX.out kk (by rw [HKi.out]; simp); omega
 have hl1 : x.kids.length = 1 := by rw [HKi.out]; rfl
 obtain ⟨ka, hka, hkc⟩ := HKd.out.cell 0 (by simp [inc, HKi.out])
 have hkc' : K.base.cell? ka = some (.int .i64 kk) := by
  have e : ka.add 0 = ka := by unfold Addr.add; simp
  rw [e] at hkc
  rw [hkc]; simp [inc, HKi.out]
 have k0 : w3.cell? ka = some (.int .i64 kk) := (HW3.out.low.cell (World.block_lt_of_cell? _ _ hkc')).trans hkc'
 have HKc := Lib.hid hkc'
 subst hka
 rw [hl1] at x8 HXn hkb
 clear hkc hkc' hl1 HKd HCell
 have HCl := Lib.hid (HE.out w3 ⟨cs, false, L, false⟩ v KS kk p HW3.out hCap HS.out hkn HP.out)
 have HPo := Lib.hid (ev_ok hK.ok f ⟨cs, false, L, false⟩ kk p HS.out hkn HP.out)
 have HCp := Lib.hid hCap
 clear hCap
 generalize ev K.G K.W f ⟨cs, false, L, false⟩ kk p = o at *
 obtain ⟨⟨xi, xe, xf, xt, xr⟩, s2⟩ := o
 simp only [] at hi ⊢
 subst hi
 go_upto_region 33 with (go_at_call 38; refine (HCl.out).mono ?_; rintro e w6 ⟨v6, KS6, o6, c6, rfl, g1, g2, g3⟩; simp only [rsv, rcs] at g1 g2 ⊢; have G1 := Lib.hid g1; have G2 := Lib.hid g2; have G3 := Lib.hid (HF3.out.trans g3); have HZ6 := Lib.hid (HR3.out.rf g3 (by decide) (by decide)); have HX6 := Lib.hid (HXn.out.rf g3 (by decide) (by decide)); clear g1 g2 g3)
 have HAl := Lib.hid (Below.refl w6.heap.size w6 |>.alloc (Nat.le_refl _) (.cells #[.bool false, .int .i64 xe, .int .i64 xf, .slice o6 xt.length c6, .int .i64 xr] 64))
 have H9 := Lib.hid (hrow.new w6 #[.bool false, .int .i64 xe, .int .i64 xf, .slice o6 xt.length c6, .int .i64 xr] 64)
 have L1 := Lib.hid (G1.out.below HAl.out)
 have L2 := Lib.hid (G2.out.step (.below HAl.out))
 have L3 := Lib.hid (G3.out.trans (.below HAl.out))
 have L4 := Lib.hid (HZ6.out.below HAl.out)
 have L5 := Lib.hid (HX6.out.below HAl.out)
 clear G1 G2 G3 HZ6 HX6 HAl HXn HW3 HF3 HR3 x0 x1 x2 x3 x4 x5 x6 x7 x8 k0 HCl HE HS
 revert H9 L1 L2 L3 L4 L5
 generalize w6.alloc _ = w7
 generalize w6.heap.size = h9
 intro H9 L1 L2 L3 L4 L5
 have x0 : w7.cell? ⟨hx, 0, none⟩ = some (.int .i64 11) := L5.out.cell 0
 have x8 : w7.cell? ⟨hx, 8, none⟩ = some (.slice (some ka) 1 kc) := L5.out.cell 8
 obtain ⟨e0, e1, e2, e3, e4⟩ := (H9.out).c5
 obtain ⟨zq0, zq1, zq2, zq3, zq4⟩ := (L4.out).c5
 obtain ⟨zf0, zf1, zf2, zf3, zf4⟩ := (L4.out).f5
 have zr5 := set5_row (.bool true) (.int .i64 p) (.int .i64 xf) (.slice none 0 0) (.int .i64 0) (L4.out)
 have zf5 := set5_fr w7 h0 (.bool true) (.int .i64 p) (.int .i64 xf) (.slice none 0 0) (.int .i64 0)
 unfold set5 at zr5 zf5
 have ZR5 := Lib.hid zr5
 have ZF5 := Lib.hid zf5
 clear zr5 zf5
 go_wp2_with fail
 revert ZR5 ZF5
 generalize ((((w7.setCell _ _).setCell _ _).setCell _ _).setCell _ _).setCell _ _ = wz
 intro ZR5 ZF5
 obtain ⟨zc0, zc1, zc2, zc3, zc4⟩ := (ZR5.out).c5
 exact bodyPost_ret (v := .agg #[.bool true, .int .i64 p, .int .i64 xf, .slice none 0 0, .int .i64 0]) (by simp [results, Try.results38, go_sem, zc0, zc1, zc2, zc3, zc4]) rfl (by exact ⟨v6, KS6, none, 0, rfl, (L1.out).boxed L4.out (by have := HH0.out; have := HLo.out; omega) ZF5.out, (TrW.nil _).boxed L4.out ZF5.out, (L3.out).new ZF5.out (fun k e => by have e' : k = h0 := e; have := HH0.out; omega)⟩)
theorem rev12y (K : Env) (hK : EnvOk K) (f : Nat) (hE : EvC K f) (w : World) (cs : List Ce) (L : Nat) (v : Value) (KS : List (Ce × (Option Addr × Nat))) (n p : Nat) (x : Nd) (h : RW K w ⟨cs, false, L + 1, false⟩ v KS) (hc : L ≤ f ∧ f + 1 ≤ 20000 ∧ cs.length + (L + 1) ≤ 20001)
  (hs : StOk K.G.rules.length K.W.length ⟨cs, false, L, false⟩) (hx : K.G.nodes[n]? = some x) (hk : x.kind = 12) (hp : p ≤ K.W.length) (kk : Nat) (HKi : Hid (x.kids = [(kk : Int)])) (hi : (ev K.G K.W f ⟨cs, false, L, false⟩ kk p).1.is = true) :
  Calls Try.prog 38 #[.pointer (some ⟨K.g, 0, none⟩), .int .i64 n, .int .i64 p] w (REnd K w (⟨true, p, (ev K.G K.W f ⟨cs, false, L, false⟩ kk p).1.far, [], 0⟩, (ev K.G K.W f ⟨cs, false, L, false⟩ kk p).2)) := by
 obtain ⟨na, ko, kc, hna, hnl, hnb, htx, hkids, hcell⟩ := RW.node hK hx
 have HE := Lib.hid hE
 have HC := Lib.hid hc
 have HS := Lib.hid hs
 have HX := Lib.hid hx
 have HKk := Lib.hid hk
 have HP := Lib.hid hp
 have HNa := Lib.hid hna
 have HKd := Lib.hid hkids
 have HCell := Lib.hid hcell
 have hbn := hK.gr.nod.sv.bound
 have hkb := hkids.bound
 have hLb : L ≤ 20000 := by omega
 have hpb : p ≤ 2048 := by have := hK.w2; have := hK.wl; omega
 clear hE hc hs hx hk hna hkids hcell
 have HB0 := Lib.hid (al1 (Below.refl w.heap.size w) (.cells #[.bool false, .int .i64 0, .int .i64 0, .slice none 0 0, .int .i64 0] 64))
 have HR0 := Lib.hid (hrow.new w #[.bool false, .int .i64 0, .int .i64 0, .slice none 0 0, .int .i64 0] 64)
 have H1 := Lib.hid (h.below HB0.out)
 have HLo : Hid (K.base.heap.size ≤ w.heap.size) := h.low.size
 clear h
 go_enter Try.func38, Try.ntmps38
 go_upto_region 1 with (fail)
 revert HB0 HR0 H1
 generalize w.alloc _ = w1
 generalize hh0 : w.heap.size = h0
 intro HB0 HR0 H1
 have HH0 := Lib.hid hh0
 have HF1 := Lib.hid (RF.below (hh0 ▸ HB0.out))
 clear HB0 hh0
 have p4 := H1.out.obj.cell 4
 have p5 := H1.out.obj.cell 5
 have p6 := H1.out.obj.cell 6
 have pf5 := H1.out.obj.frozen 5
 have pf6 := H1.out.obj.frozen 6
 simp at p4 p5 p6
 have HS6 := Lib.hid (H1.out.setOver hK.hg false)
 have HS5 := Lib.hid (HS6.out.1.setLeft hK.hg L)
 have HF2 := Lib.hid (HF1.out.trans (HS6.out.2.trans HS5.out.2))
 have HW2 : Hid (RW K ((w1.setCell ⟨K.g, 6, none⟩ (.bool false)).setCell ⟨K.g, 5, none⟩ (.int .i64 L)) ⟨cs, false, L, false⟩ v KS) := HS5.out.1
 have HR2 := Lib.hid ((HR0.out.rf HS6.out.2 (by decide) (by decide)).rf HS5.out.2 (by decide) (by decide))
 clear HS6 HS5 HF1 H1 HR0
 go_upto_region 5 with (fail)
 revert HF2 HW2 HR2
 generalize (w1.setCell _ _).setCell _ _ = w2
 intro HF2 HW2 HR2
 clear p4 p5 p6 pf5 pf6
 have p1 : w2.cell? ⟨K.g, 1, none⟩ = some (.slice (some na) K.nn K.nc) := by rw [← HNa.out]; exact HW2.out.obj.cell 1
 have c0 : w2.cell? (na.add (n * 9)) = some (.int .i64 12) := HKk.out ▸ (HCell.out w2 HW2.out.low).1
 have cc := (HCell.out w2 HW2.out.low).2
 have c1 : w2.cell? ⟨(na.add (n * 9)).block, (na.add (n * 9)).off + 1, none⟩ = some (.int .u64 x.c0) := cc 1 _ (by decide) rfl
 have c2 : w2.cell? ⟨(na.add (n * 9)).block, (na.add (n * 9)).off + 2, none⟩ = some (.int .u64 x.c1) := cc 2 _ (by decide) rfl
 have c3 : w2.cell? ⟨(na.add (n * 9)).block, (na.add (n * 9)).off + 3, none⟩ = some (.int .u64 x.c2) := cc 3 _ (by decide) rfl
 have c4 : w2.cell? ⟨(na.add (n * 9)).block, (na.add (n * 9)).off + 4, none⟩ = some (.int .u64 x.c3) := cc 4 _ (by decide) rfl
 have c5 : w2.cell? ⟨(na.add (n * 9)).block, (na.add (n * 9)).off + 5, none⟩ = some (.string x.text) := cc 5 _ (by decide) rfl
 have c6 : w2.cell? ⟨(na.add (n * 9)).block, (na.add (n * 9)).off + 6, none⟩ = some (.int .i64 x.rule) := cc 6 _ (by decide) rfl
 have c7 : w2.cell? ⟨(na.add (n * 9)).block, (na.add (n * 9)).off + 7, none⟩ = some (.int .i64 x.lev) := cc 7 _ (by decide) rfl
 have c8 : w2.cell? ⟨(na.add (n * 9)).block, (na.add (n * 9)).off + 8, none⟩ = some (.slice ko x.kids.length kc) := cc 8 _ (by decide) rfl
 have hnl' : (n : Int) < K.nn := by omega
 have hn0 : (0 : Int) ≤ n := by omega
 clear cc
 have HXn := Lib.hid (hrow.new w2 #[.int .i64 12, .int .u64 x.c0, .int .u64 x.c1, .int .u64 x.c2, .int .u64 x.c3, .string x.text, .int .i64 x.rule, .int .i64 x.lev, .slice ko x.kids.length kc] 57)
 have HAl := Lib.hid (Below.refl w2.heap.size w2 |>.alloc (Nat.le_refl _) (.cells #[.int .i64 12, .int .u64 x.c0, .int .u64 x.c1, .int .u64 x.c2, .int .u64 x.c3, .string x.text, .int .i64 x.rule, .int .i64 x.lev, .slice ko x.kids.length kc] 57))
 have HW3 := Lib.hid (HW2.out.below HAl.out)
 have HF3 := Lib.hid (HF2.out.trans (.below HAl.out))
 have HR3 := Lib.hid (HR2.out.below HAl.out)
 have HLx : Hid (h0 < w2.heap.size) := HR2.out.lt
 go_upto_region 6 with (fail)
 revert HXn HW3 HF3 HR3 HLx
 generalize w2.alloc _ = w3
 generalize w2.heap.size = hx
 intro HXn HW3 HF3 HR3 HLx
 clear HAl HW2 HF2 HR2 c0 c1 c2 c3 c4 c5 c6 c7 c8 p1
 obtain ⟨x0, x1, x2, x3, x4, x5, x6, x7, x8⟩ := (HXn.out).c9
 have hCap : Cap f ⟨cs, false, L, false⟩ := by have := HC.out; exact ⟨this.1, by omega, by simp only []; omega⟩
 have hkn : kk < K.G.nodes.length := by have := hK.ok.kid n x HX.out kk (by rw [HKi.out]; simp); omega
 have hl1 : x.kids.length = 1 := by rw [HKi.out]; rfl
 obtain ⟨ka, hka, hkc⟩ := HKd.out.cell 0 (by simp [inc, HKi.out])
 have hkc' : K.base.cell? ka = some (.int .i64 kk) := by
  have e : ka.add 0 = ka := by unfold Addr.add; simp
  rw [e] at hkc
  rw [hkc]; simp [inc, HKi.out]
 have k0 : w3.cell? ka = some (.int .i64 kk) := (HW3.out.low.cell (World.block_lt_of_cell? _ _ hkc')).trans hkc'
 have HKc := Lib.hid hkc'
 subst hka
 rw [hl1] at x8 HXn hkb
 clear hkc hkc' hl1 HKd HCell
 have HCl := Lib.hid (HE.out w3 ⟨cs, false, L, false⟩ v KS kk p HW3.out hCap HS.out hkn HP.out)
 have HPo := Lib.hid (ev_ok hK.ok f ⟨cs, false, L, false⟩ kk p HS.out hkn HP.out)
 have HCp := Lib.hid hCap
 clear hCap
 generalize ev K.G K.W f ⟨cs, false, L, false⟩ kk p = o at *
 obtain ⟨⟨xi, xe, xf, xt, xr⟩, s2⟩ := o
 simp only [] at hi ⊢
 subst hi
 go_upto_region 33 with (go_at_call 38; refine (HCl.out).mono ?_; rintro e w6 ⟨v6, KS6, o6, c6, rfl, g1, g2, g3⟩; simp only [rsv, rcs] at g1 g2 ⊢; have G1 := Lib.hid g1; have G2 := Lib.hid g2; have G3 := Lib.hid (HF3.out.trans g3); have HZ6 := Lib.hid (HR3.out.rf g3 (by decide) (by decide)); have HX6 := Lib.hid (HXn.out.rf g3 (by decide) (by decide)); clear g1 g2 g3)
 have HAl := Lib.hid (Below.refl w6.heap.size w6 |>.alloc (Nat.le_refl _) (.cells #[.bool true, .int .i64 xe, .int .i64 xf, .slice o6 xt.length c6, .int .i64 xr] 64))
 have H9 := Lib.hid (hrow.new w6 #[.bool true, .int .i64 xe, .int .i64 xf, .slice o6 xt.length c6, .int .i64 xr] 64)
 have L1 := Lib.hid (G1.out.below HAl.out)
 have L2 := Lib.hid (G2.out.step (.below HAl.out))
 have L3 := Lib.hid (G3.out.trans (.below HAl.out))
 have L4 := Lib.hid (HZ6.out.below HAl.out)
 have L5 := Lib.hid (HX6.out.below HAl.out)
 clear G1 G2 G3 HZ6 HX6 HAl HXn HW3 HF3 HR3 x0 x1 x2 x3 x4 x5 x6 x7 x8 k0 HCl HE HS
 revert H9 L1 L2 L3 L4 L5
 generalize w6.alloc _ = w7
 generalize w6.heap.size = h9
 intro H9 L1 L2 L3 L4 L5
 have x0 : w7.cell? ⟨hx, 0, none⟩ = some (.int .i64 12) := L5.out.cell 0
 have x8 : w7.cell? ⟨hx, 8, none⟩ = some (.slice (some ka) 1 kc) := L5.out.cell 8
 obtain ⟨e0, e1, e2, e3, e4⟩ := (H9.out).c5
 obtain ⟨zq0, zq1, zq2, zq3, zq4⟩ := (L4.out).c5
 obtain ⟨zf0, zf1, zf2, zf3, zf4⟩ := (L4.out).f5
 have zr5 := set5_row (.bool true) (.int .i64 p) (.int .i64 xf) (.slice none 0 0) (.int .i64 0) (L4.out)
 have zf5 := set5_fr w7 h0 (.bool true) (.int .i64 p) (.int .i64 xf) (.slice none 0 0) (.int .i64 0)
 unfold set5 at zr5 zf5
 have ZR5 := Lib.hid zr5
 have ZF5 := Lib.hid zf5
 clear zr5 zf5
 go_wp2_with fail
 revert ZR5 ZF5
 generalize ((((w7.setCell _ _).setCell _ _).setCell _ _).setCell _ _).setCell _ _ = wz
 intro ZR5 ZF5
 obtain ⟨zc0, zc1, zc2, zc3, zc4⟩ := (ZR5.out).c5
 exact bodyPost_ret (v := .agg #[.bool true, .int .i64 p, .int .i64 xf, .slice none 0 0, .int .i64 0]) (by simp [results, Try.results38, go_sem, zc0, zc1, zc2, zc3, zc4]) rfl (by exact ⟨v6, KS6, none, 0, rfl, (L1.out).boxed L4.out (by have := HH0.out; have := HLo.out; omega) ZF5.out, (TrW.nil _).boxed L4.out ZF5.out, (L3.out).new ZF5.out (fun k e => by have e' : k = h0 := e; have := HH0.out; omega)⟩)
theorem rev12n (K : Env) (hK : EnvOk K) (f : Nat) (hE : EvC K f) (w : World) (cs : List Ce) (L : Nat) (v : Value) (KS : List (Ce × (Option Addr × Nat))) (n p : Nat) (x : Nd) (h : RW K w ⟨cs, false, L + 1, false⟩ v KS) (hc : L ≤ f ∧ f + 1 ≤ 20000 ∧ cs.length + (L + 1) ≤ 20001)
  (hs : StOk K.G.rules.length K.W.length ⟨cs, false, L, false⟩) (hx : K.G.nodes[n]? = some x) (hk : x.kind = 12) (hp : p ≤ K.W.length) (kk : Nat) (HKi : Hid (x.kids = [(kk : Int)])) (hi : (ev K.G K.W f ⟨cs, false, L, false⟩ kk p).1.is = false) :
  Calls Try.prog 38 #[.pointer (some ⟨K.g, 0, none⟩), .int .i64 n, .int .i64 p] w (REnd K w (failR (ev K.G K.W f ⟨cs, false, L, false⟩ kk p).1.far, (ev K.G K.W f ⟨cs, false, L, false⟩ kk p).2)) := by
 obtain ⟨na, ko, kc, hna, hnl, hnb, htx, hkids, hcell⟩ := RW.node hK hx
 have HE := Lib.hid hE
 have HC := Lib.hid hc
 have HS := Lib.hid hs
 have HX := Lib.hid hx
 have HKk := Lib.hid hk
 have HP := Lib.hid hp
 have HNa := Lib.hid hna
 have HKd := Lib.hid hkids
 have HCell := Lib.hid hcell
 have hbn := hK.gr.nod.sv.bound
 have hkb := hkids.bound
 have hLb : L ≤ 20000 := by omega
 have hpb : p ≤ 2048 := by have := hK.w2; have := hK.wl; omega
 clear hE hc hs hx hk hna hkids hcell
 have HB0 := Lib.hid (al1 (Below.refl w.heap.size w) (.cells #[.bool false, .int .i64 0, .int .i64 0, .slice none 0 0, .int .i64 0] 64))
 have HR0 := Lib.hid (hrow.new w #[.bool false, .int .i64 0, .int .i64 0, .slice none 0 0, .int .i64 0] 64)
 have H1 := Lib.hid (h.below HB0.out)
 have HLo : Hid (K.base.heap.size ≤ w.heap.size) := h.low.size
 clear h
 go_enter Try.func38, Try.ntmps38
 go_upto_region 1 with (fail)
 revert HB0 HR0 H1
 generalize w.alloc _ = w1
 generalize hh0 : w.heap.size = h0
 intro HB0 HR0 H1
 have HH0 := Lib.hid hh0
 have HF1 := Lib.hid (RF.below (hh0 ▸ HB0.out))
 clear HB0 hh0
 have p4 := H1.out.obj.cell 4
 have p5 := H1.out.obj.cell 5
 have p6 := H1.out.obj.cell 6
 have pf5 := H1.out.obj.frozen 5
 have pf6 := H1.out.obj.frozen 6
 simp at p4 p5 p6
 have HS6 := Lib.hid (H1.out.setOver hK.hg false)
 have HS5 := Lib.hid (HS6.out.1.setLeft hK.hg L)
 have HF2 := Lib.hid (HF1.out.trans (HS6.out.2.trans HS5.out.2))
 have HW2 : Hid (RW K ((w1.setCell ⟨K.g, 6, none⟩ (.bool false)).setCell ⟨K.g, 5, none⟩ (.int .i64 L)) ⟨cs, false, L, false⟩ v KS) := HS5.out.1
 have HR2 := Lib.hid ((HR0.out.rf HS6.out.2 (by decide) (by decide)).rf HS5.out.2 (by decide) (by decide))
 clear HS6 HS5 HF1 H1 HR0
 go_upto_region 5 with (fail)
 revert HF2 HW2 HR2
 generalize (w1.setCell _ _).setCell _ _ = w2
 intro HF2 HW2 HR2
 clear p4 p5 p6 pf5 pf6
 have p1 : w2.cell? ⟨K.g, 1, none⟩ = some (.slice (some na) K.nn K.nc) := by rw [← HNa.out]; exact HW2.out.obj.cell 1
 have c0 : w2.cell? (na.add (n * 9)) = some (.int .i64 12) := HKk.out ▸ (HCell.out w2 HW2.out.low).1
 have cc := (HCell.out w2 HW2.out.low).2
 have c1 : w2.cell? ⟨(na.add (n * 9)).block, (na.add (n * 9)).off + 1, none⟩ = some (.int .u64 x.c0) := cc 1 _ (by decide) rfl
 have c2 : w2.cell? ⟨(na.add (n * 9)).block, (na.add (n * 9)).off + 2, none⟩ = some (.int .u64 x.c1) := cc 2 _ (by decide) rfl
 have c3 : w2.cell? ⟨(na.add (n * 9)).block, (na.add (n * 9)).off + 3, none⟩ = some (.int .u64 x.c2) := cc 3 _ (by decide) rfl
 have c4 : w2.cell? ⟨(na.add (n * 9)).block, (na.add (n * 9)).off + 4, none⟩ = some (.int .u64 x.c3) := cc 4 _ (by decide) rfl
 have c5 : w2.cell? ⟨(na.add (n * 9)).block, (na.add (n * 9)).off + 5, none⟩ = some (.string x.text) := cc 5 _ (by decide) rfl
 have c6 : w2.cell? ⟨(na.add (n * 9)).block, (na.add (n * 9)).off + 6, none⟩ = some (.int .i64 x.rule) := cc 6 _ (by decide) rfl
 have c7 : w2.cell? ⟨(na.add (n * 9)).block, (na.add (n * 9)).off + 7, none⟩ = some (.int .i64 x.lev) := cc 7 _ (by decide) rfl
 have c8 : w2.cell? ⟨(na.add (n * 9)).block, (na.add (n * 9)).off + 8, none⟩ = some (.slice ko x.kids.length kc) := cc 8 _ (by decide) rfl
 have hnl' : (n : Int) < K.nn := by omega
 have hn0 : (0 : Int) ≤ n := by omega
 clear cc
 have HXn := Lib.hid (hrow.new w2 #[.int .i64 12, .int .u64 x.c0, .int .u64 x.c1, .int .u64 x.c2, .int .u64 x.c3, .string x.text, .int .i64 x.rule, .int .i64 x.lev, .slice ko x.kids.length kc] 57)
 have HAl := Lib.hid (Below.refl w2.heap.size w2 |>.alloc (Nat.le_refl _) (.cells #[.int .i64 12, .int .u64 x.c0, .int .u64 x.c1, .int .u64 x.c2, .int .u64 x.c3, .string x.text, .int .i64 x.rule, .int .i64 x.lev, .slice ko x.kids.length kc] 57))
 have HW3 := Lib.hid (HW2.out.below HAl.out)
 have HF3 := Lib.hid (HF2.out.trans (.below HAl.out))
 have HR3 := Lib.hid (HR2.out.below HAl.out)
 have HLx : Hid (h0 < w2.heap.size) := HR2.out.lt
 go_upto_region 6 with (fail)
 revert HXn HW3 HF3 HR3 HLx
 generalize w2.alloc _ = w3
 generalize w2.heap.size = hx
 intro HXn HW3 HF3 HR3 HLx
 clear HAl HW2 HF2 HR2 c0 c1 c2 c3 c4 c5 c6 c7 c8 p1
 obtain ⟨x0, x1, x2, x3, x4, x5, x6, x7, x8⟩ := (HXn.out).c9
 have hCap : Cap f ⟨cs, false, L, false⟩ := by have := HC.out; exact ⟨this.1, by omega, by simp only []; omega⟩
 have hkn : kk < K.G.nodes.length := by have := hK.ok.kid n x HX.out kk (by rw [HKi.out]; simp); omega
 have hl1 : x.kids.length = 1 := by rw [HKi.out]; rfl
 obtain ⟨ka, hka, hkc⟩ := HKd.out.cell 0 (by simp [inc, HKi.out])
 have hkc' : K.base.cell? ka = some (.int .i64 kk) := by
  have e : ka.add 0 = ka := by unfold Addr.add; simp
  rw [e] at hkc
  rw [hkc]; simp [inc, HKi.out]
 have k0 : w3.cell? ka = some (.int .i64 kk) := (HW3.out.low.cell (World.block_lt_of_cell? _ _ hkc')).trans hkc'
 have HKc := Lib.hid hkc'
 subst hka
 rw [hl1] at x8 HXn hkb
 clear hkc hkc' hl1 HKd HCell
 have HCl := Lib.hid (HE.out w3 ⟨cs, false, L, false⟩ v KS kk p HW3.out hCap HS.out hkn HP.out)
 have HPo := Lib.hid (ev_ok hK.ok f ⟨cs, false, L, false⟩ kk p HS.out hkn HP.out)
 have HCp := Lib.hid hCap
 clear hCap
 generalize ev K.G K.W f ⟨cs, false, L, false⟩ kk p = o at *
 obtain ⟨⟨xi, xe, xf, xt, xr⟩, s2⟩ := o
 simp only [] at hi ⊢
 subst hi
 go_upto_region 33 with (go_at_call 38; refine (HCl.out).mono ?_; rintro e w6 ⟨v6, KS6, o6, c6, rfl, g1, g2, g3⟩; simp only [rsv, rcs] at g1 g2 ⊢; have G1 := Lib.hid g1; have G2 := Lib.hid g2; have G3 := Lib.hid (HF3.out.trans g3); have HZ6 := Lib.hid (HR3.out.rf g3 (by decide) (by decide)); have HX6 := Lib.hid (HXn.out.rf g3 (by decide) (by decide)); clear g1 g2 g3)
 have HAl := Lib.hid (Below.refl w6.heap.size w6 |>.alloc (Nat.le_refl _) (.cells #[.bool false, .int .i64 xe, .int .i64 xf, .slice o6 xt.length c6, .int .i64 xr] 64))
 have H9 := Lib.hid (hrow.new w6 #[.bool false, .int .i64 xe, .int .i64 xf, .slice o6 xt.length c6, .int .i64 xr] 64)
 have L1 := Lib.hid (G1.out.below HAl.out)
 have L2 := Lib.hid (G2.out.step (.below HAl.out))
 have L3 := Lib.hid (G3.out.trans (.below HAl.out))
 have L4 := Lib.hid (HZ6.out.below HAl.out)
 have L5 := Lib.hid (HX6.out.below HAl.out)
 clear G1 G2 G3 HZ6 HX6 HAl HXn HW3 HF3 HR3 x0 x1 x2 x3 x4 x5 x6 x7 x8 k0 HCl HE HS
 revert H9 L1 L2 L3 L4 L5
 generalize w6.alloc _ = w7
 generalize w6.heap.size = h9
 intro H9 L1 L2 L3 L4 L5
 have x0 : w7.cell? ⟨hx, 0, none⟩ = some (.int .i64 12) := L5.out.cell 0
 have x8 : w7.cell? ⟨hx, 8, none⟩ = some (.slice (some ka) 1 kc) := L5.out.cell 8
 obtain ⟨e0, e1, e2, e3, e4⟩ := (H9.out).c5
 go_wp2_with fail
 refine (rfail_any w7 xf).mono ?_
 rintro e w8 ⟨rfl, hb8⟩
 simp only [rsv, rcs, failR, List.length_nil, Int.natCast_zero]
 have HB8 := Lib.hid hb8
 have HZ8 := Lib.hid (L4.out.below hb8)
 clear hb8
 obtain ⟨zq0, zq1, zq2, zq3, zq4⟩ := (HZ8.out).c5
 obtain ⟨zf0, zf1, zf2, zf3, zf4⟩ := (HZ8.out).f5
 have zr5 := set5_row (.bool false) (.int .i64 0) (.int .i64 xf) (.slice none 0 0) (.int .i64 0) (HZ8.out)
 have zf5 := set5_fr w8 h0 (.bool false) (.int .i64 0) (.int .i64 xf) (.slice none 0 0) (.int .i64 0)
 unfold set5 at zr5 zf5
 have ZR5 := Lib.hid zr5
 have ZF5 := Lib.hid zf5
 clear zr5 zf5
 go_wp2_with fail
 revert ZR5 ZF5
 generalize ((((w8.setCell _ _).setCell _ _).setCell _ _).setCell _ _).setCell _ _ = wz
 intro ZR5 ZF5
 obtain ⟨zc0, zc1, zc2, zc3, zc4⟩ := (ZR5.out).c5
 exact bodyPost_ret (v := .agg #[.bool false, .int .i64 0, .int .i64 xf, .slice none 0 0, .int .i64 0]) (by simp [results, Try.results38, go_sem, zc0, zc1, zc2, zc3, zc4]) rfl (by exact ⟨v6, KS6, none, 0, rfl, (L1.out.below HB8.out).boxed HZ8.out (by have := HH0.out; have := HLo.out; omega) ZF5.out, (TrW.nil _).boxed HZ8.out ZF5.out, (L3.out.trans (.below HB8.out)).new ZF5.out (fun k e => by have e' : k = h0 := e; have := HH0.out; omega)⟩)
theorem rev9y (K : Env) (hK : EnvOk K) (f : Nat) (hE : EvC K f) (w : World) (cs : List Ce) (L : Nat) (v : Value) (KS : List (Ce × (Option Addr × Nat))) (n p : Nat) (x : Nd) (h : RW K w ⟨cs, false, L + 1, false⟩ v KS) (hc : L ≤ f ∧ f + 1 ≤ 20000 ∧ cs.length + (L + 1) ≤ 20001)
  (hs : StOk K.G.rules.length K.W.length ⟨cs, false, L, false⟩) (hx : K.G.nodes[n]? = some x) (hk : x.kind = 9) (hp : p ≤ K.W.length) (kk : Nat) (HKi : Hid (x.kids = [(kk : Int)])) (hi : (ev K.G K.W f ⟨cs, false, L, false⟩ kk p).1.is = true) :
  Calls Try.prog 38 #[.pointer (some ⟨K.g, 0, none⟩), .int .i64 n, .int .i64 p] w (REnd K w (starR (ev K.G K.W f) kk ((ev K.G K.W f ⟨cs, false, L, false⟩ kk p).2.left + 1) (ev K.G K.W f ⟨cs, false, L, false⟩ kk p).1 (ev K.G K.W f ⟨cs, false, L, false⟩ kk p).2)) := by
 obtain ⟨na, ko, kc, hna, hnl, hnb, htx, hkids, hcell⟩ := RW.node hK hx
 have HE := Lib.hid hE
 have HC := Lib.hid hc
 have HS := Lib.hid hs
 have HX := Lib.hid hx
 have HKk := Lib.hid hk
 have HP := Lib.hid hp
 have HNa := Lib.hid hna
 have HKd := Lib.hid hkids
 have HCell := Lib.hid hcell
 have hbn := hK.gr.nod.sv.bound
 have hkb := hkids.bound
 have hLb : L ≤ 20000 := by omega
 have hpb : p ≤ 2048 := by have := hK.w2; have := hK.wl; omega
 clear hE hc hs hx hk hna hkids hcell
 have HB0 := Lib.hid (al1 (Below.refl w.heap.size w) (.cells #[.bool false, .int .i64 0, .int .i64 0, .slice none 0 0, .int .i64 0] 64))
 have HR0 := Lib.hid (hrow.new w #[.bool false, .int .i64 0, .int .i64 0, .slice none 0 0, .int .i64 0] 64)
 have H1 := Lib.hid (h.below HB0.out)
 have HLo : Hid (K.base.heap.size ≤ w.heap.size) := h.low.size
 clear h
 go_enter Try.func38, Try.ntmps38
 go_upto_region 1 with (fail)
 revert HB0 HR0 H1
 generalize w.alloc _ = w1
 generalize hh0 : w.heap.size = h0
 intro HB0 HR0 H1
 have HH0 := Lib.hid hh0
 have HF1 := Lib.hid (RF.below (hh0 ▸ HB0.out))
 clear HB0 hh0
 have p4 := H1.out.obj.cell 4
 have p5 := H1.out.obj.cell 5
 have p6 := H1.out.obj.cell 6
 have pf5 := H1.out.obj.frozen 5
 have pf6 := H1.out.obj.frozen 6
 simp at p4 p5 p6
 have HS6 := Lib.hid (H1.out.setOver hK.hg false)
 have HS5 := Lib.hid (HS6.out.1.setLeft hK.hg L)
 have HF2 := Lib.hid (HF1.out.trans (HS6.out.2.trans HS5.out.2))
 have HW2 : Hid (RW K ((w1.setCell ⟨K.g, 6, none⟩ (.bool false)).setCell ⟨K.g, 5, none⟩ (.int .i64 L)) ⟨cs, false, L, false⟩ v KS) := HS5.out.1
 have HR2 := Lib.hid ((HR0.out.rf HS6.out.2 (by decide) (by decide)).rf HS5.out.2 (by decide) (by decide))
 clear HS6 HS5 HF1 H1 HR0
 go_upto_region 5 with (fail)
 revert HF2 HW2 HR2
 generalize (w1.setCell _ _).setCell _ _ = w2
 intro HF2 HW2 HR2
 clear p4 p5 p6 pf5 pf6
 have p1 : w2.cell? ⟨K.g, 1, none⟩ = some (.slice (some na) K.nn K.nc) := by rw [← HNa.out]; exact HW2.out.obj.cell 1
 have c0 : w2.cell? (na.add (n * 9)) = some (.int .i64 9) := HKk.out ▸ (HCell.out w2 HW2.out.low).1
 have cc := (HCell.out w2 HW2.out.low).2
 have c1 : w2.cell? ⟨(na.add (n * 9)).block, (na.add (n * 9)).off + 1, none⟩ = some (.int .u64 x.c0) := cc 1 _ (by decide) rfl
 have c2 : w2.cell? ⟨(na.add (n * 9)).block, (na.add (n * 9)).off + 2, none⟩ = some (.int .u64 x.c1) := cc 2 _ (by decide) rfl
 have c3 : w2.cell? ⟨(na.add (n * 9)).block, (na.add (n * 9)).off + 3, none⟩ = some (.int .u64 x.c2) := cc 3 _ (by decide) rfl
 have c4 : w2.cell? ⟨(na.add (n * 9)).block, (na.add (n * 9)).off + 4, none⟩ = some (.int .u64 x.c3) := cc 4 _ (by decide) rfl
 have c5 : w2.cell? ⟨(na.add (n * 9)).block, (na.add (n * 9)).off + 5, none⟩ = some (.string x.text) := cc 5 _ (by decide) rfl
 have c6 : w2.cell? ⟨(na.add (n * 9)).block, (na.add (n * 9)).off + 6, none⟩ = some (.int .i64 x.rule) := cc 6 _ (by decide) rfl
 have c7 : w2.cell? ⟨(na.add (n * 9)).block, (na.add (n * 9)).off + 7, none⟩ = some (.int .i64 x.lev) := cc 7 _ (by decide) rfl
 have c8 : w2.cell? ⟨(na.add (n * 9)).block, (na.add (n * 9)).off + 8, none⟩ = some (.slice ko x.kids.length kc) := cc 8 _ (by decide) rfl
 have hnl' : (n : Int) < K.nn := by omega
 have hn0 : (0 : Int) ≤ n := by omega
 clear cc
 have HXn := Lib.hid (hrow.new w2 #[.int .i64 9, .int .u64 x.c0, .int .u64 x.c1, .int .u64 x.c2, .int .u64 x.c3, .string x.text, .int .i64 x.rule, .int .i64 x.lev, .slice ko x.kids.length kc] 57)
 have HAl := Lib.hid (Below.refl w2.heap.size w2 |>.alloc (Nat.le_refl _) (.cells #[.int .i64 9, .int .u64 x.c0, .int .u64 x.c1, .int .u64 x.c2, .int .u64 x.c3, .string x.text, .int .i64 x.rule, .int .i64 x.lev, .slice ko x.kids.length kc] 57))
 have HW3 := Lib.hid (HW2.out.below HAl.out)
 have HF3 := Lib.hid (HF2.out.trans (.below HAl.out))
 have HR3 := Lib.hid (HR2.out.below HAl.out)
 have HLx : Hid (h0 < w2.heap.size) := HR2.out.lt
 go_upto_region 6 with (fail)
 revert HXn HW3 HF3 HR3 HLx
 generalize w2.alloc _ = w3
 generalize w2.heap.size = hx
 intro HXn HW3 HF3 HR3 HLx
 clear HAl HW2 HF2 HR2 c0 c1 c2 c3 c4 c5 c6 c7 c8 p1
 obtain ⟨x0, x1, x2, x3, x4, x5, x6, x7, x8⟩ := (HXn.out).c9
 have hCap : Cap f ⟨cs, false, L, false⟩ := by have := HC.out; exact ⟨this.1, by omega, by simp only []; omega⟩
 have hkn : kk < K.G.nodes.length := by have := hK.ok.kid n x HX.out kk (by rw [HKi.out]; simp); omega
 have hl1 : x.kids.length = 1 := by rw [HKi.out]; rfl
 obtain ⟨ka, hka, hkc⟩ := HKd.out.cell 0 (by simp [inc, HKi.out])
 have hkc' : K.base.cell? ka = some (.int .i64 kk) := by
  have e : ka.add 0 = ka := by unfold Addr.add; simp
  rw [e] at hkc
  rw [hkc]; simp [inc, HKi.out]
 have k0 : w3.cell? ka = some (.int .i64 kk) := (HW3.out.low.cell (World.block_lt_of_cell? _ _ hkc')).trans hkc'
 have HKc := Lib.hid hkc'
 subst hka
 rw [hl1] at x8 HXn hkb
 clear hkc hkc' hl1 HKd HCell
 have HCl := Lib.hid (HE.out w3 ⟨cs, false, L, false⟩ v KS kk p HW3.out hCap HS.out hkn HP.out)
 have HPo := Lib.hid (ev_ok hK.ok f ⟨cs, false, L, false⟩ kk p HS.out hkn HP.out)
 have HCp := Lib.hid hCap
 clear hCap
 generalize ev K.G K.W f ⟨cs, false, L, false⟩ kk p = o at *
 obtain ⟨⟨xi, xe, xf, xt, xr⟩, s2⟩ := o
 simp only [] at hi ⊢
 subst hi
 go_upto_region 33 with (go_at_call 38; refine (HCl.out).mono ?_; rintro e w6 ⟨v6, KS6, o6, c6, rfl, g1, g2, g3⟩; simp only [rsv, rcs] at g1 g2 ⊢; have G1 := Lib.hid g1; have G2 := Lib.hid g2; have G3 := Lib.hid (HF3.out.trans g3); have HZ6 := Lib.hid (HR3.out.rf g3 (by decide) (by decide)); have HX6 := Lib.hid (HXn.out.rf g3 (by decide) (by decide)); clear g1 g2 g3)
 have HAl := Lib.hid (Below.refl w6.heap.size w6 |>.alloc (Nat.le_refl _) (.cells #[.bool true, .int .i64 xe, .int .i64 xf, .slice o6 xt.length c6, .int .i64 xr] 64))
 have H9 := Lib.hid (hrow.new w6 #[.bool true, .int .i64 xe, .int .i64 xf, .slice o6 xt.length c6, .int .i64 xr] 64)
 have L1 := Lib.hid (G1.out.below HAl.out)
 have L2 := Lib.hid (G2.out.step (.below HAl.out))
 have L3 := Lib.hid (G3.out.trans (.below HAl.out))
 have L4 := Lib.hid (HZ6.out.below HAl.out)
 have L5 := Lib.hid (HX6.out.below HAl.out)
 clear G1 G2 G3 HZ6 HX6 HAl HXn HW3 HF3 HR3 x0 x1 x2 x3 x4 x5 x6 x7 x8 k0 HCl HS
 revert H9 L1 L2 L3 L4 L5
 generalize w6.alloc _ = w7
 generalize w6.heap.size = h9
 intro H9 L1 L2 L3 L4 L5
 have x0 : w7.cell? ⟨hx, 0, none⟩ = some (.int .i64 9) := L5.out.cell 0
 have x8 : w7.cell? ⟨hx, 8, none⟩ = some (.slice (some ka) 1 kc) := L5.out.cell 8
 obtain ⟨e0, e1, e2, e3, e4⟩ := (H9.out).c5
 have HSt : Hid (∀ W', Below w7.heap.size w7 W' → Calls Try.prog 51 #[.pointer (some ⟨K.g, 0, none⟩), .int .i64 kk, .agg #[.bool true, .int .i64 xe, .int .i64 xf, .slice o6 xt.length c6, .int .i64 xr]] W' (REnd K W' (starR (ev K.G K.W f) kk (s2.left + 1) ⟨true, xe, xf, xt, xr⟩ s2))) := fun W' hb' =>
  rstar_any K hK f HE.out W' s2 v6 KS6 kk p ⟨true, xe, xf, xt, xr⟩ o6 c6 (L1.out.below hb') (HCp.out.of HPo.out.step HCp.out.top (by have h1 : s2.left ≤ L := HPo.out.step.left; have := HC.out.1; omega)) HPo.out.st hkn (L2.out.step (.below hb')) HPo.out.rs rfl (by have h : xt.length + 2001 * s2.left ≤ 2001 * L := HPo.out.len; show xt.length + 2001 * s2.left ≤ 60000000; omega)
 have HPs : Hid True := trivial
 clear HPs HPo HCp HE
 generalize starR (ev K.G K.W f) kk (s2.left + 1) ⟨true, xe, xf, xt, xr⟩ s2 = o2 at *
 obtain ⟨⟨yi, ye, yf, yt, yr⟩, s3⟩ := o2
 have k7 : w7.cell? ka = some (.int .i64 kk) := (L1.out.low.cell (World.block_lt_of_cell? _ _ HKc.out)).trans HKc.out
 go_upto_region 36 with (fail)
 go_still_tail 6, (by kernel_rfl)
 change wpList _ _ _ _ _ w7.drew
 have HD := Lib.hid ((Below.refl w7.heap.size w7).drew)
 have HSt2 := Lib.hid (HSt.out _ HD.out)
 have M3 := Lib.hid (L3.out.trans (.below HD.out))
 have M4 := Lib.hid (L4.out.below HD.out)
 clear HSt L1 L2 L3 L4 L5 H9 e0 e1 e2 e3 e4 x0 x8 k7 HD
 revert HSt2 M3 M4
 generalize w7.drew = w8
 intro HSt2 M3 M4
 go_wp2_with fail
 refine (HSt2.out).mono ?_
 rintro e w9 ⟨v9, KS9, o9, c9, rfl, g1, g2, g3⟩
 simp only [rsv, rcs] at g1 g2 ⊢
 have G1 := Lib.hid g1
 have G2 := Lib.hid g2
 have G3 := Lib.hid (M3.out.trans g3)
 have HZ9 := Lib.hid (M4.out.rf g3 (by decide) (by decide))
 clear g1 g2 g3
 obtain ⟨zq0, zq1, zq2, zq3, zq4⟩ := (HZ9.out).c5
 obtain ⟨zf0, zf1, zf2, zf3, zf4⟩ := (HZ9.out).f5
 have zr5 := set5_row (.bool yi) (.int .i64 ye) (.int .i64 yf) (.slice o9 yt.length c9) (.int .i64 yr) (HZ9.out)
 have zf5 := set5_fr w9 h0 (.bool yi) (.int .i64 ye) (.int .i64 yf) (.slice o9 yt.length c9) (.int .i64 yr)
 unfold set5 at zr5 zf5
 have ZR5 := Lib.hid zr5
 have ZF5 := Lib.hid zf5
 clear zr5 zf5
 go_wp2_with fail
 revert ZR5 ZF5
 generalize ((((w9.setCell _ _).setCell _ _).setCell _ _).setCell _ _).setCell _ _ = wz
 intro ZR5 ZF5
 obtain ⟨zc0, zc1, zc2, zc3, zc4⟩ := (ZR5.out).c5
 exact bodyPost_ret (v := .agg #[.bool yi, .int .i64 ye, .int .i64 yf, .slice o9 yt.length c9, .int .i64 yr]) (by simp [results, Try.results38, go_sem, zc0, zc1, zc2, zc3, zc4]) rfl (by exact ⟨v9, KS9, o9, c9, rfl, (G1.out).boxed HZ9.out (by have := HH0.out; have := HLo.out; omega) ZF5.out, (G2.out).boxed HZ9.out ZF5.out, (G3.out).new ZF5.out (fun k e => by have e' : k = h0 := e; have := HH0.out; omega)⟩)
end Go.Proofs.Ytdnkffplkleolaa
