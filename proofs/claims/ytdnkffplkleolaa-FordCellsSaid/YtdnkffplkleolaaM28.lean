/- Walks and plain laws: Tm Tq. -/
import Derived.Test.YtdnkffplkleolaaM27
import Derived.Test.YtdnkffplkleolaaM26
namespace Go.Proofs.Ytdnkffplkleolaa
open Go.RowKit Go.ChangeMaps
set_option maxRecDepth 100000
set_option maxHeartbeats 2000000

theorem pone10y (K : Env) (hK : EnvOk K) (m : Nat) (w : World) (s : St) (es : Array MapEntry) (clock : Nat) (KS : List (Ce × (Option Addr × Nat))) (p : Nat) (x : Nd) (ko : Option Addr) (kc : Nat)
  (h : TW K m w s es clock KS) (hp : p ≤ K.W.length) (f : Nat) (hN : NdC K m f) (hc : Cap f s) (hs : StOk K.G.rules.length K.W.length s) (hov : s.over = false) (hkd : Sv K.base ko x.kids.length kc 1 (inc x.kids)) (hks : ∀ k ∈ x.kids, 0 ≤ k ∧ k < K.G.nodes.length) (kk : Nat) (HKi : Hid (x.kids = [(kk : Int)])) (hfin : (ev K.G K.W f s kk p).2.over = false) (hi : (ev K.G K.W f s kk p).1.is = true) :
  Calls Try.prog 84 #[.pointer (some ⟨K.g, 0, none⟩), .agg #[.int .i64 10, .int .u64 x.c0, .int .u64 x.c1, .int .u64 x.c2, .int .u64 x.c3, .string x.text, .int .i64 x.rule, .int .i64 x.lev, .slice ko x.kids.length kc], .int .i64 p] w (PEnd K m w ((ev K.G K.W f s kk p))) := by
 have HFin := Lib.hid hfin
 clear hfin
 have HN := Lib.hid hN
 have HC := Lib.hid hc
 have HS := Lib.hid hs
 have HOv := Lib.hid hov
 have HKd := Lib.hid hkd
 have HKs := Lib.hid hks
 have hkb := hkd.bound
 clear hN hc hs hov hkd hks
 have H := Lib.hid h
 have HP := Lib.hid hp
 have hpb : p ≤ 2048 := by have := hK.w2; have := hK.wl; omega
 have hwl := hK.wl
 have hwb := hK.inp.bound
 have hww := hK.w2
 obtain ⟨HB0, HX0, HZ0⟩ := box2 w #[.int .i64 10, .int .u64 x.c0, .int .u64 x.c1, .int .u64 x.c2, .int .u64 x.c3, .string x.text, .int .i64 x.rule, .int .i64 x.lev, .slice ko x.kids.length kc] #[.bool false, .int .i64 0, .int .i64 0, .slice none 0 0] 57 100
 have H1 := Lib.hid (h.below HB0.out)
 have HLo : Hid (K.base.heap.size ≤ w.heap.size) := h.low.size
 clear h hp
 go_enter Try.func84, Try.ntmps84
 go_upto_region 1 with (fail)
 revert HB0 HX0 HZ0 H1
 generalize (w.alloc _).alloc _ = w1
 generalize hh0 : w.heap.size + 1 = h0
 generalize hhx : w.heap.size = hx
 intro HB0 HX0 HZ0 H1
 have HH0 : Hid (w.heap.size = hx ∧ hx + 1 = h0) := ⟨hhx, by omega⟩
 have HB1 : Hid (Below w.heap.size w w1) := by rw [hhx]; exact HB0.out
 clear HB0 hh0 hhx
 obtain ⟨x0, x1, x2, x3, x4, x5, x6, x7, x8⟩ := (HX0.out).c9
 have hkn : kk < K.G.nodes.length := by have := HKs.out kk (by rw [HKi.out]; simp); omega
 have hl1 : x.kids.length = 1 := by rw [HKi.out]; rfl
 obtain ⟨ka, hka, hkc⟩ := HKd.out.cell 0 (by simp [inc, HKi.out])
 have hkc' : K.base.cell? ka = some (.int .i64 kk) := by
  have e : ka.add 0 = ka := by unfold Addr.add; simp
  rw [e] at hkc
  rw [hkc]; simp [inc, HKi.out]
 have HKc := Lib.hid hkc'
 subst hka
 rw [hl1] at HX0 x8 hkb
 clear hkc hkc' hl1 HKd
 have HKo := Lib.hid HFin.out
 have HPo := Lib.hid (ev_ok (W := K.W) hK.ok f s kk p HS.out hkn HP.out)
 have HCl := Lib.hid (HN.out w1 s es clock KS kk p H1.out HC.out HS.out HOv.out hkn HP.out HKo.out)
 have k0 : w1.cell? ka = some (.int .i64 kk) := (H1.out.low.cell (World.block_lt_of_cell? _ _ HKc.out)).trans HKc.out
 generalize ev K.G K.W f s kk p = o at *
 obtain ⟨⟨xi, xe, xf, xt, xr⟩, s2⟩ := o
 simp only [] at hi HKo ⊢
 subst hi
 go_upto_region 2 with (go_at_call 55; refine (HCl.out).mono ?_; rintro e w3 ⟨es3, clock3, KS3, o3, c3, rfl, g1, g2, g3⟩; simp only [gtv, gcs] at g1 g2 ⊢; have G1 := Lib.hid g1; have G2 := Lib.hid g2; have G3 := Lib.hid (PF.trans (PF.below (K := K) (m := m) HB1.out) g3); have GZ := Lib.hid (hrow.pf H1.out g3 HZ0.out (by decide)); have GX := Lib.hid (hrow.pf H1.out g3 HX0.out (by decide)); clear g1 g2 g3)
 obtain ⟨HAl, H7⟩ := box1 w3 #[.bool true, .int .i64 xe, .int .i64 xf, .slice o3 xt.length c3] 100
 have L1 := Lib.hid (G1.out.below HAl.out)
 have L2 := Lib.hid (G2.out.step (.below HAl.out))
 have L3 := Lib.hid (PF.trans G3.out (PF.below HAl.out))
 have LZ := Lib.hid (GZ.out.below HAl.out)
 have LX := Lib.hid (GX.out.below HAl.out)
 have HL7 : Hid (h0 < w3.heap.size) := GZ.out.lt
 clear G1 G2 G3 GZ GX HAl x0 x1 x2 x3 x4 x5 x6 x7 x8 k0 HCl HX0 HZ0 H1 HB1 H
 revert H7 L1 L2 L3 LZ LX HL7
 generalize w3.alloc _ = w4
 generalize w3.heap.size = h7
 intro H7 L1 L2 L3 LZ LX HL7
 obtain ⟨e0, e1, e2, e3⟩ := (H7.out).c4
 have x0 : w4.cell? ⟨hx, 0, none⟩ = some (.int .i64 10) := LX.out.cell 0
 obtain ⟨zq0, zq1, zq2, zq3⟩ := (LZ.out).c4
 obtain ⟨zf0, zf1, zf2, zf3⟩ := (LZ.out).f4
 obtain ⟨ZR4, ZF4⟩ := set4_box (.bool true) (.int .i64 xe) (.int .i64 xf) (.slice o3 xt.length c3) (LZ.out)
 go_wp2_with fail
 revert ZR4 ZF4
 generalize (((w4.setCell _ _).setCell _ _).setCell _ _).setCell _ _ = wz
 intro ZR4 ZF4
 obtain ⟨zc0, zc1, zc2, zc3⟩ := (ZR4.out).c4
 exact bodyPost_ret (v := .agg #[.bool true, .int .i64 xe, .int .i64 xf, .slice o3 xt.length c3]) (by simp [results, Try.results84, go_sem, zc0, zc1, zc2, zc3]) rfl (⟨es3, clock3, KS3, o3, c3, rfl, TW.boxed (L1.out) LZ.out (by have := HH0.out; have := HLo.out; omega) ZF4.out, TrW.gbox (L2.out) LZ.out ZF4.out, PF.new (L3.out) ZF4.out (fun k e => by have e' : k = h0 := e; have := HH0.out; omega)⟩)
theorem pone10n (K : Env) (hK : EnvOk K) (m : Nat) (w : World) (s : St) (es : Array MapEntry) (clock : Nat) (KS : List (Ce × (Option Addr × Nat))) (p : Nat) (x : Nd) (ko : Option Addr) (kc : Nat)
  (h : TW K m w s es clock KS) (hp : p ≤ K.W.length) (f : Nat) (hN : NdC K m f) (hc : Cap f s) (hs : StOk K.G.rules.length K.W.length s) (hov : s.over = false) (hkd : Sv K.base ko x.kids.length kc 1 (inc x.kids)) (hks : ∀ k ∈ x.kids, 0 ≤ k ∧ k < K.G.nodes.length) (kk : Nat) (HKi : Hid (x.kids = [(kk : Int)])) (hfin : (ev K.G K.W f s kk p).2.over = false) (hi : (ev K.G K.W f s kk p).1.is = false) :
  Calls Try.prog 84 #[.pointer (some ⟨K.g, 0, none⟩), .agg #[.int .i64 10, .int .u64 x.c0, .int .u64 x.c1, .int .u64 x.c2, .int .u64 x.c3, .string x.text, .int .i64 x.rule, .int .i64 x.lev, .slice ko x.kids.length kc], .int .i64 p] w (PEnd K m w (⟨true, p, (ev K.G K.W f s kk p).1.far, [], 0⟩, (ev K.G K.W f s kk p).2)) := by
 have HFin := Lib.hid hfin
 clear hfin
 have HN := Lib.hid hN
 have HC := Lib.hid hc
 have HS := Lib.hid hs
 have HOv := Lib.hid hov
 have HKd := Lib.hid hkd
 have HKs := Lib.hid hks
 have hkb := hkd.bound
 clear hN hc hs hov hkd hks
 have H := Lib.hid h
 have HP := Lib.hid hp
 have hpb : p ≤ 2048 := by have := hK.w2; have := hK.wl; omega
 have hwl := hK.wl
 have hwb := hK.inp.bound
 have hww := hK.w2
 obtain ⟨HB0, HX0, HZ0⟩ := box2 w #[.int .i64 10, .int .u64 x.c0, .int .u64 x.c1, .int .u64 x.c2, .int .u64 x.c3, .string x.text, .int .i64 x.rule, .int .i64 x.lev, .slice ko x.kids.length kc] #[.bool false, .int .i64 0, .int .i64 0, .slice none 0 0] 57 100
 have H1 := Lib.hid (h.below HB0.out)
 have HLo : Hid (K.base.heap.size ≤ w.heap.size) := h.low.size
 clear h hp
 go_enter Try.func84, Try.ntmps84
 go_upto_region 1 with (fail)
 revert HB0 HX0 HZ0 H1
 generalize (w.alloc _).alloc _ = w1
 generalize hh0 : w.heap.size + 1 = h0
 generalize hhx : w.heap.size = hx
 intro HB0 HX0 HZ0 H1
 have HH0 : Hid (w.heap.size = hx ∧ hx + 1 = h0) := ⟨hhx, by omega⟩
 have HB1 : Hid (Below w.heap.size w w1) := by rw [hhx]; exact HB0.out
 clear HB0 hh0 hhx
 obtain ⟨x0, x1, x2, x3, x4, x5, x6, x7, x8⟩ := (HX0.out).c9
 have hkn : kk < K.G.nodes.length := by have := HKs.out kk (by rw [HKi.out]; simp); omega
 have hl1 : x.kids.length = 1 := by rw [HKi.out]; rfl
 obtain ⟨ka, hka, hkc⟩ := HKd.out.cell 0 (by simp [inc, HKi.out])
 have hkc' : K.base.cell? ka = some (.int .i64 kk) := by
  have e : ka.add 0 = ka := by unfold Addr.add; simp
  rw [e] at hkc
  rw [hkc]; simp [inc, HKi.out]
 have HKc := Lib.hid hkc'
 subst hka
 rw [hl1] at HX0 x8 hkb
 clear hkc hkc' hl1 HKd
 have HKo := Lib.hid HFin.out
 have HPo := Lib.hid (ev_ok (W := K.W) hK.ok f s kk p HS.out hkn HP.out)
 have HCl := Lib.hid (HN.out w1 s es clock KS kk p H1.out HC.out HS.out HOv.out hkn HP.out HKo.out)
 have k0 : w1.cell? ka = some (.int .i64 kk) := (H1.out.low.cell (World.block_lt_of_cell? _ _ HKc.out)).trans HKc.out
 generalize ev K.G K.W f s kk p = o at *
 obtain ⟨⟨xi, xe, xf, xt, xr⟩, s2⟩ := o
 simp only [] at hi HKo ⊢
 subst hi
 go_upto_region 2 with (go_at_call 55; refine (HCl.out).mono ?_; rintro e w3 ⟨es3, clock3, KS3, o3, c3, rfl, g1, g2, g3⟩; simp only [gtv, gcs] at g1 g2 ⊢; have G1 := Lib.hid g1; have G2 := Lib.hid g2; have G3 := Lib.hid (PF.trans (PF.below (K := K) (m := m) HB1.out) g3); have GZ := Lib.hid (hrow.pf H1.out g3 HZ0.out (by decide)); have GX := Lib.hid (hrow.pf H1.out g3 HX0.out (by decide)); clear g1 g2 g3)
 obtain ⟨HAl, H7⟩ := box1 w3 #[.bool false, .int .i64 xe, .int .i64 xf, .slice o3 xt.length c3] 100
 have L1 := Lib.hid (G1.out.below HAl.out)
 have L2 := Lib.hid (G2.out.step (.below HAl.out))
 have L3 := Lib.hid (PF.trans G3.out (PF.below HAl.out))
 have LZ := Lib.hid (GZ.out.below HAl.out)
 have LX := Lib.hid (GX.out.below HAl.out)
 have HL7 : Hid (h0 < w3.heap.size) := GZ.out.lt
 clear G1 G2 G3 GZ GX HAl x0 x1 x2 x3 x4 x5 x6 x7 x8 k0 HCl HX0 HZ0 H1 HB1 H
 revert H7 L1 L2 L3 LZ LX HL7
 generalize w3.alloc _ = w4
 generalize w3.heap.size = h7
 intro H7 L1 L2 L3 LZ LX HL7
 obtain ⟨e0, e1, e2, e3⟩ := (H7.out).c4
 have x0 : w4.cell? ⟨hx, 0, none⟩ = some (.int .i64 10) := LX.out.cell 0
 have hlo : -1 ≤ xf := HPo.out.rs.lo
 have HTx : Hid (triR ⟨true, p, -1, [], 0⟩ xf = ⟨true, p, xf, [], 0⟩) := by
  show triR _ _ = _
  simp only [triR]
  congr 1
  omega
 have HTr := Lib.hid (fun w' => ptried_any w' (toR p) none 0 xf)
 have hn7 : h7 ≠ h0 := by have := HL7.out; omega
 clear hlo
 go_upto_region 6 with (fail)
 have HD0 := Lib.hid ((Below.refl w4.heap.size w4).drew)
 go_region_held3 (fun w' => w'.cell? ⟨h7, 2, none⟩ = some (.int .i64 xf))
  (first | (with_reducible exact set4_cell0 K1.out hn7) | (with_reducible exact K1.out) | (with_reducible exact J1.out) | go_keep)
  ((first
   | (go_at_call 94; refine (pto_any _ p).mono ?_; rintro e w5 ⟨rfl, hb5⟩; have HB5 := Lib.hid (HD0.out.trans (hb5.mono HD0.out.size)); have J1 : Hid (w5.cell? ⟨h7, 2, none⟩ = some (.int .i64 xf)) := (H7.out.below HB5.out).cell 2; clear hb5; simp only [gtv, gcs, toR, List.length_nil])
   | (go_at_call 95; refine (HTr.out _).mono ?_; rintro e w6 ⟨rfl, hb6⟩; have HB6 := Lib.hid (HB5.out.trans (hb6.mono HB5.out.size)); clear hb6; simp only [toR]; rw [HTx.out]; simp only [gtv, gcs, List.length_nil]; have K1 : Hid (w6.cell? ⟨h7, 2, none⟩ = some (.int .i64 xf)) := (H7.out.below HB6.out).cell 2; have HZ6 := Lib.hid (LZ.out.below HB6.out); obtain ⟨zq0, zq1, zq2, zq3⟩ := (HZ6.out).c4; obtain ⟨zf0, zf1, zf2⟩ := (HZ6.out).f3; have zf3 := (HZ6.out).frozen 3)))
 obtain ⟨ZR4, ZF4⟩ := set4_box (.bool true) (.int .i64 p) (.int .i64 xf) (.slice none 0 0) (HZ6.out)
 revert ZR4 ZF4
 generalize (((w6.setCell _ _).setCell _ _).setCell _ _).setCell _ _ = wz
 intro ZR4 ZF4
 obtain ⟨zc0, zc1, zc2, zc3⟩ := (ZR4.out).c4
 go_wp2_with fail
 exact bodyPost_ret (v := .agg #[.bool true, .int .i64 p, .int .i64 xf, .slice none 0 0]) (by simp [results, Try.results84, go_sem, zc0, zc1, zc2, zc3]) rfl (⟨es3, clock3, KS3, none, 0, rfl, TW.boxed (L1.out.below HB6.out) HZ6.out (by have := HH0.out; have := HLo.out; omega) ZF4.out, TrW.gbox (TrW.nil _) HZ6.out ZF4.out, PF.new (PF.trans L3.out (PF.below HB6.out)) ZF4.out (fun k e => by have e' : k = h0 := e; have := HH0.out; omega)⟩)
theorem pone11y (K : Env) (hK : EnvOk K) (m : Nat) (w : World) (s : St) (es : Array MapEntry) (clock : Nat) (KS : List (Ce × (Option Addr × Nat))) (p : Nat) (x : Nd) (ko : Option Addr) (kc : Nat)
  (h : TW K m w s es clock KS) (hp : p ≤ K.W.length) (f : Nat) (hN : NdC K m f) (hc : Cap f s) (hs : StOk K.G.rules.length K.W.length s) (hov : s.over = false) (hkd : Sv K.base ko x.kids.length kc 1 (inc x.kids)) (hks : ∀ k ∈ x.kids, 0 ≤ k ∧ k < K.G.nodes.length) (kk : Nat) (HKi : Hid (x.kids = [(kk : Int)])) (hfin : (ev K.G K.W f s kk p).2.over = false) (hi : (ev K.G K.W f s kk p).1.is = true) :
  Calls Try.prog 84 #[.pointer (some ⟨K.g, 0, none⟩), .agg #[.int .i64 11, .int .u64 x.c0, .int .u64 x.c1, .int .u64 x.c2, .int .u64 x.c3, .string x.text, .int .i64 x.rule, .int .i64 x.lev, .slice ko x.kids.length kc], .int .i64 p] w (PEnd K m w (failR (ev K.G K.W f s kk p).1.far, (ev K.G K.W f s kk p).2)) := by
 have HFin := Lib.hid hfin
 clear hfin
 have HN := Lib.hid hN
 have HC := Lib.hid hc
 have HS := Lib.hid hs
 have HOv := Lib.hid hov
 have HKd := Lib.hid hkd
 have HKs := Lib.hid hks
 have hkb := hkd.bound
 clear hN hc hs hov hkd hks
 have H := Lib.hid h
 have HP := Lib.hid hp
 have hpb : p ≤ 2048 := by have := hK.w2; have := hK.wl; omega
 have hwl := hK.wl
 have hwb := hK.inp.bound
 have hww := hK.w2
 obtain ⟨HB0, HX0, HZ0⟩ := box2 w #[.int .i64 11, .int .u64 x.c0, .int .u64 x.c1, .int .u64 x.c2, .int .u64 x.c3, .string x.text, .int .i64 x.rule, .int .i64 x.lev, .slice ko x.kids.length kc] #[.bool false, .int .i64 0, .int .i64 0, .slice none 0 0] 57 100
 have H1 := Lib.hid (h.below HB0.out)
 have HLo : Hid (K.base.heap.size ≤ w.heap.size) := h.low.size
 clear h hp
 go_enter Try.func84, Try.ntmps84
 go_upto_region 1 with (fail)
 revert HB0 HX0 HZ0 H1
 generalize (w.alloc _).alloc _ = w1
 generalize hh0 : w.heap.size + 1 = h0
 generalize hhx : w.heap.size = hx
 intro HB0 HX0 HZ0 H1
 have HH0 : Hid (w.heap.size = hx ∧ hx + 1 = h0) := ⟨hhx, by omega⟩
 have HB1 : Hid (Below w.heap.size w w1) := by rw [hhx]; exact HB0.out
 clear HB0 hh0 hhx
 obtain ⟨x0, x1, x2, x3, x4, x5, x6, x7, x8⟩ := (HX0.out).c9
 have hkn : kk < K.G.nodes.length := by have := HKs.out kk (by rw [HKi.out]; simp); omega
 have hl1 : x.kids.length = 1 := by rw [HKi.out]; rfl
 obtain ⟨ka, hka, hkc⟩ := HKd.out.cell 0 (by simp [inc, HKi.out])
 have hkc' : K.base.cell? ka = some (.int .i64 kk) := by
  have e : ka.add 0 = ka := by unfold Addr.add; simp
  rw [e] at hkc
  rw [hkc]; simp [inc, HKi.out]
 have HKc := Lib.hid hkc'
 subst hka
 rw [hl1] at HX0 x8 hkb
 clear hkc hkc' hl1 HKd
 have HKo := Lib.hid HFin.out
 have HPo := Lib.hid (ev_ok (W := K.W) hK.ok f s kk p HS.out hkn HP.out)
 have HCl := Lib.hid (HN.out w1 s es clock KS kk p H1.out HC.out HS.out HOv.out hkn HP.out HKo.out)
 have k0 : w1.cell? ka = some (.int .i64 kk) := (H1.out.low.cell (World.block_lt_of_cell? _ _ HKc.out)).trans HKc.out
 generalize ev K.G K.W f s kk p = o at *
 obtain ⟨⟨xi, xe, xf, xt, xr⟩, s2⟩ := o
 simp only [] at hi HKo ⊢
 subst hi
 go_upto_region 2 with (go_at_call 55; refine (HCl.out).mono ?_; rintro e w3 ⟨es3, clock3, KS3, o3, c3, rfl, g1, g2, g3⟩; simp only [gtv, gcs] at g1 g2 ⊢; have G1 := Lib.hid g1; have G2 := Lib.hid g2; have G3 := Lib.hid (PF.trans (PF.below (K := K) (m := m) HB1.out) g3); have GZ := Lib.hid (hrow.pf H1.out g3 HZ0.out (by decide)); have GX := Lib.hid (hrow.pf H1.out g3 HX0.out (by decide)); clear g1 g2 g3)
 obtain ⟨HAl, H7⟩ := box1 w3 #[.bool true, .int .i64 xe, .int .i64 xf, .slice o3 xt.length c3] 100
 have L1 := Lib.hid (G1.out.below HAl.out)
 have L2 := Lib.hid (G2.out.step (.below HAl.out))
 have L3 := Lib.hid (PF.trans G3.out (PF.below HAl.out))
 have LZ := Lib.hid (GZ.out.below HAl.out)
 have LX := Lib.hid (GX.out.below HAl.out)
 have HL7 : Hid (h0 < w3.heap.size) := GZ.out.lt
 clear G1 G2 G3 GZ GX HAl x0 x1 x2 x3 x4 x5 x6 x7 x8 k0 HCl HX0 HZ0 H1 HB1 H
 revert H7 L1 L2 L3 LZ LX HL7
 generalize w3.alloc _ = w4
 generalize w3.heap.size = h7
 intro H7 L1 L2 L3 LZ LX HL7
 obtain ⟨e0, e1, e2, e3⟩ := (H7.out).c4
 have x0 : w4.cell? ⟨hx, 0, none⟩ = some (.int .i64 11) := LX.out.cell 0
 go_wp2_with fail
 refine (pmiss_any w4 xf).mono ?_
 rintro e w6 ⟨rfl, hb6⟩
 simp only [gtv, gcs, failR, List.length_nil]
 have HZ6 := Lib.hid (LZ.out.below hb6)
 have HB6 := Lib.hid hb6
 clear hb6
 obtain ⟨zq0, zq1, zq2, zq3⟩ := (HZ6.out).c4
 obtain ⟨zf0, zf1, zf2, zf3⟩ := (HZ6.out).f4
 obtain ⟨ZR4, ZF4⟩ := set4_box (.bool false) (.int .i64 0) (.int .i64 xf) (.slice none 0 0) (HZ6.out)
 go_wp2_with fail
 revert ZR4 ZF4
 generalize (((w6.setCell _ _).setCell _ _).setCell _ _).setCell _ _ = wz
 intro ZR4 ZF4
 obtain ⟨zc0, zc1, zc2, zc3⟩ := (ZR4.out).c4
 exact bodyPost_ret (v := .agg #[.bool false, .int .i64 0, .int .i64 xf, .slice none 0 0]) (by simp [results, Try.results84, go_sem, zc0, zc1, zc2, zc3]) rfl (⟨es3, clock3, KS3, none, 0, rfl, TW.boxed (L1.out.below HB6.out) HZ6.out (by have := HH0.out; have := HLo.out; omega) ZF4.out, TrW.gbox (TrW.nil _) HZ6.out ZF4.out, PF.new (PF.trans L3.out (PF.below HB6.out)) ZF4.out (fun k e => by have e' : k = h0 := e; have := HH0.out; omega)⟩)
theorem pone11n (K : Env) (hK : EnvOk K) (m : Nat) (w : World) (s : St) (es : Array MapEntry) (clock : Nat) (KS : List (Ce × (Option Addr × Nat))) (p : Nat) (x : Nd) (ko : Option Addr) (kc : Nat)
  (h : TW K m w s es clock KS) (hp : p ≤ K.W.length) (f : Nat) (hN : NdC K m f) (hc : Cap f s) (hs : StOk K.G.rules.length K.W.length s) (hov : s.over = false) (hkd : Sv K.base ko x.kids.length kc 1 (inc x.kids)) (hks : ∀ k ∈ x.kids, 0 ≤ k ∧ k < K.G.nodes.length) (kk : Nat) (HKi : Hid (x.kids = [(kk : Int)])) (hfin : (ev K.G K.W f s kk p).2.over = false) (hi : (ev K.G K.W f s kk p).1.is = false) :
  Calls Try.prog 84 #[.pointer (some ⟨K.g, 0, none⟩), .agg #[.int .i64 11, .int .u64 x.c0, .int .u64 x.c1, .int .u64 x.c2, .int .u64 x.c3, .string x.text, .int .i64 x.rule, .int .i64 x.lev, .slice ko x.kids.length kc], .int .i64 p] w (PEnd K m w (⟨true, p, (ev K.G K.W f s kk p).1.far, [], 0⟩, (ev K.G K.W f s kk p).2)) := by
 have HFin := Lib.hid hfin
 clear hfin
 have HN := Lib.hid hN
 have HC := Lib.hid hc
 have HS := Lib.hid hs
 have HOv := Lib.hid hov
 have HKd := Lib.hid hkd
 have HKs := Lib.hid hks
 have hkb := hkd.bound
 clear hN hc hs hov hkd hks
 have H := Lib.hid h
 have HP := Lib.hid hp
 have hpb : p ≤ 2048 := by have := hK.w2; have := hK.wl; omega
 have hwl := hK.wl
 have hwb := hK.inp.bound
 have hww := hK.w2
 obtain ⟨HB0, HX0, HZ0⟩ := box2 w #[.int .i64 11, .int .u64 x.c0, .int .u64 x.c1, .int .u64 x.c2, .int .u64 x.c3, .string x.text, .int .i64 x.rule, .int .i64 x.lev, .slice ko x.kids.length kc] #[.bool false, .int .i64 0, .int .i64 0, .slice none 0 0] 57 100
 have H1 := Lib.hid (h.below HB0.out)
 have HLo : Hid (K.base.heap.size ≤ w.heap.size) := h.low.size
 clear h hp
 go_enter Try.func84, Try.ntmps84
 go_upto_region 1 with (fail)
 revert HB0 HX0 HZ0 H1
 generalize (w.alloc _).alloc _ = w1
 generalize hh0 : w.heap.size + 1 = h0
 generalize hhx : w.heap.size = hx
 intro HB0 HX0 HZ0 H1
 have HH0 : Hid (w.heap.size = hx ∧ hx + 1 = h0) := ⟨hhx, by omega⟩
 have HB1 : Hid (Below w.heap.size w w1) := by rw [hhx]; exact HB0.out
 clear HB0 hh0 hhx
 obtain ⟨x0, x1, x2, x3, x4, x5, x6, x7, x8⟩ := (HX0.out).c9
 have hkn : kk < K.G.nodes.length := by have := HKs.out kk (by rw [HKi.out]; simp); omega
 have hl1 : x.kids.length = 1 := by rw [HKi.out]; rfl
 obtain ⟨ka, hka, hkc⟩ := HKd.out.cell 0 (by simp [inc, HKi.out])
 have hkc' : K.base.cell? ka = some (.int .i64 kk) := by
  have e : ka.add 0 = ka := by unfold Addr.add; simp
  rw [e] at hkc
  rw [hkc]; simp [inc, HKi.out]
 have HKc := Lib.hid hkc'
 subst hka
 rw [hl1] at HX0 x8 hkb
 clear hkc hkc' hl1 HKd
 have HKo := Lib.hid HFin.out
 have HPo := Lib.hid (ev_ok (W := K.W) hK.ok f s kk p HS.out hkn HP.out)
 have HCl := Lib.hid (HN.out w1 s es clock KS kk p H1.out HC.out HS.out HOv.out hkn HP.out HKo.out)
 have k0 : w1.cell? ka = some (.int .i64 kk) := (H1.out.low.cell (World.block_lt_of_cell? _ _ HKc.out)).trans HKc.out
 generalize ev K.G K.W f s kk p = o at *
 obtain ⟨⟨xi, xe, xf, xt, xr⟩, s2⟩ := o
 simp only [] at hi HKo ⊢
 subst hi
 go_upto_region 2 with (go_at_call 55; refine (HCl.out).mono ?_; rintro e w3 ⟨es3, clock3, KS3, o3, c3, rfl, g1, g2, g3⟩; simp only [gtv, gcs] at g1 g2 ⊢; have G1 := Lib.hid g1; have G2 := Lib.hid g2; have G3 := Lib.hid (PF.trans (PF.below (K := K) (m := m) HB1.out) g3); have GZ := Lib.hid (hrow.pf H1.out g3 HZ0.out (by decide)); have GX := Lib.hid (hrow.pf H1.out g3 HX0.out (by decide)); clear g1 g2 g3)
 obtain ⟨HAl, H7⟩ := box1 w3 #[.bool false, .int .i64 xe, .int .i64 xf, .slice o3 xt.length c3] 100
 have L1 := Lib.hid (G1.out.below HAl.out)
 have L2 := Lib.hid (G2.out.step (.below HAl.out))
 have L3 := Lib.hid (PF.trans G3.out (PF.below HAl.out))
 have LZ := Lib.hid (GZ.out.below HAl.out)
 have LX := Lib.hid (GX.out.below HAl.out)
 have HL7 : Hid (h0 < w3.heap.size) := GZ.out.lt
 clear G1 G2 G3 GZ GX HAl x0 x1 x2 x3 x4 x5 x6 x7 x8 k0 HCl HX0 HZ0 H1 HB1 H
 revert H7 L1 L2 L3 LZ LX HL7
 generalize w3.alloc _ = w4
 generalize w3.heap.size = h7
 intro H7 L1 L2 L3 LZ LX HL7
 obtain ⟨e0, e1, e2, e3⟩ := (H7.out).c4
 have x0 : w4.cell? ⟨hx, 0, none⟩ = some (.int .i64 11) := LX.out.cell 0
 have hlo : -1 ≤ xf := HPo.out.rs.lo
 have HTx : Hid (triR ⟨true, p, -1, [], 0⟩ xf = ⟨true, p, xf, [], 0⟩) := by
  show triR _ _ = _
  simp only [triR]
  congr 1
  omega
 have HTr := Lib.hid (fun w' => ptried_any w' (toR p) none 0 xf)
 have hn7 : h7 ≠ h0 := by have := HL7.out; omega
 clear hlo
 go_upto_region 6 with (fail)
 have HD0 := Lib.hid ((Below.refl w4.heap.size w4).drew)
 go_region_held3 (fun w' => w'.cell? ⟨h7, 2, none⟩ = some (.int .i64 xf))
  (first | (with_reducible exact set4_cell0 K1.out hn7) | (with_reducible exact K1.out) | (with_reducible exact J1.out) | go_keep)
  ((first
   | (go_at_call 94; refine (pto_any _ p).mono ?_; rintro e w5 ⟨rfl, hb5⟩; have HB5 := Lib.hid (HD0.out.trans (hb5.mono HD0.out.size)); have J1 : Hid (w5.cell? ⟨h7, 2, none⟩ = some (.int .i64 xf)) := (H7.out.below HB5.out).cell 2; clear hb5; simp only [gtv, gcs, toR, List.length_nil])
   | (go_at_call 95; refine (HTr.out _).mono ?_; rintro e w6 ⟨rfl, hb6⟩; have HB6 := Lib.hid (HB5.out.trans (hb6.mono HB5.out.size)); clear hb6; simp only [toR]; rw [HTx.out]; simp only [gtv, gcs, List.length_nil]; have K1 : Hid (w6.cell? ⟨h7, 2, none⟩ = some (.int .i64 xf)) := (H7.out.below HB6.out).cell 2; have HZ6 := Lib.hid (LZ.out.below HB6.out); obtain ⟨zq0, zq1, zq2, zq3⟩ := (HZ6.out).c4; obtain ⟨zf0, zf1, zf2⟩ := (HZ6.out).f3; have zf3 := (HZ6.out).frozen 3)))
 obtain ⟨ZR4, ZF4⟩ := set4_box (.bool true) (.int .i64 p) (.int .i64 xf) (.slice none 0 0) (HZ6.out)
 revert ZR4 ZF4
 generalize (((w6.setCell _ _).setCell _ _).setCell _ _).setCell _ _ = wz
 intro ZR4 ZF4
 obtain ⟨zc0, zc1, zc2, zc3⟩ := (ZR4.out).c4
 go_wp2_with fail
 exact bodyPost_ret (v := .agg #[.bool true, .int .i64 p, .int .i64 xf, .slice none 0 0]) (by simp [results, Try.results84, go_sem, zc0, zc1, zc2, zc3]) rfl (⟨es3, clock3, KS3, none, 0, rfl, TW.boxed (L1.out.below HB6.out) HZ6.out (by have := HH0.out; have := HLo.out; omega) ZF4.out, TrW.gbox (TrW.nil _) HZ6.out ZF4.out, PF.new (PF.trans L3.out (PF.below HB6.out)) ZF4.out (fun k e => by have e' : k = h0 := e; have := HH0.out; omega)⟩)
theorem pone12y (K : Env) (hK : EnvOk K) (m : Nat) (w : World) (s : St) (es : Array MapEntry) (clock : Nat) (KS : List (Ce × (Option Addr × Nat))) (p : Nat) (x : Nd) (ko : Option Addr) (kc : Nat)
  (h : TW K m w s es clock KS) (hp : p ≤ K.W.length) (f : Nat) (hN : NdC K m f) (hc : Cap f s) (hs : StOk K.G.rules.length K.W.length s) (hov : s.over = false) (hkd : Sv K.base ko x.kids.length kc 1 (inc x.kids)) (hks : ∀ k ∈ x.kids, 0 ≤ k ∧ k < K.G.nodes.length) (kk : Nat) (HKi : Hid (x.kids = [(kk : Int)])) (hfin : (ev K.G K.W f s kk p).2.over = false) (hi : (ev K.G K.W f s kk p).1.is = true) :
  Calls Try.prog 84 #[.pointer (some ⟨K.g, 0, none⟩), .agg #[.int .i64 12, .int .u64 x.c0, .int .u64 x.c1, .int .u64 x.c2, .int .u64 x.c3, .string x.text, .int .i64 x.rule, .int .i64 x.lev, .slice ko x.kids.length kc], .int .i64 p] w (PEnd K m w (⟨true, p, (ev K.G K.W f s kk p).1.far, [], 0⟩, (ev K.G K.W f s kk p).2)) := by
 have HFin := Lib.hid hfin
 clear hfin
 have HN := Lib.hid hN
 have HC := Lib.hid hc
 have HS := Lib.hid hs
 have HOv := Lib.hid hov
 have HKd := Lib.hid hkd
 have HKs := Lib.hid hks
 have hkb := hkd.bound
 clear hN hc hs hov hkd hks
 have H := Lib.hid h
 have HP := Lib.hid hp
 have hpb : p ≤ 2048 := by have := hK.w2; have := hK.wl; omega
 have hwl := hK.wl
 have hwb := hK.inp.bound
 have hww := hK.w2
 obtain ⟨HB0, HX0, HZ0⟩ := box2 w #[.int .i64 12, .int .u64 x.c0, .int .u64 x.c1, .int .u64 x.c2, .int .u64 x.c3, .string x.text, .int .i64 x.rule, .int .i64 x.lev, .slice ko x.kids.length kc] #[.bool false, .int .i64 0, .int .i64 0, .slice none 0 0] 57 100
 have H1 := Lib.hid (h.below HB0.out)
 have HLo : Hid (K.base.heap.size ≤ w.heap.size) := h.low.size
 clear h hp
 go_enter Try.func84, Try.ntmps84
 go_upto_region 1 with (fail)
 revert HB0 HX0 HZ0 H1
 generalize (w.alloc _).alloc _ = w1
 generalize hh0 : w.heap.size + 1 = h0
 generalize hhx : w.heap.size = hx
 intro HB0 HX0 HZ0 H1
 have HH0 : Hid (w.heap.size = hx ∧ hx + 1 = h0) := ⟨hhx, by omega⟩
 have HB1 : Hid (Below w.heap.size w w1) := by rw [hhx]; exact HB0.out
 clear HB0 hh0 hhx
 obtain ⟨x0, x1, x2, x3, x4, x5, x6, x7, x8⟩ := (HX0.out).c9
 have hkn : kk < K.G.nodes.length := by have := HKs.out kk (by rw [HKi.out]; simp); omega
 have hl1 : x.kids.length = 1 := by rw [HKi.out]; rfl
 obtain ⟨ka, hka, hkc⟩ := HKd.out.cell 0 (by simp [inc, HKi.out])
 have hkc' : K.base.cell? ka = some (.int .i64 kk) := by
  have e : ka.add 0 = ka := by unfold Addr.add; simp
  rw [e] at hkc
  rw [hkc]; simp [inc, HKi.out]
 have HKc := Lib.hid hkc'
 subst hka
 rw [hl1] at HX0 x8 hkb
 clear hkc hkc' hl1 HKd
 have HKo := Lib.hid HFin.out
 have HPo := Lib.hid (ev_ok (W := K.W) hK.ok f s kk p HS.out hkn HP.out)
 have HCl := Lib.hid (HN.out w1 s es clock KS kk p H1.out HC.out HS.out HOv.out hkn HP.out HKo.out)
 have k0 : w1.cell? ka = some (.int .i64 kk) := (H1.out.low.cell (World.block_lt_of_cell? _ _ HKc.out)).trans HKc.out
 generalize ev K.G K.W f s kk p = o at *
 obtain ⟨⟨xi, xe, xf, xt, xr⟩, s2⟩ := o
 simp only [] at hi HKo ⊢
 subst hi
 go_upto_region 2 with (go_at_call 55; refine (HCl.out).mono ?_; rintro e w3 ⟨es3, clock3, KS3, o3, c3, rfl, g1, g2, g3⟩; simp only [gtv, gcs] at g1 g2 ⊢; have G1 := Lib.hid g1; have G2 := Lib.hid g2; have G3 := Lib.hid (PF.trans (PF.below (K := K) (m := m) HB1.out) g3); have GZ := Lib.hid (hrow.pf H1.out g3 HZ0.out (by decide)); have GX := Lib.hid (hrow.pf H1.out g3 HX0.out (by decide)); clear g1 g2 g3)
 obtain ⟨HAl, H7⟩ := box1 w3 #[.bool true, .int .i64 xe, .int .i64 xf, .slice o3 xt.length c3] 100
 have L1 := Lib.hid (G1.out.below HAl.out)
 have L2 := Lib.hid (G2.out.step (.below HAl.out))
 have L3 := Lib.hid (PF.trans G3.out (PF.below HAl.out))
 have LZ := Lib.hid (GZ.out.below HAl.out)
 have LX := Lib.hid (GX.out.below HAl.out)
 have HL7 : Hid (h0 < w3.heap.size) := GZ.out.lt
 clear G1 G2 G3 GZ GX HAl x0 x1 x2 x3 x4 x5 x6 x7 x8 k0 HCl HX0 HZ0 H1 HB1 H
 revert H7 L1 L2 L3 LZ LX HL7
 generalize w3.alloc _ = w4
 generalize w3.heap.size = h7
 intro H7 L1 L2 L3 LZ LX HL7
 obtain ⟨e0, e1, e2, e3⟩ := (H7.out).c4
 have x0 : w4.cell? ⟨hx, 0, none⟩ = some (.int .i64 12) := LX.out.cell 0
 have hlo : -1 ≤ xf := HPo.out.rs.lo
 have HTx : Hid (triR ⟨true, p, -1, [], 0⟩ xf = ⟨true, p, xf, [], 0⟩) := by
  show triR _ _ = _
  simp only [triR]
  congr 1
  omega
 have HTr := Lib.hid (fun w' => ptried_any w' (toR p) none 0 xf)
 have hn7 : h7 ≠ h0 := by have := HL7.out; omega
 clear hlo
 go_upto_region 6 with (fail)
 have HD0 := Lib.hid ((Below.refl w4.heap.size w4).drew)
 go_region_held3 (fun w' => w'.cell? ⟨h7, 2, none⟩ = some (.int .i64 xf))
  (first | (with_reducible exact set4_cell0 K1.out hn7) | (with_reducible exact K1.out) | (with_reducible exact J1.out) | go_keep)
  ((first
   | (go_at_call 94; refine (pto_any _ p).mono ?_; rintro e w5 ⟨rfl, hb5⟩; have HB5 := Lib.hid (HD0.out.trans (hb5.mono HD0.out.size)); have J1 : Hid (w5.cell? ⟨h7, 2, none⟩ = some (.int .i64 xf)) := (H7.out.below HB5.out).cell 2; clear hb5; simp only [gtv, gcs, toR, List.length_nil])
   | (go_at_call 95; refine (HTr.out _).mono ?_; rintro e w6 ⟨rfl, hb6⟩; have HB6 := Lib.hid (HB5.out.trans (hb6.mono HB5.out.size)); clear hb6; simp only [toR]; rw [HTx.out]; simp only [gtv, gcs, List.length_nil]; have K1 : Hid (w6.cell? ⟨h7, 2, none⟩ = some (.int .i64 xf)) := (H7.out.below HB6.out).cell 2; have HZ6 := Lib.hid (LZ.out.below HB6.out); obtain ⟨zq0, zq1, zq2, zq3⟩ := (HZ6.out).c4; obtain ⟨zf0, zf1, zf2⟩ := (HZ6.out).f3; have zf3 := (HZ6.out).frozen 3)))
 obtain ⟨ZR4, ZF4⟩ := set4_box (.bool true) (.int .i64 p) (.int .i64 xf) (.slice none 0 0) (HZ6.out)
 revert ZR4 ZF4
 generalize (((w6.setCell _ _).setCell _ _).setCell _ _).setCell _ _ = wz
 intro ZR4 ZF4
 obtain ⟨zc0, zc1, zc2, zc3⟩ := (ZR4.out).c4
 go_wp2_with fail
 exact bodyPost_ret (v := .agg #[.bool true, .int .i64 p, .int .i64 xf, .slice none 0 0]) (by simp [results, Try.results84, go_sem, zc0, zc1, zc2, zc3]) rfl (⟨es3, clock3, KS3, none, 0, rfl, TW.boxed (L1.out.below HB6.out) HZ6.out (by have := HH0.out; have := HLo.out; omega) ZF4.out, TrW.gbox (TrW.nil _) HZ6.out ZF4.out, PF.new (PF.trans L3.out (PF.below HB6.out)) ZF4.out (fun k e => by have e' : k = h0 := e; have := HH0.out; omega)⟩)
theorem pone12n (K : Env) (hK : EnvOk K) (m : Nat) (w : World) (s : St) (es : Array MapEntry) (clock : Nat) (KS : List (Ce × (Option Addr × Nat))) (p : Nat) (x : Nd) (ko : Option Addr) (kc : Nat)
  (h : TW K m w s es clock KS) (hp : p ≤ K.W.length) (f : Nat) (hN : NdC K m f) (hc : Cap f s) (hs : StOk K.G.rules.length K.W.length s) (hov : s.over = false) (hkd : Sv K.base ko x.kids.length kc 1 (inc x.kids)) (hks : ∀ k ∈ x.kids, 0 ≤ k ∧ k < K.G.nodes.length) (kk : Nat) (HKi : Hid (x.kids = [(kk : Int)])) (hfin : (ev K.G K.W f s kk p).2.over = false) (hi : (ev K.G K.W f s kk p).1.is = false) :
  Calls Try.prog 84 #[.pointer (some ⟨K.g, 0, none⟩), .agg #[.int .i64 12, .int .u64 x.c0, .int .u64 x.c1, .int .u64 x.c2, .int .u64 x.c3, .string x.text, .int .i64 x.rule, .int .i64 x.lev, .slice ko x.kids.length kc], .int .i64 p] w (PEnd K m w (failR (ev K.G K.W f s kk p).1.far, (ev K.G K.W f s kk p).2)) := by
 have HFin := Lib.hid hfin
 clear hfin
 have HN := Lib.hid hN
 have HC := Lib.hid hc
 have HS := Lib.hid hs
 have HOv := Lib.hid hov
 have HKd := Lib.hid hkd
 have HKs := Lib.hid hks
 have hkb := hkd.bound
 clear hN hc hs hov hkd hks
 have H := Lib.hid h
 have HP := Lib.hid hp
 have hpb : p ≤ 2048 := by have := hK.w2; have := hK.wl; omega
 have hwl := hK.wl
 have hwb := hK.inp.bound
 have hww := hK.w2
 obtain ⟨HB0, HX0, HZ0⟩ := box2 w #[.int .i64 12, .int .u64 x.c0, .int .u64 x.c1, .int .u64 x.c2, .int .u64 x.c3, .string x.text, .int .i64 x.rule, .int .i64 x.lev, .slice ko x.kids.length kc] #[.bool false, .int .i64 0, .int .i64 0, .slice none 0 0] 57 100
 have H1 := Lib.hid (h.below HB0.out)
 have HLo : Hid (K.base.heap.size ≤ w.heap.size) := h.low.size
 clear h hp
 go_enter Try.func84, Try.ntmps84
 go_upto_region 1 with (fail)
 revert HB0 HX0 HZ0 H1
 generalize (w.alloc _).alloc _ = w1
 generalize hh0 : w.heap.size + 1 = h0
 generalize hhx : w.heap.size = hx
 intro HB0 HX0 HZ0 H1
 have HH0 : Hid (w.heap.size = hx ∧ hx + 1 = h0) := ⟨hhx, by omega⟩
 have HB1 : Hid (Below w.heap.size w w1) := by rw [hhx]; exact HB0.out
 clear HB0 hh0 hhx
 obtain ⟨x0, x1, x2, x3, x4, x5, x6, x7, x8⟩ := (HX0.out).c9
 have hkn : kk < K.G.nodes.length := by have := HKs.out kk (by rw [HKi.out]; simp); omega
 have hl1 : x.kids.length = 1 := by rw [HKi.out]; rfl
 obtain ⟨ka, hka, hkc⟩ := HKd.out.cell 0 (by simp [inc, HKi.out])
 have hkc' : K.base.cell? ka = some (.int .i64 kk) := by
  have e : ka.add 0 = ka := by unfold Addr.add; simp
  rw [e] at hkc
  rw [hkc]; simp [inc, HKi.out]
 have HKc := Lib.hid hkc'
 subst hka
 rw [hl1] at HX0 x8 hkb
 clear hkc hkc' hl1 HKd
 have HKo := Lib.hid HFin.out
 have HPo := Lib.hid (ev_ok (W := K.W) hK.ok f s kk p HS.out hkn HP.out)
 have HCl := Lib.hid (HN.out w1 s es clock KS kk p H1.out HC.out HS.out HOv.out hkn HP.out HKo.out)
 have k0 : w1.cell? ka = some (.int .i64 kk) := (H1.out.low.cell (World.block_lt_of_cell? _ _ HKc.out)).trans HKc.out
 generalize ev K.G K.W f s kk p = o at *
 obtain ⟨⟨xi, xe, xf, xt, xr⟩, s2⟩ := o
 simp only [] at hi HKo ⊢
 subst hi
 go_upto_region 2 with (go_at_call 55; refine (HCl.out).mono ?_; rintro e w3 ⟨es3, clock3, KS3, o3, c3, rfl, g1, g2, g3⟩; simp only [gtv, gcs] at g1 g2 ⊢; have G1 := Lib.hid g1; have G2 := Lib.hid g2; have G3 := Lib.hid (PF.trans (PF.below (K := K) (m := m) HB1.out) g3); have GZ := Lib.hid (hrow.pf H1.out g3 HZ0.out (by decide)); have GX := Lib.hid (hrow.pf H1.out g3 HX0.out (by decide)); clear g1 g2 g3)
 obtain ⟨HAl, H7⟩ := box1 w3 #[.bool false, .int .i64 xe, .int .i64 xf, .slice o3 xt.length c3] 100
 have L1 := Lib.hid (G1.out.below HAl.out)
 have L2 := Lib.hid (G2.out.step (.below HAl.out))
 have L3 := Lib.hid (PF.trans G3.out (PF.below HAl.out))
 have LZ := Lib.hid (GZ.out.below HAl.out)
 have LX := Lib.hid (GX.out.below HAl.out)
 have HL7 : Hid (h0 < w3.heap.size) := GZ.out.lt
 clear G1 G2 G3 GZ GX HAl x0 x1 x2 x3 x4 x5 x6 x7 x8 k0 HCl HX0 HZ0 H1 HB1 H
 revert H7 L1 L2 L3 LZ LX HL7
 generalize w3.alloc _ = w4
 generalize w3.heap.size = h7
 intro H7 L1 L2 L3 LZ LX HL7
 obtain ⟨e0, e1, e2, e3⟩ := (H7.out).c4
 have x0 : w4.cell? ⟨hx, 0, none⟩ = some (.int .i64 12) := LX.out.cell 0
 go_wp2_with fail
 refine (pmiss_any w4 xf).mono ?_
 rintro e w6 ⟨rfl, hb6⟩
 simp only [gtv, gcs, failR, List.length_nil]
 have HZ6 := Lib.hid (LZ.out.below hb6)
 have HB6 := Lib.hid hb6
 clear hb6
 obtain ⟨zq0, zq1, zq2, zq3⟩ := (HZ6.out).c4
 obtain ⟨zf0, zf1, zf2, zf3⟩ := (HZ6.out).f4
 obtain ⟨ZR4, ZF4⟩ := set4_box (.bool false) (.int .i64 0) (.int .i64 xf) (.slice none 0 0) (HZ6.out)
 go_wp2_with fail
 revert ZR4 ZF4
 generalize (((w6.setCell _ _).setCell _ _).setCell _ _).setCell _ _ = wz
 intro ZR4 ZF4
 obtain ⟨zc0, zc1, zc2, zc3⟩ := (ZR4.out).c4
 exact bodyPost_ret (v := .agg #[.bool false, .int .i64 0, .int .i64 xf, .slice none 0 0]) (by simp [results, Try.results84, go_sem, zc0, zc1, zc2, zc3]) rfl (⟨es3, clock3, KS3, none, 0, rfl, TW.boxed (L1.out.below HB6.out) HZ6.out (by have := HH0.out; have := HLo.out; omega) ZF4.out, TrW.gbox (TrW.nil _) HZ6.out ZF4.out, PF.new (PF.trans L3.out (PF.below HB6.out)) ZF4.out (fun k e => by have e' : k = h0 := e; have := HH0.out; omega)⟩)
end Go.Proofs.Ytdnkffplkleolaa
namespace Go.Proofs.Ytdnkffplkleolaa
open Go.RowKit Go.ChangeMaps
set_option maxRecDepth 100000
set_option maxHeartbeats 1000000

theorem TW.same {K : Env} {m : Nat} {w : World} {s s' : St} {es : Array MapEntry} {clock : Nat} {KS : List (Ce × (Option Addr × Nat))} (h : TW K m w s es clock KS) (hc : s'.cells = s.cells) (hr : s'.round = s.round) : TW K m w s' es clock KS :=
 ⟨by rw [hr]; exact h.obj, h.map, h.low, h.hm, by rw [hc]; exact h.eq, h.ent, h.trees⟩
theorem leaf_end {K : Env} {m : Nat} {w : World} {s : St} {es : Array MapEntry} {clock : Nat} {KS : List (Ce × (Option Addr × Nat))} {r : Rs} {fn : FuncId} {args : Array Value} (h : TW K m w s es clock KS) (ht : r.tree = []) (hc : Calls Try.prog fn args w fun e w' => e = .returned (gtv r none 0) ∧ Below w.heap.size w w') :
  Calls Try.prog fn args w (PEnd K m w (r, s)) :=
 hc.mono fun e w' ⟨he, hb⟩ => ⟨es, clock, KS, none, 0, he, h.below hb, by show TrW w' none 0 r.tree; rw [ht]; exact TrW.nil _, PF.below hb⟩

theorem pnode_round (K : Env) (m : Nat) (w : World) (s : St) (es : Array MapEntry) (clock : Nat) (KS : List (Ce × (Option Addr × Nat))) (n p : Nat) (h : TW K m w s es clock KS) (hrd : s.round = true) :
  Calls Try.prog 55 #[.pointer (some ⟨K.g, 0, none⟩), .int .i64 n, .int .i64 p] w (PEnd K m w (failR (-1), s)) := by
 have HRd := Lib.hid hrd
 obtain ⟨HB0, HZ0⟩ := box1 w #[.bool false, .int .i64 0, .int .i64 0, .slice none 0 0] 100
 have H1 := Lib.hid (h.below HB0.out)
 have HLo : Hid (K.base.heap.size ≤ w.heap.size) := h.low.size
 clear h hrd
 go_enter Try.func55, Try.ntmps55
 go_upto_region 1 with (fail)
 revert HB0 HZ0 H1
 generalize w.alloc _ = w1
 generalize hh0 : w.heap.size = h0
 intro HB0 HZ0 H1
 have HH0 := Lib.hid hh0
 have HF1 : Hid (PF K m w w1) := PF.below (hh0 ▸ HB0.out)
 clear HB0 hh0
 have p1 : w1.cell? ⟨K.g, 1, none⟩ = some (.bool true) := by rw [← HRd.out]; exact H1.out.obj.cell 1
 go_wp2_with fail
 refine (pmiss_any w1 (-1)).mono ?_
 rintro e w6 ⟨rfl, hb6⟩
 simp only [gtv, gcs, failR, List.length_nil]
 have HZ6 := Lib.hid (HZ0.out.below hb6)
 have HB6 := Lib.hid hb6
 clear hb6
 obtain ⟨zq0, zq1, zq2, zq3⟩ := (HZ6.out).c4
 obtain ⟨zf0, zf1, zf2, zf3⟩ := (HZ6.out).f4
 obtain ⟨ZR4, ZF4⟩ := set4_box (.bool false) (.int .i64 0) (.int .i64 (-1)) (.slice none 0 0) (HZ6.out)
 go_wp2_with fail
 revert ZR4 ZF4
 generalize (((w6.setCell _ _).setCell _ _).setCell _ _).setCell _ _ = wz
 intro ZR4 ZF4
 obtain ⟨zc0, zc1, zc2, zc3⟩ := (ZR4.out).c4
 exact bodyPost_ret (v := .agg #[.bool false, .int .i64 0, .int .i64 (-1), .slice none 0 0]) (by simp [results, Try.results55, go_sem, zc0, zc1, zc2, zc3]) rfl (⟨es, clock, KS, none, 0, rfl, TW.boxed (H1.out.below HB6.out) HZ6.out (by have := HH0.out; have := HLo.out; omega) ZF4.out, TrW.gbox (TrW.nil _) HZ6.out ZF4.out, PF.new (PF.trans HF1.out (PF.below HB6.out)) ZF4.out (fun k e => by have e' : k = h0 := e; have := HH0.out; omega)⟩)
theorem txt_tree (W : List Nat) (s : ByteArray) (p : Nat) : (txtR W s p).tree = [] := by
 unfold txtR
 split <;> rfl
theorem pnode_any (K : Env) (hK : EnvOk K) (m : Nat) (f : Nat) (hN : NdC K m f) (w : World) (cs : List Ce) (L : Nat) (es : Array MapEntry) (clock : Nat) (KS : List (Ce × (Option Addr × Nat))) (n p : Nat) (x : Nd) (h : TW K m w ⟨cs, false, L, false⟩ es clock KS) (hc : L ≤ f ∧ f + 1 ≤ 20000 ∧ cs.length + (L + 1) ≤ 20001)
  (hs : StOk K.G.rules.length K.W.length ⟨cs, false, L, false⟩) (hx : K.G.nodes[n]? = some x) (hp : p ≤ K.W.length) (hfin : (kindR (ev K.G K.W f) K.G K.W x p ⟨cs, false, L, false⟩).2.over = false) :
  Calls Try.prog 55 #[.pointer (some ⟨K.g, 0, none⟩), .int .i64 n, .int .i64 p] w (PEnd K m w (kindR (ev K.G K.W f) K.G K.W x p ⟨cs, false, L, false⟩)) := by
 have hno := hK.ok.nod n x hx
 have hkd := node_kind hno
 have hcx := hK.ok.cls x (List.mem_of_getElem? hx)
 have hks := hK.ok.kid n x hx
 have hks' : ∀ k ∈ x.kids, 0 ≤ k ∧ k < (2048 : Int) := fun k hk => by have := hks k hk; have := hK.ok.nl; omega
 have hCap : Cap f ⟨cs, false, L, false⟩ := ⟨hc.1, by omega, by simp only []; omega⟩
 have htx : x.text.size ≤ 9223372036854775807 := by
  obtain ⟨_, _, _, _, _, _, h, _⟩ := RW.node hK hx
  exact h
 revert hfin
 unfold kindR
 by_cases h1 : x.kind = 1
 ·rw [if_pos h1]; intro _
  exact pnode1 K hK m w _ es clock KS n p x h rfl hx h1 _ (fun W' ko kc hw _ => leaf_end hw rfl (pbyte1 K hK m W' _ es clock KS p x ko kc hw hp))
 rw [if_neg h1]
 by_cases h2 : x.kind = 2
 ·rw [if_pos h2]; intro _
  unfold anyR
  by_cases hl : p < K.W.length
  ·rw [if_pos hl]; exact pnode2 K hK m w _ es clock KS n p x h rfl hx h2 _ (fun W' ko kc hw _ => leaf_end hw rfl (pbyte2y K hK m W' _ es clock KS p x ko kc hw hp hl))
  ·rw [if_neg hl]; exact pnode2 K hK m w _ es clock KS n p x h rfl hx h2 _ (fun W' ko kc hw _ => leaf_end hw rfl (pbyte2n K hK m W' _ es clock KS p x ko kc hw hp (by omega)))
 rw [if_neg h2]
 by_cases h3 : x.kind = 3
 ·rw [if_pos h3]; intro _
  unfold setR
  cases hb : K.W[p]? with
  | none => exact pnode3 K hK m w _ es clock KS n p x h rfl hx h3 _ (fun W' ko kc hw _ => leaf_end hw rfl (pbyte3e K hK m W' _ es clock KS p x ko kc hw hp (by have := List.getElem?_eq_none_iff.1 hb; omega)))
  | some b =>
   simp only []
   rw [hasB_inW hcx]
   cases hi : inW (wo x) b with
   | true => rw [if_pos rfl]; exact pnode3 K hK m w _ es clock KS n p x h rfl hx h3 _ (fun W' ko kc hw _ => leaf_end hw rfl (pbyte3y K hK m W' _ es clock KS p x ko kc hw hp b hb hi hcx))
   | false => rw [if_neg Bool.false_ne_true]; exact pnode3 K hK m w _ es clock KS n p x h rfl hx h3 _ (fun W' ko kc hw _ => leaf_end hw rfl (pbyte3n K hK m W' _ es clock KS p x ko kc hw hp b hb hi hcx))
 rw [if_neg h3]
 by_cases h4 : x.kind = 4
 ·rw [if_pos h4]; intro _
  exact pnode4 K hK m w _ es clock KS n p x h rfl hx h4 _ (fun W' ko kc hw _ => leaf_end hw (txt_tree _ _ _) (ptext K hK m W' _ es clock KS p x ko kc hw hp (node_text hno h4)))
 rw [if_neg h4]
 by_cases h5 : x.kind = 5
 ·rw [if_pos h5]; intro hfin
  have hr := node_call hno h5
  exact pnode5 K hK m w _ es clock KS n p x h rfl hx h5 _ (fun W' ko kc hw _ => pcall K hK m W' _ es clock KS p x ko kc hw hp x.rule.toNat (by unfold Hid; omega) _ (fun W'' hw' => prule_any K hK m W'' _ es clock KS x.rule.toNat p hw' f hN hc.1 (by omega) (by simp only []; omega) hs rfl (by omega) hp hfin))
 rw [if_neg h5]
 by_cases h6 : x.kind = 6
 ·rw [if_pos h6]; intro hfin
  exact pnode6 K hK m w _ es clock KS n p x h rfl hx h6 _ (fun W' ko kc hw hkd => pseq K hK m W' _ es clock KS p x ko kc hw hp f hN hCap hs rfl hkd hks hfin)
 rw [if_neg h6]
 by_cases h7 : x.kind = 7
 ·rw [if_pos h7]; intro hfin
  exact pnode7 K hK m w _ es clock KS n p x h rfl hx h7 _ (fun W' ko kc hw hkd => palt K hK m W' _ es clock KS p x ko kc hw hp f hN hCap hs rfl hkd hks hfin)
 rw [if_neg h7]
 obtain ⟨kk, hkk, hh⟩ := kid_list hno (by omega) hks'
 rw [hh]
 by_cases h8 : x.kind = 8
 ·rw [if_pos h8]; intro hfin
  exact pnode8 K hK m w _ es clock KS n p x h rfl hx h8 _ (fun W' ko kc hw hkd => prep8 K hK m W' _ es clock KS p x ko kc hw hp f hN hCap hs rfl hkd hks kk hkk hfin)
 rw [if_neg h8]
 by_cases h9 : x.kind = 9
 ·rw [if_pos h9]
  cases hi : (ev K.G K.W f ⟨cs, false, L, false⟩ kk p).1.is with
  | true =>
   rw [if_pos rfl]; intro hfin
   exact pnode9 K hK m w _ es clock KS n p x h rfl hx h9 _ (fun W' ko kc hw hkd => prep9y K hK m W' _ es clock KS p x ko kc hw hp f hN hCap hs rfl hkd hks kk hkk hfin hi)
  | false =>
   rw [if_neg Bool.false_ne_true]; intro hfin
   exact pnode9 K hK m w _ es clock KS n p x h rfl hx h9 _ (fun W' ko kc hw hkd => prep9n K hK m W' _ es clock KS p x ko kc hw hp f hN hCap hs rfl hkd hks kk hkk hfin hi)
 rw [if_neg h9]
 by_cases h10 : x.kind = 10
 ·rw [if_pos h10]
  cases hi : (ev K.G K.W f ⟨cs, false, L, false⟩ kk p).1.is with
  | true =>
   rw [if_pos rfl]; intro hfin
   exact pnode10 K hK m w _ es clock KS n p x h rfl hx h10 _ (fun W' ko kc hw hkd => pone10y K hK m W' _ es clock KS p x ko kc hw hp f hN hCap hs rfl hkd hks kk hkk hfin hi)
  | false =>
   rw [if_neg Bool.false_ne_true]; intro hfin
   exact pnode10 K hK m w _ es clock KS n p x h rfl hx h10 _ (fun W' ko kc hw hkd => pone10n K hK m W' _ es clock KS p x ko kc hw hp f hN hCap hs rfl hkd hks kk hkk hfin hi)
 rw [if_neg h10]
 by_cases h11 : x.kind = 11
 ·have hd : decide (x.kind = 12) = false := by rw [h11]; rfl
  rw [hd]
  cases hi : (ev K.G K.W f ⟨cs, false, L, false⟩ kk p).1.is with
  | true =>
   rw [if_neg (by decide)]; intro hfin
   exact pnode11 K hK m w _ es clock KS n p x h rfl hx h11 _ (fun W' ko kc hw hkd => pone11y K hK m W' _ es clock KS p x ko kc hw hp f hN hCap hs rfl hkd hks kk hkk hfin hi)
  | false =>
   rw [if_pos rfl]; intro hfin
   exact pnode11 K hK m w _ es clock KS n p x h rfl hx h11 _ (fun W' ko kc hw hkd => pone11n K hK m W' _ es clock KS p x ko kc hw hp f hN hCap hs rfl hkd hks kk hkk hfin hi)
 ·have h12 : x.kind = 12 := by omega
  have hd : decide (x.kind = 12) = true := by rw [h12]; rfl
  rw [hd]
  cases hi : (ev K.G K.W f ⟨cs, false, L, false⟩ kk p).1.is with
  | true =>
   rw [if_pos rfl]; intro hfin
   exact pnode12 K hK m w _ es clock KS n p x h rfl hx h12 _ (fun W' ko kc hw hkd => pone12y K hK m W' _ es clock KS p x ko kc hw hp f hN hCap hs rfl hkd hks kk hkk hfin hi)
  | false =>
   rw [if_neg (by decide)]; intro hfin
   exact pnode12 K hK m w _ es clock KS n p x h rfl hx h12 _ (fun W' ko kc hw hkd => pone12n K hK m W' _ es clock KS p x ko kc hw hp f hN hCap hs rfl hkd hks kk hkk hfin hi)
theorem peval (K : Env) (hK : EnvOk K) (m : Nat) : ∀ f, NdC K m f
 | 0, w, s, es, clock, KS, n, p, h, hc, hs, ho, hn, hp, hfin => by
  rw [ev] at hfin
  cases hfin
 | f + 1, w, ⟨cs, rd, L, ov⟩, es, clock, KS, n, p, h, hc, hs, ho, hn, hp, hfin => by
  have ho' : ov = false := ho
  subst ho'
  rw [ev] at hfin ⊢
  cases L with
  | zero =>
   rw [if_pos (.inr rfl)] at hfin
   cases hfin
  | succ L =>
   cases rd
   ·rw [if_neg (by simp [over1]), List.getElem?_eq_getElem hn] at hfin ⊢
    have h1 : L + 1 ≤ f + 1 := hc.left
    have h2 := hc.cnt
    simp only [] at h2
    exact pnode_any K hK m f (peval K hK m f) w cs L es clock KS n p _ (h.same rfl rfl) ⟨by omega, hc.top, h2⟩ (hs.up rfl id) (List.getElem?_eq_getElem hn) hp hfin
   ·rw [if_pos (.inl rfl)]
    exact pnode_round K m w _ es clock KS n p (h.same rfl rfl) rfl
end Go.Proofs.Ytdnkffplkleolaa
