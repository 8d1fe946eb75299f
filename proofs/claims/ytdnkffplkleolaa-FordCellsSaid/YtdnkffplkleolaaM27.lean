/- Walks and plain laws: Tk Tl. -/
import Derived.Test.YtdnkffplkleolaaM24
import Derived.Test.YtdnkffplkleolaaM11
import Derived.Test.YtdnkffplkleolaaM15
namespace Go.Proofs.Ytdnkffplkleolaa
open Go.RowKit Go.ChangeMaps
set_option maxRecDepth 100000
set_option maxHeartbeats 2000000

theorem star_step {K : Env} {f n fu p : Nat} (hK : EnvOk K) {r : Rs} {s : St} {Z : Rs × St} (hn : n < K.G.nodes.length) (hs : StOk K.G.rules.length K.W.length s) (hr : RsOk K.W.length p r) (hi : r.is = true)
  (hZ : (if (ev K.G K.W f s n r.en).1.is = true ∧ (ev K.G K.W f s n r.en).1.en ≠ r.en then starR (ev K.G K.W f) n fu (beR r (ev K.G K.W f s n r.en).1) (ev K.G K.W f s n r.en).2 else (triR r (ev K.G K.W f s n r.en).1.far, (ev K.G K.W f s n r.en).2)) = Z) (hZo : Z.2.over = false) : (ev K.G K.W f s n r.en).2.over = false := by
 have hE := fun s n p => ev_ok (W := K.W) hK.ok f s n p
 have H := hE s n r.en hs hn (hr.yes hi).1
 cases ho : (ev K.G K.W f s n r.en).2.over with
 | false => rfl
 | true =>
  by_cases hx : (ev K.G K.W f s n r.en).1.is = true ∧ (ev K.G K.W f s n r.en).1.en ≠ r.en
  ·rw [if_pos hx] at hZ
   have h2 := starR_ok hE n hn fu p (beR r (ev K.G K.W f s n r.en).1) (ev K.G K.W f s n r.en).2 H.st (hr.be hi H.rs hx.1) rfl
   rw [hZ] at h2
   rw [h2.over ho] at hZo
   cases hZo
  ·rw [if_neg hx] at hZ
   rw [← hZ] at hZo
   simp only [] at hZo
   rw [ho] at hZo
   cases hZo
def PStarI (K : Env) (m f : Nat) (w : World) (p n : Nat) (Z : Rs × St) (M h7 h0 hx : Nat) (X : Array Value) (wr : World) : Prop :=
 ∃ r s es clock KS ao cap fu, hrow wr h7 #[.bool r.is, .int .i64 r.en, .int .i64 r.far, .slice ao r.tree.length cap] 100 ∧ hrow wr h0 #[.bool false, .int .i64 0, .int .i64 0, .slice none 0 0] 100 ∧ hrow wr hx X 57 ∧ TW K m wr s es clock KS ∧ TrW wr ao cap r.tree ∧ PF K m w wr ∧
  starR (ev K.G K.W f) n fu r s = Z ∧ StOk K.G.rules.length K.W.length s ∧ RsOk K.W.length p r ∧ r.is = true ∧ Cap f s ∧ r.tree.length + 2001 * s.left ≤ M ∧ s.over = false ∧ s.left < fu
def endOf (h7 : Nat) (w : World) : Nat := match w.cell? ⟨h7, 1, none⟩ with | some (.int _ n) => n.toNat | _ => 0
theorem endOf_eq {h7 : Nat} {w : World} {n : Nat} (h : w.cell? ⟨h7, 1, none⟩ = some (.int .i64 n)) : endOf h7 w = n := by
 unfold endOf
 rw [h]
 simp
/-- The result of a kid in a box of its own. -/
def PInBox (K : Env) (m : Nat) (wr : World) (o : Rs × St) (x : Value) (wx : World) : Prop :=
 ∃ h8 es clock KS ao cap, x = .pointer (some ⟨h8, 0, none⟩) ∧ hrow wx h8 #[.bool o.1.is, .int .i64 o.1.en, .int .i64 o.1.far, .slice ao o.1.tree.length cap] 100 ∧ wr.heap.size ≤ h8 ∧ TW K m wx o.2 es clock KS ∧ TrW wx ao cap o.1.tree ∧ PF K m wr wx
theorem PInBox.aft {K : Env} {m : Nat} {wr w3 : World} {xi : Bool} {xe : Nat} {xf : Int} {xt : List Tw} {xr : Nat} {s2 : St} {es : Array MapEntry} {clock : Nat} {KS3 : List (Ce × (Option Addr × Nat))} {o3 : Option Addr} {c3 : Nat} (G1 : TW K m w3 s2 es clock KS3) (G2 : TrW w3 o3 c3 xt) (G3 : PF K m wr w3) :
  PInBox K m wr (⟨xi, xe, xf, xt, xr⟩, s2) (.pointer (some ⟨w3.heap.size, 0, none⟩)) (w3.alloc (.cells #[.bool xi, .int .i64 xe, .int .i64 xf, .slice o3 xt.length c3] 100)) := by
 have hb : Below w3.heap.size w3 (w3.alloc (.cells #[.bool xi, .int .i64 xe, .int .i64 xf, .slice o3 xt.length c3] 100)) := (Below.refl _ _).alloc (Nat.le_refl _) _
 exact ⟨w3.heap.size, es, clock, KS3, o3, c3, rfl, hrow.new _ _ _, G3.size, G1.below hb, G2.step (.below hb), PF.trans G3 (PF.below hb)⟩
theorem PInBox.bef {K : Env} {m : Nat} {wr w3 : World} {xi : Bool} {xe : Nat} {xf : Int} {xt : List Tw} {xr : Nat} {s2 : St} {es : Array MapEntry} {clock : Nat} {KS3 : List (Ce × (Option Addr × Nat))} {o3 : Option Addr} {c3 : Nat} (G1 : TW K m w3 s2 es clock KS3) (G2 : TrW w3 o3 c3 xt) (G3 : PF K m wr w3) (GZ : hrow w3 wr.heap.size #[.bool false, .int .i64 0, .int .i64 0, .slice none 0 0] 100) (hl : K.base.heap.size ≤ wr.heap.size) :
  PInBox K m wr (⟨xi, xe, xf, xt, xr⟩, s2) (.pointer (some ⟨wr.heap.size, 0, none⟩)) ((((w3.setCell ⟨wr.heap.size, 0, none⟩ (.bool xi)).setCell ⟨wr.heap.size, 1, none⟩ (.int .i64 xe)).setCell ⟨wr.heap.size, 2, none⟩ (.int .i64 xf)).setCell ⟨wr.heap.size, 3, none⟩ (.slice o3 xt.length c3)) := by
 have hr := set4_row (.bool xi) (.int .i64 xe) (.int .i64 xf) (.slice o3 xt.length c3) GZ
 have hf := set4_fr w3 wr.heap.size (.bool xi) (.int .i64 xe) (.int .i64 xf) (.slice o3 xt.length c3)
 unfold set4 at hr hf
 exact ⟨wr.heap.size, es, clock, KS3, o3, c3, rfl, hr, Nat.le_refl _, G1.boxed GZ hl hf, G2.gbox GZ hf, PF.new G3 hf (fun k e => by have e' : k = wr.heap.size := e; omega)⟩

theorem prep8 (K : Env) (hK : EnvOk K) (m : Nat) (w : World) (s : St) (es : Array MapEntry) (clock : Nat) (KS : List (Ce × (Option Addr × Nat))) (p : Nat) (x : Nd) (ko : Option Addr) (kc : Nat)
  (h : TW K m w s es clock KS) (hp : p ≤ K.W.length) (f : Nat) (hN : NdC K m f) (hc : Cap f s) (hs : StOk K.G.rules.length K.W.length s) (hov : s.over = false) (hkd : Sv K.base ko x.kids.length kc 1 (inc x.kids)) (hks : ∀ k ∈ x.kids, 0 ≤ k ∧ k < K.G.nodes.length) (kk : Nat) (HKi : Hid (x.kids = [(kk : Int)])) (hfin : (starR (ev K.G K.W f) kk (s.left + 1) (toR p) s).2.over = false) :
  Calls Try.prog 83 #[.pointer (some ⟨K.g, 0, none⟩), .agg #[.int .i64 8, .int .u64 x.c0, .int .u64 x.c1, .int .u64 x.c2, .int .u64 x.c3, .string x.text, .int .i64 x.rule, .int .i64 x.lev, .slice ko x.kids.length kc], .int .i64 p] w (PEnd K m w (starR (ev K.G K.W f) kk (s.left + 1) (toR p) s)) := by
 have HFin := Lib.hid hfin
 clear hfin
 have HN := Lib.hid hN
 have HC := Lib.hid hc
 have HS := Lib.hid hs
 have HOv := Lib.hid hov
 have HKd := Lib.hid hkd
 have HKs := Lib.hid hks
 have hkb := hkd.bound
 clear hN hc hs hov hkd hks
 have H := Lib.hid h
 have HP := Lib.hid hp
 have hpb : p ≤ 2048 := by have := hK.w2; have := hK.wl; omega
 have hwl := hK.wl
 have hwb := hK.inp.bound
 have hww := hK.w2
 obtain ⟨HB0, HX0, HZ0⟩ := box2 w #[.int .i64 8, .int .u64 x.c0, .int .u64 x.c1, .int .u64 x.c2, .int .u64 x.c3, .string x.text, .int .i64 x.rule, .int .i64 x.lev, .slice ko x.kids.length kc] #[.bool false, .int .i64 0, .int .i64 0, .slice none 0 0] 57 100
 have H1 := Lib.hid (h.below HB0.out)
 have HLo : Hid (K.base.heap.size ≤ w.heap.size) := h.low.size
 clear h hp
 go_enter Try.func83, Try.ntmps83
 go_upto_region 1 with (fail)
 revert HB0 HX0 HZ0 H1
 generalize (w.alloc _).alloc _ = w1
 generalize hh0 : w.heap.size + 1 = h0
 generalize hhx : w.heap.size = hx
 intro HB0 HX0 HZ0 H1
 have HH0 : Hid (w.heap.size = hx ∧ hx + 1 = h0) := ⟨hhx, by omega⟩
 have HB1 : Hid (Below w.heap.size w w1) := by rw [hhx]; exact HB0.out
 clear HB0 hh0 hhx
 obtain ⟨x0, x1, x2, x3, x4, x5, x6, x7, x8⟩ := (HX0.out).c9
 have hkn : kk < K.G.nodes.length := by have := HKs.out kk (by rw [HKi.out]; simp); omega
 have hl1 : x.kids.length = 1 := by rw [HKi.out]; rfl
 obtain ⟨ka, hka, hkc⟩ := HKd.out.cell 0 (by simp [inc, HKi.out])
 have hkc' : K.base.cell? ka = some (.int .i64 kk) := by
  have e : ka.add 0 = ka := by unfold Addr.add; simp
  rw [e] at hkc
  rw [hkc]; simp [inc, HKi.out]
 have HKc := Lib.hid hkc'
 subst hka
 rw [hl1] at HX0 x8 hkb
 clear hkc hkc' hl1 HKd
 have HTop : Hid (s.left ≤ 20000) := Nat.le_trans HC.out.left HC.out.top
 go_wp2_with fail
 refine (pto_any w1 p).mono ?_
 rintro e w2 ⟨rfl, hb2⟩
 simp only [gtv, gcs, toR, List.length_nil]
 have HX2 := Lib.hid (HX0.out.below hb2)
 have HZ2 := Lib.hid (HZ0.out.below hb2)
 have HB2 := Lib.hid (HB1.out.trans (hb2.mono HB1.out.size))
 clear hb2 HX0 HZ0 HB1 H1 x0 x1 x2 x3 x4 x5 x6 x7 x8
 obtain ⟨HAl, H7⟩ := box1 w2 #[.bool true, .int .i64 p, .int .i64 (-1), .slice none 0 0] 100
 have HX3 := Lib.hid (HX2.out.below HAl.out)
 have HZ3 := Lib.hid (HZ2.out.below HAl.out)
 have HB3 := Lib.hid (HB2.out.trans (HAl.out.mono HB2.out.size))
 have HLt : Hid (h0 < w2.heap.size) := HZ2.out.lt
 go_upto_region 2 with (fail)
 clear HX2 HZ2 HB2 HAl
 revert H7 HX3 HZ3 HB3 HLt
 generalize w2.alloc _ = w3
 generalize w2.heap.size = h7
 intro H7 HX3 HZ3 HB3 HLt
 have x0 : w3.cell? ⟨hx, 0, none⟩ = some (.int .i64 8) := HX3.out.cell 0
 have x8 : w3.cell? ⟨hx, 8, none⟩ = some (.slice (some ka) 1 kc) := HX3.out.cell 8
 have H3 := Lib.hid (H.out.below HB3.out)
 clear H
 have HI0 : Hid (PStarI K m f w p kk (starR (ev K.G K.W f) kk (s.left + 1) (toR p) s) 60000000 h7 h0 hx #[.int .i64 8, .int .u64 x.c0, .int .u64 x.c1, .int .u64 x.c2, .int .u64 x.c3, .string x.text, .int .i64 x.rule, .int .i64 x.lev, .slice (some ka) 1 kc] w3) :=
  ⟨toR p, s, es, clock, KS, none, 0, s.left + 1, H7.out, HZ3.out, HX3.out, H3.out, TrW.nil _, PF.below HB3.out, rfl, HS.out, .at (by decide) (by omega) (Nat.le_refl _) HP.out, rfl, HC.out, by have h := HTop.out; show 0 + 2001 * s.left ≤ 60000000; omega, HOv.out, Nat.lt_succ_self _⟩
 clear H7 HX3 HZ3 HB3 H3 HS HC HOv HTop
 generalize starR (ev K.G K.W f) kk (s.left + 1) (toR p) s = Z at *
 go_wp2_with fail
 go_loopw [8] (fun _ wr => Hid (PStarI K m f w p kk Z 60000000 h7 h0 hx #[.int .i64 8, .int .u64 x.c0, .int .u64 x.c1, .int .u64 x.c2, .int .u64 x.c3, .string x.text, .int .i64 x.rule, .int .i64 x.lev, .slice (some ka) 1 kc] wr)) (fun _ wr => K.W.length - endOf h7 wr)
 case atStart => exact HI0.out
 case round =>
  obtain ⟨⟨ri, re, rf, rt, rr⟩, s', es', clock', KS', ao, cap, fu, i1, i2, i3, i4, i5, i6, i7, i8, i9, i10, i11, i12, i13, i14⟩ := hrel.out
  clear hrel HI0 x0 x8
  simp only [] at i1 i5 i7 i9 i10 i12
  subst i10
  have HR := Lib.hid i1
  have HZ := Lib.hid i2
  have HX := Lib.hid i3
  have HW := Lib.hid i4
  have HT := Lib.hid i5
  have HF := Lib.hid i6
  have HSt := Lib.hid i8
  have HRo := Lib.hid i9
  have HCp := Lib.hid i11
  have HLe := Lib.hid i12
  have HOv := Lib.hid i13
  have HFu := Lib.hid i14
  obtain ⟨fv, hfv, e6⟩ := starR_go (E := ev K.G K.W f) (n := kk) (r := ⟨true, re, rf, rt, rr⟩) (s := s') (Nat.lt_of_le_of_lt (Nat.zero_le _) i14)
  have HQ2 := Lib.hid (e6.symm.trans i7)
  have HFv := Lib.hid hfv
  clear i1 i2 i3 i4 i5 i6 i7 i8 i9 i11 i12 i13 i14 e6 hfv
  have HKo := Lib.hid (star_step hK hkn HSt.out HRo.out rfl HQ2.out HFin.out)
  have r1 : wr.cell? ⟨h7, 1, none⟩ = some (.int .i64 re) := HR.out.cell 1
  have x8 : wr.cell? ⟨hx, 8, none⟩ = some (.slice (some ka) 1 kc) := HX.out.cell 8
  have k0 : wr.cell? ka = some (.int .i64 kk) := (HW.out.low.cell (World.block_lt_of_cell? _ _ HKc.out)).trans HKc.out
  have hyes := HRo.out.yes rfl
  have HYes := Lib.hid hyes.1
  simp only [] at HQ2 HKo HYes
  have HPo := Lib.hid (ev_ok (W := K.W) hK.ok f s' kk re HSt.out hkn hyes.1)
  have HCl := Lib.hid (fun W' (hb' : Below wr.heap.size wr W') => HN.out W' s' es' clock' KS' kk re (HW.out.below hb') HCp.out HSt.out HOv.out hkn hyes.1 HKo.out)
  have HEo := Lib.hid (endOf_eq r1)
  clear hyes
  generalize ev K.G K.W f s' kk re = o at *
  obtain ⟨⟨xi, xe, xf, xt, xr⟩, s2⟩ := o
  simp only [] at HQ2 HKo
  have HEx : Hid (∀ W', Below wr.heap.size wr W' → Calls Try.prog 55 #[.pointer (some ⟨K.g, 0, none⟩), .int .i64 kk, .int .i64 re] W' fun e w3 => ∃ es3 clock3 KS3 o3 c3, e = .returned (.agg #[.bool xi, .int .i64 xe, .int .i64 xf, .slice o3 xt.length c3]) ∧ TW K m w3 s2 es3 clock3 KS3 ∧ TrW w3 o3 c3 xt ∧ PF K m W' w3) := fun W' hb' => (HCl.out W' hb').mono (fun e w3 h => h)
  clear HCl
  have HD0 := Lib.hid ((Below.refl wr.heap.size wr).drew)
  have HDA : Hid (Below wr.heap.size wr (wr.drew.alloc (.cells #[.bool false, .int .i64 0, .int .i64 0, .slice none 0 0] 100))) := HD0.out.alloc HD0.out.size _
  have HZA : Hid (hrow (wr.drew.alloc (.cells #[.bool false, .int .i64 0, .int .i64 0, .slice none 0 0] 100)) wr.heap.size #[.bool false, .int .i64 0, .int .i64 0, .slice none 0 0] 100) := hrow.new wr.drew _ _
  have hn7 : h7 ≠ wr.heap.size := by have := HR.out.lt; omega
  have hnx : hx ≠ wr.heap.size := by have := HX.out.lt; omega
  have hkn' : ka.block ≠ wr.heap.size := by have := World.block_lt_of_cell? _ _ k0; omega
  have HS1 : Hid (∀ W' W'', Below wr.heap.size wr W' → PF K m W' W'' → W''.cell? ⟨h7, 1, none⟩ = some (.int .i64 re) ∧ W''.cell? ⟨hx, 8, none⟩ = some (.slice (some ka) 1 kc)) := fun W' W'' hb hf => ⟨(hrow.pf (HW.out.below hb) hf (HR.out.below hb) (by decide)).cell 1, (hrow.pf (HW.out.below hb) hf (HX.out.below hb) (by decide)).cell 8⟩
  go_upto_region 6 with (fail)
  go_cut [8] (fun v wx => PInBox K m wr (⟨xi, xe, xf, xt, xr⟩, s2) v wx)
  case first =>
   go_region_held3 (fun w' => w'.cell? ⟨hx, 8, none⟩ = some (.slice (some ka) 1 kc) ∧ w'.cell? ka = some (.int .i64 kk) ∧ w'.cell? ⟨h7, 1, none⟩ = some (.int .i64 re))
    (first | (with_reducible exact ⟨K1.out, K2.out, K3.out⟩) | (with_reducible exact ⟨set4_cell0 K1.out hnx, set4_cell0 K2.out hkn', set4_cell0 K3.out hn7⟩) | (with_reducible exact ⟨al_cell K1.out, al_cell K2.out, al_cell K3.out⟩) | go_keep)
    ((first
     | (go_at_call 55; refine (HEx.out _ HDA.out).mono ?_; rintro e w3 ⟨es3, clock3, KS3, o3, c3, rfl, g1, g2, g3⟩; have G1 := Lib.hid g1; have G2 := Lib.hid g2; have G3 := Lib.hid (PF.trans (PF.below (K := K) (m := m) HDA.out) g3); have GZ := Lib.hid (hrow.pf (HW.out.below HDA.out) g3 HZA.out (by decide)); have K1 := Lib.hid (HS1.out _ _ HDA.out g3).2; have K3 := Lib.hid (HS1.out _ _ HDA.out g3).1; have K2 : Hid (w3.cell? ka = some (.int .i64 kk)) := Lib.hid ((G1.out.low.cell (World.block_lt_of_cell? _ _ HKc.out)).trans HKc.out); clear g1 g2 g3; obtain ⟨zq0, zq1, zq2, zq3⟩ := (GZ.out).c4; obtain ⟨zf0, zf1, zf2⟩ := (GZ.out).f3; have zf3 := (GZ.out).frozen 3)
     | (go_at_call 55; refine (HEx.out _ HD0.out).mono ?_; rintro e w3 ⟨es3, clock3, KS3, o3, c3, rfl, g1, g2, g3⟩; have G1 := Lib.hid g1; have G2 := Lib.hid g2; have G3 := Lib.hid (PF.trans (PF.below (K := K) (m := m) HD0.out) g3); have K1 := Lib.hid (HS1.out _ _ HD0.out g3).2; have K3 := Lib.hid (HS1.out _ _ HD0.out g3).1; have K2 : Hid (w3.cell? ka = some (.int .i64 kk)) := Lib.hid ((G1.out.low.cell (World.block_lt_of_cell? _ _ HKc.out)).trans HKc.out); clear g1 g2 g3)))
   all_goals
    have hbl := HW.out.low.size
    go_wp2_with fail
    go_meet
    first | (with_reducible exact PInBox.aft G1.out G2.out G3.out) | (with_reducible exact PInBox.bef G1.out G2.out G3.out GZ.out hbl)
  case rest =>
   obtain ⟨h8, es5, clock5, KS5, o5, c5, rfl, j1, j2, j3, j4, j5⟩ := hcut
   simp only [] at j1 j3 j4
   have H8 := Lib.hid j1
   have J3 := Lib.hid j3
   have J4 := Lib.hid j4
   have JF := Lib.hid (PF.trans HF.out j5)
   have JR := Lib.hid (hrow.pf HW.out j5 HR.out (by decide))
   have JZ := Lib.hid (hrow.pf HW.out j5 HZ.out (by decide))
   have JX := Lib.hid (hrow.pf HW.out j5 HX.out (by decide))
   have JT := Lib.hid (TrW.pf HW.out j5 HT.out)
   clear j1 j2 j3 j4 j5 r1 x8 k0 HR HZ HX HW HT HF HD0 HDA HZA HS1 HEx hn7 hnx hkn'
   obtain ⟨e0, e1, e2, e3⟩ := (H8.out).c4
   obtain ⟨r0, r1, r2, r3⟩ := (JR.out).c4
   have HTr := Lib.hid (fun w' => ptried_any w' ⟨true, re, rf, rt, rr⟩ ao cap xf)
   by_cases hgo : xi = true ∧ xe ≠ re
   ·obtain ⟨rfl, hne⟩ := hgo
    have HQ3 := Lib.hid ((if_pos ⟨rfl, hne⟩).symm.trans HQ2.out)
    clear HQ2
    have heq : ((xe : Int) == (re : Int)) = false := by simp; omega
    have l1 : rt.length ≤ 100000000 := by have := HLe.out; omega
    have hpl : xt.length + 2001 * s2.left ≤ 2001 * s'.left := HPo.out.len
    have l2 : xt.length ≤ 100000000 := by have := HCp.out.left; have := HCp.out.top; omega
    have hdc : s2.left < s'.left := HPo.out.dec rfl
    have HXe : Hid (re < xe ∧ xe ≤ K.W.length) := by have h1 := (HPo.out.rs.yes rfl).2.le; have h2 := (HPo.out.rs.yes rfl).1; simp only [] at h1 h2; exact ⟨by omega, h2⟩
    have HTh := Lib.hid (pthen_any wc ⟨true, re, rf, rt, rr⟩ ⟨true, xe, xf, xt, xr⟩ ao o5 cap c5 JT.out.sv J4.out.sv l1 l2)
    go_wp2_with fail
    refine (HTh.out).mono ?_
    rintro e w6 ⟨go, gc, rfl, hn⟩
    have HRb := Lib.hid (HRo.out.be rfl HPo.out.rs rfl)
    have HLb : Hid ((beR ⟨true, re, rf, rt, rr⟩ ⟨true, xe, xf, xt, xr⟩).tree.length + 2001 * s2.left ≤ 60000000) := by
     have h2 := HLe.out
     show (rt ++ xt).length + 2001 * s2.left ≤ 60000000
     rw [List.length_append]
     omega
    have hbe : (beR ⟨true, re, rf, rt, rr⟩ ⟨true, xe, xf, xt, xr⟩).is = true ∧ (beR ⟨true, re, rf, rt, rr⟩ ⟨true, xe, xf, xt, xr⟩).en = xe := ⟨rfl, rfl⟩
    clear HTh
    generalize beR ⟨true, re, rf, rt, rr⟩ ⟨true, xe, xf, xt, xr⟩ = y at *
    obtain ⟨yi, ye, yf, yt, yr⟩ := y
    simp only [] at hbe
    obtain ⟨rfl, rfl⟩ := hbe
    simp only [gtv, gcs]
    have HN6 := Lib.hid hn.trw
    have HR6 := Lib.hid (JR.out.below hn.1)
    have HZ6 := Lib.hid (JZ.out.below hn.1)
    have HX6 := Lib.hid (JX.out.below hn.1)
    have HW6 := Lib.hid (J3.out.below hn.1)
    have HF6 := Lib.hid (PF.trans JF.out (PF.below hn.1))
    have HC2 := Lib.hid (HCp.out.of HPo.out.step HCp.out.top HCp.out.left)
    have HS2 := Lib.hid HPo.out.st
    have HDc := Lib.hid hdc
    clear hn e0 e1 e2 e3 r0 r1 r2 r3 H8 J3 J4 JF JR JZ JX JT HTr hdc hpl l1 l2 hne heq
    obtain ⟨zq0, zq1, zq2, zq3⟩ := (HR6.out).c4
    obtain ⟨zf0, zf1, zf2, zf3⟩ := (HR6.out).f4
    obtain ⟨ZR4, ZF4⟩ := set4_box (.bool true) (.int .i64 ye) (.int .i64 yf) (.slice go yt.length gc) HR6.out
    go_wp2_with fail
    revert ZR4 ZF4
    generalize (((w6.setCell _ _).setCell _ _).setCell _ _).setCell _ _ = wz
    intro ZR4 ZF4
    go_roundw
    case rel =>
     exact ⟨_, s2, es5, clock5, KS5, go, gc, fv, ZR4.out, HZ6.out.fr ZF4.out (by have := HLt.out; omega), HX6.out.fr ZF4.out (by have := HLt.out; have := HH0.out; omega), TW.boxed HW6.out HR6.out (by have := HLo.out; have := HLt.out; have := HH0.out; omega) ZF4.out, TrW.gbox HN6.out HR6.out ZF4.out, PF.new HF6.out ZF4.out (fun k e => by have e' : k = h7 := e; have := HLt.out; have := HH0.out; omega), HQ3.out, HS2.out, HRb.out, rfl, HC2.out, HLb.out, HKo.out, by have := HFu.out; have := HFv.out; have := HDc.out; omega⟩
    case measure =>
     have h1 := endOf_eq (ZR4.out.cell 1)
     rw [h1, HEo.out]
     have := HXe.out
     omega
   ·have HQ3 := Lib.hid ((if_neg hgo).symm.trans HQ2.out)
    clear HQ2
    have HG : Hid (xi = false ∨ (xi = true ∧ xe = re)) := by
     show xi = false ∨ _
     cases xi
     ·exact .inl rfl
     ·exact .inr ⟨rfl, by simp at hgo; exact hgo⟩
    clear hgo
    rcases HG.out with rfl | ⟨rfl, rfl⟩
    ·skip
     clear HG
     go_wp2_with fail
     refine (HTr.out wc).mono ?_
     rintro e w6 ⟨rfl, hb6⟩
     simp only [gtv, gcs, triR] at HQ3 ⊢
     have HZ6 := Lib.hid (JZ.out.below hb6)
     have HW6 := Lib.hid (J3.out.below hb6)
     have HT6 := Lib.hid (JT.out.step (.below hb6))
     have HF6 := Lib.hid (PF.trans JF.out (PF.below hb6))
     clear hb6
     obtain ⟨zq0, zq1, zq2, zq3⟩ := (HZ6.out).c4
     obtain ⟨zf0, zf1, zf2, zf3⟩ := (HZ6.out).f4
     obtain ⟨ZR4, ZF4⟩ := set4_box (.bool true) (.int .i64 re) (.int .i64 (max rf xf)) (.slice ao rt.length cap) (HZ6.out)
     go_wp2_with fail
     revert ZR4 ZF4
     generalize (((w6.setCell _ _).setCell _ _).setCell _ _).setCell _ _ = wz
     intro ZR4 ZF4
     obtain ⟨zc0, zc1, zc2, zc3⟩ := (ZR4.out).c4
     exact bodyPost_ret (v := .agg #[.bool true, .int .i64 re, .int .i64 (max rf xf), .slice ao rt.length cap]) (by simp [results, Try.results83, go_sem, zc0, zc1, zc2, zc3]) rfl (by rw [← HQ3.out]; exact ⟨es5, clock5, KS5, ao, cap, rfl, TW.boxed (HW6.out) HZ6.out (by have := HH0.out; have := HLo.out; omega) ZF4.out, TrW.gbox (HT6.out) HZ6.out ZF4.out, PF.new (HF6.out) ZF4.out (fun k e => by have e' : k = h0 := e; have := HH0.out; omega)⟩)
    ·skip
     clear HG
     go_wp2_with fail
     refine (HTr.out wc).mono ?_
     rintro e w6 ⟨rfl, hb6⟩
     simp only [gtv, gcs, triR] at HQ3 ⊢
     have HZ6 := Lib.hid (JZ.out.below hb6)
     have HW6 := Lib.hid (J3.out.below hb6)
     have HT6 := Lib.hid (JT.out.step (.below hb6))
     have HF6 := Lib.hid (PF.trans JF.out (PF.below hb6))
     clear hb6
     obtain ⟨zq0, zq1, zq2, zq3⟩ := (HZ6.out).c4
     obtain ⟨zf0, zf1, zf2, zf3⟩ := (HZ6.out).f4
     obtain ⟨ZR4, ZF4⟩ := set4_box (.bool true) (.int .i64 xe) (.int .i64 (max rf xf)) (.slice ao rt.length cap) (HZ6.out)
     go_wp2_with fail
     revert ZR4 ZF4
     generalize (((w6.setCell _ _).setCell _ _).setCell _ _).setCell _ _ = wz
     intro ZR4 ZF4
     obtain ⟨zc0, zc1, zc2, zc3⟩ := (ZR4.out).c4
     exact bodyPost_ret (v := .agg #[.bool true, .int .i64 xe, .int .i64 (max rf xf), .slice ao rt.length cap]) (by simp [results, Try.results83, go_sem, zc0, zc1, zc2, zc3]) rfl (by rw [← HQ3.out]; exact ⟨es5, clock5, KS5, ao, cap, rfl, TW.boxed (HW6.out) HZ6.out (by have := HH0.out; have := HLo.out; omega) ZF4.out, TrW.gbox (HT6.out) HZ6.out ZF4.out, PF.new (HF6.out) ZF4.out (fun k e => by have e' : k = h0 := e; have := HH0.out; omega)⟩)
end Go.Proofs.Ytdnkffplkleolaa
namespace Go.Proofs.Ytdnkffplkleolaa
open Go.RowKit Go.ChangeMaps
set_option maxRecDepth 100000
set_option maxHeartbeats 2000000

theorem prep9y (K : Env) (hK : EnvOk K) (m : Nat) (w : World) (s : St) (es : Array MapEntry) (clock : Nat) (KS : List (Ce × (Option Addr × Nat))) (p : Nat) (x : Nd) (ko : Option Addr) (kc : Nat)
  (h : TW K m w s es clock KS) (hp : p ≤ K.W.length) (f : Nat) (hN : NdC K m f) (hc : Cap f s) (hs : StOk K.G.rules.length K.W.length s) (hov : s.over = false) (hkd : Sv K.base ko x.kids.length kc 1 (inc x.kids)) (hks : ∀ k ∈ x.kids, 0 ≤ k ∧ k < K.G.nodes.length) (kk : Nat) (HKi : Hid (x.kids = [(kk : Int)])) (hfin : (starR (ev K.G K.W f) kk ((ev K.G K.W f s kk p).2.left + 1) (ev K.G K.W f s kk p).1 (ev K.G K.W f s kk p).2).2.over = false) (hi : (ev K.G K.W f s kk p).1.is = true) :
  Calls Try.prog 83 #[.pointer (some ⟨K.g, 0, none⟩), .agg #[.int .i64 9, .int .u64 x.c0, .int .u64 x.c1, .int .u64 x.c2, .int .u64 x.c3, .string x.text, .int .i64 x.rule, .int .i64 x.lev, .slice ko x.kids.length kc], .int .i64 p] w (PEnd K m w (starR (ev K.G K.W f) kk ((ev K.G K.W f s kk p).2.left + 1) (ev K.G K.W f s kk p).1 (ev K.G K.W f s kk p).2)) := by
 have HFin := Lib.hid hfin
 clear hfin
 have HN := Lib.hid hN
 have HC := Lib.hid hc
 have HS := Lib.hid hs
 have HOv := Lib.hid hov
 have HKd := Lib.hid hkd
 have HKs := Lib.hid hks
 have hkb := hkd.bound
 clear hN hc hs hov hkd hks
 have H := Lib.hid h
 have HP := Lib.hid hp
 have hpb : p ≤ 2048 := by have := hK.w2; have := hK.wl; omega
 have hwl := hK.wl
 have hwb := hK.inp.bound
 have hww := hK.w2
 obtain ⟨HB0, HX0, HZ0⟩ := box2 w #[.int .i64 9, .int .u64 x.c0, .int .u64 x.c1, .int .u64 x.c2, .int .u64 x.c3, .string x.text, .int .i64 x.rule, .int .i64 x.lev, .slice ko x.kids.length kc] #[.bool false, .int .i64 0, .int .i64 0, .slice none 0 0] 57 100
 have H1 := Lib.hid (h.below HB0.out)
 have HLo : Hid (K.base.heap.size ≤ w.heap.size) := h.low.size
 clear h hp
 go_enter Try.func83, Try.ntmps83
 go_upto_region 1 with (fail)
 revert HB0 HX0 HZ0 H1
 generalize (w.alloc _).alloc _ = w1
 generalize hh0 : w.heap.size + 1 = h0
 generalize hhx : w.heap.size = hx
 intro HB0 HX0 HZ0 H1
 have HH0 : Hid (w.heap.size = hx ∧ hx + 1 = h0) := ⟨hhx, by omega⟩
 have HB1 : Hid (Below w.heap.size w w1) := by rw [hhx]; exact HB0.out
 clear HB0 hh0 hhx
 obtain ⟨x0, x1, x2, x3, x4, x5, x6, x7, x8⟩ := (HX0.out).c9
 have hkn : kk < K.G.nodes.length := by have := HKs.out kk (by rw [HKi.out]; simp); omega
 have hl1 : x.kids.length = 1 := by rw [HKi.out]; rfl
 obtain ⟨ka, hka, hkc⟩ := HKd.out.cell 0 (by simp [inc, HKi.out])
 have hkc' : K.base.cell? ka = some (.int .i64 kk) := by
  have e : ka.add 0 = ka := by unfold Addr.add; simp
  rw [e] at hkc
  rw [hkc]; simp [inc, HKi.out]
 have HKc := Lib.hid hkc'
 subst hka
 rw [hl1] at HX0 x8 hkb
 clear hkc hkc' hl1 HKd
 have HTop : Hid (s.left ≤ 20000) := Nat.le_trans HC.out.left HC.out.top
 go_wp2_with fail
 refine (pto_any w1 p).mono ?_
 rintro e w2 ⟨rfl, hb2⟩
 simp only [gtv, gcs, toR, List.length_nil]
 have HX2 := Lib.hid (HX0.out.below hb2)
 have HZ2 := Lib.hid (HZ0.out.below hb2)
 have HB2 := Lib.hid (HB1.out.trans (hb2.mono HB1.out.size))
 clear hb2 HX0 HZ0 HB1 H1 x0 x1 x2 x3 x4 x5 x6 x7 x8
 obtain ⟨HAl, H7⟩ := box1 w2 #[.bool true, .int .i64 p, .int .i64 (-1), .slice none 0 0] 100
 have HX3 := Lib.hid (HX2.out.below HAl.out)
 have HZ3 := Lib.hid (HZ2.out.below HAl.out)
 have HB3 := Lib.hid (HB2.out.trans (HAl.out.mono HB2.out.size))
 have HLt : Hid (h0 < w2.heap.size) := HZ2.out.lt
 go_upto_region 2 with (fail)
 clear HX2 HZ2 HB2 HAl
 revert H7 HX3 HZ3 HB3 HLt
 generalize w2.alloc _ = w3
 generalize w2.heap.size = h7
 intro H7 HX3 HZ3 HB3 HLt
 have x0 : w3.cell? ⟨hx, 0, none⟩ = some (.int .i64 9) := HX3.out.cell 0
 have x8 : w3.cell? ⟨hx, 8, none⟩ = some (.slice (some ka) 1 kc) := HX3.out.cell 8
 have H3 := Lib.hid (H.out.below HB3.out)
 clear H
 have HKo : Hid ((ev K.G K.W f s kk p).2.over = false) := by
  show _ = false
  have H := ev_ok (W := K.W) hK.ok f s kk p HS.out hkn HP.out
  cases ho : (ev K.G K.W f s kk p).2.over with
  | false => rfl
  | true =>
   have h2 := starR_ok (fun s n p => ev_ok (W := K.W) hK.ok f s n p) kk hkn ((ev K.G K.W f s kk p).2.left + 1) p (ev K.G K.W f s kk p).1 (ev K.G K.W f s kk p).2 H.st H.rs hi
   have h3 := h2.over ho
   rw [HFin.out] at h3
   cases h3
 have HPo := Lib.hid (ev_ok (W := K.W) hK.ok f s kk p HS.out hkn HP.out)
 have HCl := Lib.hid (HN.out w3 s es clock KS kk p H3.out HC.out HS.out HOv.out hkn HP.out HKo.out)
 have k0 : w3.cell? ka = some (.int .i64 kk) := (H3.out.low.cell (World.block_lt_of_cell? _ _ HKc.out)).trans HKc.out
 generalize ev K.G K.W f s kk p = o at *
 obtain ⟨⟨xi, xe, xf, xt, xr⟩, s2⟩ := o
 simp only [] at hi HKo
 subst hi
 go_upto_region 4 with (go_at_call 55; refine (HCl.out).mono ?_; rintro e w4 ⟨es4, clock4, KS4, o4, c4, rfl, g1, g2, g3⟩; simp only [gtv, gcs] at g1 g2 ⊢; have G1 := Lib.hid g1; have G2 := Lib.hid g2; have G3 := Lib.hid (PF.trans (PF.below (K := K) (m := m) HB3.out) g3); have G7 := Lib.hid (hrow.pf H3.out g3 H7.out (by decide)); have GZ := Lib.hid (hrow.pf H3.out g3 HZ3.out (by decide)); have GX := Lib.hid (hrow.pf H3.out g3 HX3.out (by decide)); clear g1 g2 g3; obtain ⟨s0, s1, s2_, s3⟩ := (G7.out).c4; obtain ⟨sf0, sf1, sf2, sf3⟩ := (G7.out).f4)
 have zr4 := set4_row (.bool true) (.int .i64 xe) (.int .i64 xf) (.slice o4 xt.length c4) G7.out
 have zf4 := set4_fr w4 h7 (.bool true) (.int .i64 xe) (.int .i64 xf) (.slice o4 xt.length c4)
 unfold set4 at zr4 zf4
 have ZR4 := Lib.hid zr4
 have ZF4 := Lib.hid zf4
 clear zr4 zf4 s0 s1 s2_ s3 sf0 sf1 sf2 sf3 x0 x8 k0 HCl H7 HX3 HZ3 H3
 revert ZR4 ZF4
 generalize (((w4.setCell _ _).setCell _ _).setCell _ _).setCell _ _ = w5
 intro ZR4 ZF4
 have HW5 := Lib.hid (TW.boxed G1.out G7.out (by have := HLo.out; have := HLt.out; have := HH0.out; omega) ZF4.out)
 have HT5 := Lib.hid (TrW.gbox G2.out G7.out ZF4.out)
 have HF5 := Lib.hid (PF.new G3.out ZF4.out (fun k e => by have e' : k = h7 := e; have := HLt.out; have := HH0.out; omega))
 have HZ5 := Lib.hid (GZ.out.fr ZF4.out (by have := HLt.out; omega))
 have HX5 := Lib.hid (GX.out.fr ZF4.out (by have := HLt.out; have := HH0.out; omega))
 clear G1 G2 G3 GZ GX G7 HB3
 obtain ⟨e0, e1, e2, e3⟩ := (ZR4.out).c4
 have x0 : w5.cell? ⟨hx, 0, none⟩ = some (.int .i64 9) := HX5.out.cell 0
 have x8 : w5.cell? ⟨hx, 8, none⟩ = some (.slice (some ka) 1 kc) := HX5.out.cell 8
 have HI0 : Hid (PStarI K m f w p kk (starR (ev K.G K.W f) kk (s2.left + 1) ⟨true, xe, xf, xt, xr⟩ s2) 60000000 h7 h0 hx #[.int .i64 9, .int .u64 x.c0, .int .u64 x.c1, .int .u64 x.c2, .int .u64 x.c3, .string x.text, .int .i64 x.rule, .int .i64 x.lev, .slice (some ka) 1 kc] w5) :=
  ⟨⟨true, xe, xf, xt, xr⟩, s2, es4, clock4, KS4, o4, c4, s2.left + 1, ZR4.out, HZ5.out, HX5.out, HW5.out, HT5.out, HF5.out, rfl, HPo.out.st, HPo.out.rs, rfl, HC.out.of HPo.out.step HC.out.top HC.out.left, by have h : xt.length + 2001 * s2.left ≤ 2001 * s.left := HPo.out.len; have h2 := HTop.out; show xt.length + 2001 * s2.left ≤ 60000000; omega, HKo.out, Nat.lt_succ_self _⟩
 clear HPo HZ5 HX5 HW5 HT5 HF5 ZR4 ZF4 HS HC HOv HTop HKo
 simp only [] at HFin ⊢
 generalize starR (ev K.G K.W f) kk (s2.left + 1) ⟨true, xe, xf, xt, xr⟩ s2 = Z at *
 go_wp2_with fail
 clear e0 e1 e2 e3
 go_loopw [8] (fun _ wr => Hid (PStarI K m f w p kk Z 60000000 h7 h0 hx #[.int .i64 9, .int .u64 x.c0, .int .u64 x.c1, .int .u64 x.c2, .int .u64 x.c3, .string x.text, .int .i64 x.rule, .int .i64 x.lev, .slice (some ka) 1 kc] wr)) (fun _ wr => K.W.length - endOf h7 wr)
 case atStart => exact HI0.out
 case round =>
  obtain ⟨⟨ri, re, rf, rt, rr⟩, s', es', clock', KS', ao, cap, fu, i1, i2, i3, i4, i5, i6, i7, i8, i9, i10, i11, i12, i13, i14⟩ := hrel.out
  clear hrel HI0 x0 x8
  simp only [] at i1 i5 i7 i9 i10 i12
  subst i10
  have HR := Lib.hid i1
  have HZ := Lib.hid i2
  have HX := Lib.hid i3
  have HW := Lib.hid i4
  have HT := Lib.hid i5
  have HF := Lib.hid i6
  have HSt := Lib.hid i8
  have HRo := Lib.hid i9
  have HCp := Lib.hid i11
  have HLe := Lib.hid i12
  have HOv := Lib.hid i13
  have HFu := Lib.hid i14
  obtain ⟨fv, hfv, e6⟩ := starR_go (E := ev K.G K.W f) (n := kk) (r := ⟨true, re, rf, rt, rr⟩) (s := s') (Nat.lt_of_le_of_lt (Nat.zero_le _) i14)
  have HQ2 := Lib.hid (e6.symm.trans i7)
  have HFv := Lib.hid hfv
  clear i1 i2 i3 i4 i5 i6 i7 i8 i9 i11 i12 i13 i14 e6 hfv
  have HKo := Lib.hid (star_step hK hkn HSt.out HRo.out rfl HQ2.out HFin.out)
  have r1 : wr.cell? ⟨h7, 1, none⟩ = some (.int .i64 re) := HR.out.cell 1
  have x8 : wr.cell? ⟨hx, 8, none⟩ = some (.slice (some ka) 1 kc) := HX.out.cell 8
  have k0 : wr.cell? ka = some (.int .i64 kk) := (HW.out.low.cell (World.block_lt_of_cell? _ _ HKc.out)).trans HKc.out
  have hyes := HRo.out.yes rfl
  have HYes := Lib.hid hyes.1
  simp only [] at HQ2 HKo HYes
  have HPo := Lib.hid (ev_ok (W := K.W) hK.ok f s' kk re HSt.out hkn hyes.1)
  have HCl := Lib.hid (fun W' (hb' : Below wr.heap.size wr W') => HN.out W' s' es' clock' KS' kk re (HW.out.below hb') HCp.out HSt.out HOv.out hkn hyes.1 HKo.out)
  have HEo := Lib.hid (endOf_eq r1)
  clear hyes
  generalize ev K.G K.W f s' kk re = o at *
  obtain ⟨⟨xi, xe, xf, xt, xr⟩, s2⟩ := o
  simp only [] at HQ2 HKo
  have HEx : Hid (∀ W', Below wr.heap.size wr W' → Calls Try.prog 55 #[.pointer (some ⟨K.g, 0, none⟩), .int .i64 kk, .int .i64 re] W' fun e w3 => ∃ es3 clock3 KS3 o3 c3, e = .returned (.agg #[.bool xi, .int .i64 xe, .int .i64 xf, .slice o3 xt.length c3]) ∧ TW K m w3 s2 es3 clock3 KS3 ∧ TrW w3 o3 c3 xt ∧ PF K m W' w3) := fun W' hb' => (HCl.out W' hb').mono (fun e w3 h => h)
  clear HCl
  have HD0 := Lib.hid ((Below.refl wr.heap.size wr).drew)
  have HDA : Hid (Below wr.heap.size wr (wr.drew.alloc (.cells #[.bool false, .int .i64 0, .int .i64 0, .slice none 0 0] 100))) := HD0.out.alloc HD0.out.size _
  have HZA : Hid (hrow (wr.drew.alloc (.cells #[.bool false, .int .i64 0, .int .i64 0, .slice none 0 0] 100)) wr.heap.size #[.bool false, .int .i64 0, .int .i64 0, .slice none 0 0] 100) := hrow.new wr.drew _ _
  have hn7 : h7 ≠ wr.heap.size := by have := HR.out.lt; omega
  have hnx : hx ≠ wr.heap.size := by have := HX.out.lt; omega
  have hkn' : ka.block ≠ wr.heap.size := by have := World.block_lt_of_cell? _ _ k0; omega
  have HS1 : Hid (∀ W' W'', Below wr.heap.size wr W' → PF K m W' W'' → W''.cell? ⟨h7, 1, none⟩ = some (.int .i64 re) ∧ W''.cell? ⟨hx, 8, none⟩ = some (.slice (some ka) 1 kc)) := fun W' W'' hb hf => ⟨(hrow.pf (HW.out.below hb) hf (HR.out.below hb) (by decide)).cell 1, (hrow.pf (HW.out.below hb) hf (HX.out.below hb) (by decide)).cell 8⟩
  go_upto_region 6 with (fail)
  go_cut [8] (fun v wx => PInBox K m wr (⟨xi, xe, xf, xt, xr⟩, s2) v wx)
  case first =>
   go_region_held3 (fun w' => w'.cell? ⟨hx, 8, none⟩ = some (.slice (some ka) 1 kc) ∧ w'.cell? ka = some (.int .i64 kk) ∧ w'.cell? ⟨h7, 1, none⟩ = some (.int .i64 re))
    (first | (with_reducible exact ⟨K1.out, K2.out, K3.out⟩) | (with_reducible exact ⟨set4_cell0 K1.out hnx, set4_cell0 K2.out hkn', set4_cell0 K3.out hn7⟩) | (with_reducible exact ⟨al_cell K1.out, al_cell K2.out, al_cell K3.out⟩) | go_keep)
    ((first
     | (go_at_call 55; refine (HEx.out _ HDA.out).mono ?_; rintro e w3 ⟨es3, clock3, KS3, o3, c3, rfl, g1, g2, g3⟩; have G1 := Lib.hid g1; have G2 := Lib.hid g2; have G3 := Lib.hid (PF.trans (PF.below (K := K) (m := m) HDA.out) g3); have GZ := Lib.hid (hrow.pf (HW.out.below HDA.out) g3 HZA.out (by decide)); have K1 := Lib.hid (HS1.out _ _ HDA.out g3).2; have K3 := Lib.hid (HS1.out _ _ HDA.out g3).1; have K2 : Hid (w3.cell? ka = some (.int .i64 kk)) := Lib.hid ((G1.out.low.cell (World.block_lt_of_cell? _ _ HKc.out)).trans HKc.out); clear g1 g2 g3; obtain ⟨zq0, zq1, zq2, zq3⟩ := (GZ.out).c4; obtain ⟨zf0, zf1, zf2⟩ := (GZ.out).f3; have zf3 := (GZ.out).frozen 3)
     | (go_at_call 55; refine (HEx.out _ HD0.out).mono ?_; rintro e w3 ⟨es3, clock3, KS3, o3, c3, rfl, g1, g2, g3⟩; have G1 := Lib.hid g1; have G2 := Lib.hid g2; have G3 := Lib.hid (PF.trans (PF.below (K := K) (m := m) HD0.out) g3); have K1 := Lib.hid (HS1.out _ _ HD0.out g3).2; have K3 := Lib.hid (HS1.out _ _ HD0.out g3).1; have K2 : Hid (w3.cell? ka = some (.int .i64 kk)) := Lib.hid ((G1.out.low.cell (World.block_lt_of_cell? _ _ HKc.out)).trans HKc.out); clear g1 g2 g3)))
   all_goals
    have hbl := HW.out.low.size
    go_wp2_with fail
    go_meet
    first | (with_reducible exact PInBox.aft G1.out G2.out G3.out) | (with_reducible exact PInBox.bef G1.out G2.out G3.out GZ.out hbl)
  case rest =>
   obtain ⟨h8, es5, clock5, KS5, o5, c5, rfl, j1, j2, j3, j4, j5⟩ := hcut
   simp only [] at j1 j3 j4
   have H8 := Lib.hid j1
   have J3 := Lib.hid j3
   have J4 := Lib.hid j4
   have JF := Lib.hid (PF.trans HF.out j5)
   have JR := Lib.hid (hrow.pf HW.out j5 HR.out (by decide))
   have JZ := Lib.hid (hrow.pf HW.out j5 HZ.out (by decide))
   have JX := Lib.hid (hrow.pf HW.out j5 HX.out (by decide))
   have JT := Lib.hid (TrW.pf HW.out j5 HT.out)
   clear j1 j2 j3 j4 j5 r1 x8 k0 HR HZ HX HW HT HF HD0 HDA HZA HS1 HEx hn7 hnx hkn'
   obtain ⟨e0, e1, e2, e3⟩ := (H8.out).c4
   obtain ⟨r0, r1, r2, r3⟩ := (JR.out).c4
   have HTr := Lib.hid (fun w' => ptried_any w' ⟨true, re, rf, rt, rr⟩ ao cap xf)
   by_cases hgo : xi = true ∧ xe ≠ re
   ·obtain ⟨rfl, hne⟩ := hgo
    have HQ3 := Lib.hid ((if_pos ⟨rfl, hne⟩).symm.trans HQ2.out)
    clear HQ2
    have heq : ((xe : Int) == (re : Int)) = false := by simp; omega
    have l1 : rt.length ≤ 100000000 := by have := HLe.out; omega
    have hpl : xt.length + 2001 * s2.left ≤ 2001 * s'.left := HPo.out.len
    have l2 : xt.length ≤ 100000000 := by have := HCp.out.left; have := HCp.out.top; omega
    have hdc : s2.left < s'.left := HPo.out.dec rfl
    have HXe : Hid (re < xe ∧ xe ≤ K.W.length) := by have h1 := (HPo.out.rs.yes rfl).2.le; have h2 := (HPo.out.rs.yes rfl).1; simp only [] at h1 h2; exact ⟨by omega, h2⟩
    have HTh := Lib.hid (pthen_any wc ⟨true, re, rf, rt, rr⟩ ⟨true, xe, xf, xt, xr⟩ ao o5 cap c5 JT.out.sv J4.out.sv l1 l2)
    go_wp2_with fail
    refine (HTh.out).mono ?_
    rintro e w6 ⟨go, gc, rfl, hn⟩
    have HRb := Lib.hid (HRo.out.be rfl HPo.out.rs rfl)
    have HLb : Hid ((beR ⟨true, re, rf, rt, rr⟩ ⟨true, xe, xf, xt, xr⟩).tree.length + 2001 * s2.left ≤ 60000000) := by
     have h2 := HLe.out
     show (rt ++ xt).length + 2001 * s2.left ≤ 60000000
     rw [List.length_append]
     omega
    have hbe : (beR ⟨true, re, rf, rt, rr⟩ ⟨true, xe, xf, xt, xr⟩).is = true ∧ (beR ⟨true, re, rf, rt, rr⟩ ⟨true, xe, xf, xt, xr⟩).en = xe := ⟨rfl, rfl⟩
    clear HTh
    generalize beR ⟨true, re, rf, rt, rr⟩ ⟨true, xe, xf, xt, xr⟩ = y at *
    obtain ⟨yi, ye, yf, yt, yr⟩ := y
    simp only [] at hbe
    obtain ⟨rfl, rfl⟩ := hbe
    simp only [gtv, gcs]
    have HN6 := Lib.hid hn.trw
    have HR6 := Lib.hid (JR.out.below hn.1)
    have HZ6 := Lib.hid (JZ.out.below hn.1)
    have HX6 := Lib.hid (JX.out.below hn.1)
    have HW6 := Lib.hid (J3.out.below hn.1)
    have HF6 := Lib.hid (PF.trans JF.out (PF.below hn.1))
    have HC2 := Lib.hid (HCp.out.of HPo.out.step HCp.out.top HCp.out.left)
    have HS2 := Lib.hid HPo.out.st
    have HDc := Lib.hid hdc
    clear hn e0 e1 e2 e3 r0 r1 r2 r3 H8 J3 J4 JF JR JZ JX JT HTr hdc hpl l1 l2 hne heq
    obtain ⟨zq0, zq1, zq2, zq3⟩ := (HR6.out).c4
    obtain ⟨zf0, zf1, zf2, zf3⟩ := (HR6.out).f4
    obtain ⟨ZR4, ZF4⟩ := set4_box (.bool true) (.int .i64 ye) (.int .i64 yf) (.slice go yt.length gc) HR6.out
    go_wp2_with fail
    revert ZR4 ZF4
    generalize (((w6.setCell _ _).setCell _ _).setCell _ _).setCell _ _ = wz
    intro ZR4 ZF4
    go_roundw
    case rel =>
     exact ⟨_, s2, es5, clock5, KS5, go, gc, fv, ZR4.out, HZ6.out.fr ZF4.out (by have := HLt.out; omega), HX6.out.fr ZF4.out (by have := HLt.out; have := HH0.out; omega), TW.boxed HW6.out HR6.out (by have := HLo.out; have := HLt.out; have := HH0.out; omega) ZF4.out, TrW.gbox HN6.out HR6.out ZF4.out, PF.new HF6.out ZF4.out (fun k e => by have e' : k = h7 := e; have := HLt.out; have := HH0.out; omega), HQ3.out, HS2.out, HRb.out, rfl, HC2.out, HLb.out, HKo.out, by have := HFu.out; have := HFv.out; have := HDc.out; omega⟩
    case measure =>
     have h1 := endOf_eq (ZR4.out.cell 1)
     rw [h1, HEo.out]
     have := HXe.out
     omega
   ·have HQ3 := Lib.hid ((if_neg hgo).symm.trans HQ2.out)
    clear HQ2
    have HG : Hid (xi = false ∨ (xi = true ∧ xe = re)) := by
     show xi = false ∨ _
     cases xi
     ·exact .inl rfl
     ·exact .inr ⟨rfl, by simp at hgo; exact hgo⟩
    clear hgo
    rcases HG.out with rfl | ⟨rfl, rfl⟩
    ·skip
     clear HG
     go_wp2_with fail
     refine (HTr.out wc).mono ?_
     rintro e w6 ⟨rfl, hb6⟩
     simp only [gtv, gcs, triR] at HQ3 ⊢
     have HZ6 := Lib.hid (JZ.out.below hb6)
     have HW6 := Lib.hid (J3.out.below hb6)
     have HT6 := Lib.hid (JT.out.step (.below hb6))
     have HF6 := Lib.hid (PF.trans JF.out (PF.below hb6))
     clear hb6
     obtain ⟨zq0, zq1, zq2, zq3⟩ := (HZ6.out).c4
     obtain ⟨zf0, zf1, zf2, zf3⟩ := (HZ6.out).f4
     obtain ⟨ZR4, ZF4⟩ := set4_box (.bool true) (.int .i64 re) (.int .i64 (max rf xf)) (.slice ao rt.length cap) (HZ6.out)
     go_wp2_with fail
     revert ZR4 ZF4
     generalize (((w6.setCell _ _).setCell _ _).setCell _ _).setCell _ _ = wz
     intro ZR4 ZF4
     obtain ⟨zc0, zc1, zc2, zc3⟩ := (ZR4.out).c4
     exact bodyPost_ret (v := .agg #[.bool true, .int .i64 re, .int .i64 (max rf xf), .slice ao rt.length cap]) (by simp [results, Try.results83, go_sem, zc0, zc1, zc2, zc3]) rfl (by rw [← HQ3.out]; exact ⟨es5, clock5, KS5, ao, cap, rfl, TW.boxed (HW6.out) HZ6.out (by have := HH0.out; have := HLo.out; omega) ZF4.out, TrW.gbox (HT6.out) HZ6.out ZF4.out, PF.new (HF6.out) ZF4.out (fun k e => by have e' : k = h0 := e; have := HH0.out; omega)⟩)
    ·skip
     clear HG
     go_wp2_with fail
     refine (HTr.out wc).mono ?_
     rintro e w6 ⟨rfl, hb6⟩
     simp only [gtv, gcs, triR] at HQ3 ⊢
     have HZ6 := Lib.hid (JZ.out.below hb6)
     have HW6 := Lib.hid (J3.out.below hb6)
     have HT6 := Lib.hid (JT.out.step (.below hb6))
     have HF6 := Lib.hid (PF.trans JF.out (PF.below hb6))
     clear hb6
     obtain ⟨zq0, zq1, zq2, zq3⟩ := (HZ6.out).c4
     obtain ⟨zf0, zf1, zf2, zf3⟩ := (HZ6.out).f4
     obtain ⟨ZR4, ZF4⟩ := set4_box (.bool true) (.int .i64 xe) (.int .i64 (max rf xf)) (.slice ao rt.length cap) (HZ6.out)
     go_wp2_with fail
     revert ZR4 ZF4
     generalize (((w6.setCell _ _).setCell _ _).setCell _ _).setCell _ _ = wz
     intro ZR4 ZF4
     obtain ⟨zc0, zc1, zc2, zc3⟩ := (ZR4.out).c4
     exact bodyPost_ret (v := .agg #[.bool true, .int .i64 xe, .int .i64 (max rf xf), .slice ao rt.length cap]) (by simp [results, Try.results83, go_sem, zc0, zc1, zc2, zc3]) rfl (by rw [← HQ3.out]; exact ⟨es5, clock5, KS5, ao, cap, rfl, TW.boxed (HW6.out) HZ6.out (by have := HH0.out; have := HLo.out; omega) ZF4.out, TrW.gbox (HT6.out) HZ6.out ZF4.out, PF.new (HF6.out) ZF4.out (fun k e => by have e' : k = h0 := e; have := HH0.out; omega)⟩)
theorem prep9n (K : Env) (hK : EnvOk K) (m : Nat) (w : World) (s : St) (es : Array MapEntry) (clock : Nat) (KS : List (Ce × (Option Addr × Nat))) (p : Nat) (x : Nd) (ko : Option Addr) (kc : Nat)
  (h : TW K m w s es clock KS) (hp : p ≤ K.W.length) (f : Nat) (hN : NdC K m f) (hc : Cap f s) (hs : StOk K.G.rules.length K.W.length s) (hov : s.over = false) (hkd : Sv K.base ko x.kids.length kc 1 (inc x.kids)) (hks : ∀ k ∈ x.kids, 0 ≤ k ∧ k < K.G.nodes.length) (kk : Nat) (HKi : Hid (x.kids = [(kk : Int)])) (hfin : (ev K.G K.W f s kk p).2.over = false) (hi : (ev K.G K.W f s kk p).1.is = false) :
  Calls Try.prog 83 #[.pointer (some ⟨K.g, 0, none⟩), .agg #[.int .i64 9, .int .u64 x.c0, .int .u64 x.c1, .int .u64 x.c2, .int .u64 x.c3, .string x.text, .int .i64 x.rule, .int .i64 x.lev, .slice ko x.kids.length kc], .int .i64 p] w (PEnd K m w (ev K.G K.W f s kk p)) := by
 have HFin := Lib.hid hfin
 clear hfin
 have HN := Lib.hid hN
 have HC := Lib.hid hc
 have HS := Lib.hid hs
 have HOv := Lib.hid hov
 have HKd := Lib.hid hkd
 have HKs := Lib.hid hks
 have hkb := hkd.bound
 clear hN hc hs hov hkd hks
 have H := Lib.hid h
 have HP := Lib.hid hp
 have hpb : p ≤ 2048 := by have := hK.w2; have := hK.wl; omega
 have hwl := hK.wl
 have hwb := hK.inp.bound
 have hww := hK.w2
 obtain ⟨HB0, HX0, HZ0⟩ := box2 w #[.int .i64 9, .int .u64 x.c0, .int .u64 x.c1, .int .u64 x.c2, .int .u64 x.c3, .string x.text, .int .i64 x.rule, .int .i64 x.lev, .slice ko x.kids.length kc] #[.bool false, .int .i64 0, .int .i64 0, .slice none 0 0] 57 100
 have H1 := Lib.hid (h.below HB0.out)
 have HLo : Hid (K.base.heap.size ≤ w.heap.size) := h.low.size
 clear h hp
 go_enter Try.func83, Try.ntmps83
 go_upto_region 1 with (fail)
 revert HB0 HX0 HZ0 H1
 generalize (w.alloc _).alloc _ = w1
 generalize hh0 : w.heap.size + 1 = h0
 generalize hhx : w.heap.size = hx
 intro HB0 HX0 HZ0 H1
 have HH0 : Hid (w.heap.size = hx ∧ hx + 1 = h0) := ⟨hhx, by omega⟩
 have HB1 : Hid (Below w.heap.size w w1) := by rw [hhx]; exact HB0.out
 clear HB0 hh0 hhx
 obtain ⟨x0, x1, x2, x3, x4, x5, x6, x7, x8⟩ := (HX0.out).c9
 have hkn : kk < K.G.nodes.length := by have := HKs.out kk (by rw [HKi.out]; simp); omega
 have hl1 : x.kids.length = 1 := by rw [HKi.out]; rfl
 obtain ⟨ka, hka, hkc⟩ := HKd.out.cell 0 (by simp [inc, HKi.out])
 have hkc' : K.base.cell? ka = some (.int .i64 kk) := by
  have e : ka.add 0 = ka := by unfold Addr.add; simp
  rw [e] at hkc
  rw [hkc]; simp [inc, HKi.out]
 have HKc := Lib.hid hkc'
 subst hka
 rw [hl1] at HX0 x8 hkb
 clear hkc hkc' hl1 HKd
 have HTop : Hid (s.left ≤ 20000) := Nat.le_trans HC.out.left HC.out.top
 go_wp2_with fail
 refine (pto_any w1 p).mono ?_
 rintro e w2 ⟨rfl, hb2⟩
 simp only [gtv, gcs, toR, List.length_nil]
 have HX2 := Lib.hid (HX0.out.below hb2)
 have HZ2 := Lib.hid (HZ0.out.below hb2)
 have HB2 := Lib.hid (HB1.out.trans (hb2.mono HB1.out.size))
 clear hb2 HX0 HZ0 HB1 H1 x0 x1 x2 x3 x4 x5 x6 x7 x8
 obtain ⟨HAl, H7⟩ := box1 w2 #[.bool true, .int .i64 p, .int .i64 (-1), .slice none 0 0] 100
 have HX3 := Lib.hid (HX2.out.below HAl.out)
 have HZ3 := Lib.hid (HZ2.out.below HAl.out)
 have HB3 := Lib.hid (HB2.out.trans (HAl.out.mono HB2.out.size))
 have HLt : Hid (h0 < w2.heap.size) := HZ2.out.lt
 go_upto_region 2 with (fail)
 clear HX2 HZ2 HB2 HAl
 revert H7 HX3 HZ3 HB3 HLt
 generalize w2.alloc _ = w3
 generalize w2.heap.size = h7
 intro H7 HX3 HZ3 HB3 HLt
 have x0 : w3.cell? ⟨hx, 0, none⟩ = some (.int .i64 9) := HX3.out.cell 0
 have x8 : w3.cell? ⟨hx, 8, none⟩ = some (.slice (some ka) 1 kc) := HX3.out.cell 8
 have H3 := Lib.hid (H.out.below HB3.out)
 clear H
 have HKo := Lib.hid HFin.out
 have HPo := Lib.hid (ev_ok (W := K.W) hK.ok f s kk p HS.out hkn HP.out)
 have HCl := Lib.hid (HN.out w3 s es clock KS kk p H3.out HC.out HS.out HOv.out hkn HP.out HKo.out)
 have k0 : w3.cell? ka = some (.int .i64 kk) := (H3.out.low.cell (World.block_lt_of_cell? _ _ HKc.out)).trans HKc.out
 generalize ev K.G K.W f s kk p = o at *
 obtain ⟨⟨xi, xe, xf, xt, xr⟩, s2⟩ := o
 simp only [] at hi HKo
 subst hi
 go_upto_region 4 with (go_at_call 55; refine (HCl.out).mono ?_; rintro e w4 ⟨es4, clock4, KS4, o4, c4, rfl, g1, g2, g3⟩; simp only [gtv, gcs] at g1 g2 ⊢; have G1 := Lib.hid g1; have G2 := Lib.hid g2; have G3 := Lib.hid (PF.trans (PF.below (K := K) (m := m) HB3.out) g3); have G7 := Lib.hid (hrow.pf H3.out g3 H7.out (by decide)); have GZ := Lib.hid (hrow.pf H3.out g3 HZ3.out (by decide)); have GX := Lib.hid (hrow.pf H3.out g3 HX3.out (by decide)); clear g1 g2 g3; obtain ⟨s0, s1, s2_, s3⟩ := (G7.out).c4; obtain ⟨sf0, sf1, sf2, sf3⟩ := (G7.out).f4)
 have zr4 := set4_row (.bool false) (.int .i64 xe) (.int .i64 xf) (.slice o4 xt.length c4) G7.out
 have zf4 := set4_fr w4 h7 (.bool false) (.int .i64 xe) (.int .i64 xf) (.slice o4 xt.length c4)
 unfold set4 at zr4 zf4
 have ZR4 := Lib.hid zr4
 have ZF4 := Lib.hid zf4
 clear zr4 zf4 s0 s1 s2_ s3 sf0 sf1 sf2 sf3 x0 x8 k0 HCl H7 HX3 HZ3 H3
 revert ZR4 ZF4
 generalize (((w4.setCell _ _).setCell _ _).setCell _ _).setCell _ _ = w5
 intro ZR4 ZF4
 have HW5 := Lib.hid (TW.boxed G1.out G7.out (by have := HLo.out; have := HLt.out; have := HH0.out; omega) ZF4.out)
 have HT5 := Lib.hid (TrW.gbox G2.out G7.out ZF4.out)
 have HF5 := Lib.hid (PF.new G3.out ZF4.out (fun k e => by have e' : k = h7 := e; have := HLt.out; have := HH0.out; omega))
 have HZ5 := Lib.hid (GZ.out.fr ZF4.out (by have := HLt.out; omega))
 have HX5 := Lib.hid (GX.out.fr ZF4.out (by have := HLt.out; have := HH0.out; omega))
 clear G1 G2 G3 GZ GX G7 HB3
 obtain ⟨e0, e1, e2, e3⟩ := (ZR4.out).c4
 have x0 : w5.cell? ⟨hx, 0, none⟩ = some (.int .i64 9) := HX5.out.cell 0
 have x8 : w5.cell? ⟨hx, 8, none⟩ = some (.slice (some ka) 1 kc) := HX5.out.cell 8
 obtain ⟨zq0, zq1, zq2, zq3⟩ := (HZ5.out).c4
 obtain ⟨zf0, zf1, zf2, zf3⟩ := (HZ5.out).f4
 obtain ⟨ZR4, ZF4⟩ := set4_box (.bool false) (.int .i64 xe) (.int .i64 xf) (.slice o4 xt.length c4) (HZ5.out)
 go_wp2_with fail
 revert ZR4 ZF4
 generalize (((w5.setCell _ _).setCell _ _).setCell _ _).setCell _ _ = wz
 intro ZR4 ZF4
 obtain ⟨zc0, zc1, zc2, zc3⟩ := (ZR4.out).c4
 exact bodyPost_ret (v := .agg #[.bool false, .int .i64 xe, .int .i64 xf, .slice o4 xt.length c4]) (by simp [results, Try.results83, go_sem, zc0, zc1, zc2, zc3]) rfl (⟨es4, clock4, KS4, o4, c4, rfl, TW.boxed (HW5.out) HZ5.out (by have := HH0.out; have := HLo.out; omega) ZF4.out, TrW.gbox (HT5.out) HZ5.out ZF4.out, PF.new (HF5.out) ZF4.out (fun k e => by have e' : k = h0 := e; have := HH0.out; omega)⟩)
end Go.Proofs.Ytdnkffplkleolaa
