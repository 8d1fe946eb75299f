/- Walks and plain laws: Re Rd. -/
import Derived.Test.YtdnkffplkleolaaM09
namespace Go.Proofs.Ytdnkffplkleolaa
open Go.RowKit
set_option maxRecDepth 100000
set_option maxHeartbeats 4000000

theorem two_boxesR (w : World) (c d : Array Value) (t u : TypeId) : hrow ((w.alloc (.cells c t)).alloc (.cells d u)) w.heap.size c t ∧ hrow ((w.alloc (.cells c t)).alloc (.cells d u)) (w.heap.size + 1) d u ∧ Below w.heap.size w ((w.alloc (.cells c t)).alloc (.cells d u)) := by
 have h1 := hrow.new w c t
 have h2 := hrow.new (w.alloc (.cells c t)) d u
 rw [World.size_alloc] at h2
 have b1 : Below w.heap.size w (w.alloc (.cells c t)) := (Below.refl _ _).alloc (Nat.le_refl _) _
 exact ⟨h1.below ((Below.refl _ _).alloc (Nat.le_refl _) _), h2, b1.alloc b1.size _⟩
def leftOf (g : Nat) (w : World) : Nat := match w.cell? ⟨g, 5, none⟩ with | some (.int _ n) => n.toNat | _ => 0
theorem RW.leftOf {K : Env} {w : World} {s : St} {v : Value} {KS : List (Ce × (Option Addr × Nat))} (h : RW K w s v KS) : leftOf K.g w = s.left := by
 unfold Go.Proofs.Ytdnkffplkleolaa.leftOf
 rw [h.obj.cell]
 simp
def StarI (K : Env) (f : Nat) (w : World) (p : Nat) (E : St → Nat → Nat → Rs × St) (n : Nat) (Z : Rs × St) (M hb h0 : Nat) (wr : World) : Prop :=
 ∃ r s' v' KS' ao cap fu, hrow wr hb #[.bool r.is, .int .i64 r.en, .int .i64 r.far, .slice ao r.tree.length cap, .int .i64 r.roots] 64 ∧ hrow wr h0 #[.bool false, .int .i64 0, .int .i64 0, .slice none 0 0, .int .i64 0] 64 ∧
  RW K wr s' v' KS' ∧ TrW wr ao cap r.tree ∧ RF w wr ∧ starR E n fu r s' = Z ∧ StOk K.G.rules.length K.W.length s' ∧ RsOk K.W.length p r ∧ r.is = true ∧ Cap f s' ∧ r.tree.length + 2001 * s'.left ≤ M ∧ s'.left < fu
theorem starR_go {E : St → Nat → Nat → Rs × St} {n fu : Nat} {r : Rs} {s : St} (h : 0 < fu) : ∃ f', fu = f' + 1 ∧ starR E n fu r s = if (E s n r.en).1.is = true ∧ (E s n r.en).1.en ≠ r.en then starR E n f' (beR r (E s n r.en).1) (E s n r.en).2 else (triR r (E s n r.en).1.far, (E s n r.en).2) := by
 obtain ⟨f', rfl⟩ : ∃ f', fu = f' + 1 := ⟨fu - 1, by omega⟩
 exact ⟨f', rfl, rfl⟩

theorem rstar_any (K : Env) (hK : EnvOk K) (f : Nat) (hE : EvC K f) (w : World) (s : St) (v : Value) (KS : List (Ce × (Option Addr × Nat))) (n p : Nat) (r : Rs) (ro : Option Addr) (rc : Nat)
  (h : RW K w s v KS) (hc : Cap f s) (hs : StOk K.G.rules.length K.W.length s) (hn : n < K.G.nodes.length) (ht : TrW w ro rc r.tree) (hr : RsOk K.W.length p r) (hi : r.is = true) (hl : r.tree.length + 2001 * s.left ≤ 60000000) :
  Calls Try.prog 51 #[.pointer (some ⟨K.g, 0, none⟩), .int .i64 n, rsv r ro rc] w (REnd K w (starR (ev K.G K.W f) n (s.left + 1) r s)) := by
 obtain ⟨ri, e0, f0, t0, q0⟩ := r
 have hi' : ri = true := hi
 subst hi'
 simp only [] at ht hl
 have HE := Lib.hid hE
 have HEV := Lib.hid (@ev_ok K.G K.W hK.ok f)
 have HNn := Lib.hid hn
 have HLo : Hid (K.base.heap.size ≤ w.heap.size) := h.low.size
 have hX0 := two_boxesR w #[.bool true, .int .i64 e0, .int .i64 f0, .slice ro t0.length rc, .int .i64 q0] #[.bool false, .int .i64 0, .int .i64 0, .slice none 0 0, .int .i64 0] 64 64
 have HI0 : Hid (StarI K f w p (ev K.G K.W f) n (starR (ev K.G K.W f) n (s.left + 1) ⟨true, e0, f0, t0, q0⟩ s) 60000000 w.heap.size (w.heap.size + 1) ((w.alloc (.cells #[.bool true, .int .i64 e0, .int .i64 f0, .slice ro t0.length rc, .int .i64 q0] 64)).alloc (.cells #[.bool false, .int .i64 0, .int .i64 0, .slice none 0 0, .int .i64 0] 64))) :=
  ⟨⟨true, e0, f0, t0, q0⟩, s, v, KS, ro, rc, s.left + 1, hX0.1, hX0.2.1, h.below hX0.2.2, ht.step (.below hX0.2.2), RF.below hX0.2.2, rfl, hs, hr, hi, hc, hl, by omega⟩
 clear h hc hs hn ht hr hl hE hX0 hi
 simp only [rsv, rcs]
 go_enter Try.func51, Try.ntmps51
 go_wp2_with fail
 revert HI0
 generalize (w.alloc _).alloc _ = w1
 generalize hhb : w.heap.size = hb
 intro HI0
 have HHB := Lib.hid hhb
 clear hhb
 go_loopw [7] (fun _ wr => Hid (StarI K f w p (ev K.G K.W f) n (starR (ev K.G K.W f) n (s.left + 1) ⟨true, e0, f0, t0, q0⟩ s) 60000000 hb (hb + 1) wr)) (fun _ wr => leftOf K.g wr)
 case atStart => exact HI0.out
 case round =>
  obtain ⟨⟨ri, re, rf, rt, rr⟩, s', v', KS', ao, cap, fu, i1, i2, i3, i4, i5, i6, i7, i8, i9, i10, i11, i12⟩ := Hid.out hrel
  clear hrel HI0
  simp only [] at i1 i4 i9 i11
  subst i9
  have HX := Lib.hid i1
  have HZ := Lib.hid i2
  have HW := Lib.hid i3
  have HT := Lib.hid i4
  have HF := Lib.hid i5
  have HSt := Lib.hid i7
  have HRo := Lib.hid i8
  have HCp := Lib.hid i10
  have HLe := Lib.hid i11
  have HFu := Lib.hid i12
  obtain ⟨fu, rfl, e6⟩ := starR_go (E := ev K.G K.W f) (n := n) (r := ⟨true, re, rf, rt, rr⟩) (s := s') (Nat.lt_of_le_of_lt (Nat.zero_le _) i12)
  have HQ2 := Lib.hid (e6.symm.trans i6)
  clear e6
  obtain ⟨ce0, ce1, ce2, ce3, ce4⟩ := (i1).c5
  clear i1 i2 i3 i4 i5 i6 i7 i8 i10 i11 i12
  have HPo := Lib.hid (HEV.out s' n re HSt.out HNn.out (HRo.out.yes rfl).1)
  have HCl := Lib.hid (fun W' (hb' : Below wr.heap.size wr W') => HE.out W' s' v' KS' n re (HW.out.below hb') HCp.out HSt.out HNn.out (HRo.out.yes rfl).1)
  simp only [] at HQ2
  generalize ev K.G K.W f s' n re = o at *
  obtain ⟨⟨xi, xe, xf, xt, xr⟩, s2⟩ := o
  simp only [] at HQ2
  have HEx : Hid (∀ W', Below wr.heap.size wr W' → Calls Try.prog 38 #[.pointer (some ⟨K.g, 0, none⟩), .int .i64 n, .int .i64 re] W' fun e w3 => ∃ v3 KS3 o3 c3, e = .returned (.agg #[.bool xi, .int .i64 xe, .int .i64 xf, .slice o3 xt.length c3, .int .i64 xr]) ∧ RW K w3 s2 v3 KS3 ∧ TrW w3 o3 c3 xt ∧ RF W' w3) := fun W' hb' => (HCl.out W' hb').mono (fun e w3 h => h)
  clear HCl
  go_wp2_with fail
  refine (HEx.out wr (Below.refl _ _)).mono ?_
  rintro e w3 ⟨v3, KS3, o3, c3, rfl, g1, g2, g3⟩
  have hb4 : Below w3.heap.size w3 (w3.alloc (.cells #[.bool xi, .int .i64 xe, .int .i64 xf, .slice o3 xt.length c3, .int .i64 xr] 64)) := (Below.refl _ _).alloc (Nat.le_refl _) _
  have HX4 := Lib.hid (hrow.new w3 #[.bool xi, .int .i64 xe, .int .i64 xf, .slice o3 xt.length c3, .int .i64 xr] 64)
  have HR3 := HX.out.rf g3 (by decide) (by decide)
  have HR4 := Lib.hid (HR3.below hb4)
  have HZ4 := Lib.hid ((HZ.out.rf g3 (by decide) (by decide)).below hb4)
  have J3 := Lib.hid (g1.below hb4)
  have J4 := Lib.hid (g2.step (.below hb4))
  have HT4 := Lib.hid ((HT.out.step g3).step (.below hb4))
  have J5 := Lib.hid ((HF.out.trans g3).trans (.below hb4))
  have hne : hb ≠ w3.heap.size := by have := HR3.lt; omega
  have HC2 := Lib.hid (HCp.out.of HPo.out.step HCp.out.top HCp.out.left)
  have HS2 : Hid (StOk K.G.rules.length K.W.length s2) := HPo.out.st
  have HLf := Lib.hid HW.out.leftOf
  clear g1 g2 g3 hb4 HEx HZ HT HX HF HR3 ce0 ce1 ce2 ce3 ce4
  go_upto_region 2 with (fail)
  revert HX4 HR4 HZ4 J3 J4 HT4 J5
  generalize w3.alloc _ = w4
  generalize w3.heap.size = hx at *
  intro HX4 HR4 HZ4 J3 J4 HT4 J5
  obtain ⟨x0, x1, x2, x3, x4⟩ := (HX4.out).c5
  obtain ⟨r0, r1, r2, r3, r4⟩ := (HR4.out).c5
  obtain ⟨fz0, fz1, fz2, fz3, fz4⟩ := (HR4.out).f5
  cases xi
  ·have HQ3 := Lib.hid ((if_neg (by simp)).symm.trans HQ2.out)
   clear HQ2
   by_cases hm : rf < xf
   ·skip
    have hmx : max rf xf = xf := by omega
    simp only [triR, hmx] at HQ3
    have HR5 : Hid (hrow (w4.setCell ⟨hb, 2, none⟩ (.int .i64 xf)) hb #[.bool true, .int .i64 re, .int .i64 xf, .slice ao rt.length cap, .int .i64 rr] 64) := heap_setCell_same _ _ _ _ _ _ HR4.out.h
    have HF5 := Lib.hid (Fr.setCell w4 ⟨hb, 2, none⟩ (.int .i64 xf))
    have HZ5 := Lib.hid (HZ4.out.fr HF5.out (fun e => by have e' : hb + 1 = hb := e; omega))
    have y0 : (w4.setCell ⟨hb, 2, none⟩ (.int .i64 xf)).cell? ⟨hb, 0, none⟩ = some (.bool true) := (HR5.out).cell 0
    have y1 : (w4.setCell ⟨hb, 2, none⟩ (.int .i64 xf)).cell? ⟨hb, 1, none⟩ = some (.int .i64 re) := (HR5.out).cell 1
    have y2 : (w4.setCell ⟨hb, 2, none⟩ (.int .i64 xf)).cell? ⟨hb, 2, none⟩ = some (.int .i64 xf) := (HR5.out).cell 2
    have y3 : (w4.setCell ⟨hb, 2, none⟩ (.int .i64 xf)).cell? ⟨hb, 3, none⟩ = some (.slice ao rt.length cap) := (HR5.out).cell 3
    have y4 : (w4.setCell ⟨hb, 2, none⟩ (.int .i64 xf)).cell? ⟨hb, 4, none⟩ = some (.int .i64 rr) := (HR5.out).cell 4
    have zq0 : (w4.setCell ⟨hb, 2, none⟩ (.int .i64 xf)).cell? ⟨(hb + 1), 0, none⟩ = some (.bool false) := (HZ5.out).cell 0
    have zq1 : (w4.setCell ⟨hb, 2, none⟩ (.int .i64 xf)).cell? ⟨(hb + 1), 1, none⟩ = some (.int .i64 0) := (HZ5.out).cell 1
    have zq2 : (w4.setCell ⟨hb, 2, none⟩ (.int .i64 xf)).cell? ⟨(hb + 1), 2, none⟩ = some (.int .i64 0) := (HZ5.out).cell 2
    have zq3 : (w4.setCell ⟨hb, 2, none⟩ (.int .i64 xf)).cell? ⟨(hb + 1), 3, none⟩ = some (.slice none 0 0) := (HZ5.out).cell 3
    have zq4 : (w4.setCell ⟨hb, 2, none⟩ (.int .i64 xf)).cell? ⟨(hb + 1), 4, none⟩ = some (.int .i64 0) := (HZ5.out).cell 4
    obtain ⟨zf0, zf1, zf2, zf3, zf4⟩ := (HZ5.out).f5
    have zr5 := set5_row (.bool true) (.int .i64 re) (.int .i64 xf) (.slice ao rt.length cap) (.int .i64 rr) (HZ5.out)
    have zf5 := set5_fr (w4.setCell ⟨hb, 2, none⟩ (.int .i64 xf)) (hb + 1) (.bool true) (.int .i64 re) (.int .i64 xf) (.slice ao rt.length cap) (.int .i64 rr)
    unfold set5 at zr5 zf5
    have ZR5 := Lib.hid zr5
    have ZF5 := Lib.hid zf5
    clear zr5 zf5
    go_wp2_with fail
    revert ZR5 ZF5
    generalize (((((w4.setCell ⟨hb, 2, none⟩ (.int .i64 xf)).setCell _ _).setCell _ _).setCell _ _).setCell _ _).setCell _ _ = wz
    intro ZR5 ZF5
    obtain ⟨zc0, zc1, zc2, zc3, zc4⟩ := (ZR5.out).c5
    exact bodyPost_ret (v := .agg #[.bool true, .int .i64 re, .int .i64 xf, .slice ao rt.length cap, .int .i64 rr]) (by simp [results, Try.results51, go_sem, zc0, zc1, zc2, zc3, zc4]) rfl (by rw [← HQ3.out]; exact ⟨v3, KS3, ao, cap, rfl, (J3.out.boxed HR4.out (by have := HHB.out; have := HLo.out; omega) HF5.out).boxed HZ5.out (by have := HHB.out; have := HLo.out; omega) ZF5.out, (HT4.out.boxed HR4.out HF5.out).boxed HZ5.out ZF5.out, (J5.out.new HF5.out (fun k e => by have e' : k = hb := e; have := HHB.out; omega)).new ZF5.out (fun k e => by have e' : k = hb + 1 := e; have := HHB.out; omega)⟩)
   ·skip
    have hmx : max rf xf = rf := by omega
    simp only [triR, hmx] at HQ3
    have HR5 : Hid (hrow (w4.setCell ⟨hb, 2, none⟩ (.int .i64 rf)) hb #[.bool true, .int .i64 re, .int .i64 rf, .slice ao rt.length cap, .int .i64 rr] 64) := heap_setCell_same _ _ _ _ _ _ HR4.out.h
    have HF5 := Lib.hid (Fr.setCell w4 ⟨hb, 2, none⟩ (.int .i64 rf))
    have HZ5 := Lib.hid (HZ4.out.fr HF5.out (fun e => by have e' : hb + 1 = hb := e; omega))
    have y0 : (w4.setCell ⟨hb, 2, none⟩ (.int .i64 rf)).cell? ⟨hb, 0, none⟩ = some (.bool true) := (HR5.out).cell 0
    have y1 : (w4.setCell ⟨hb, 2, none⟩ (.int .i64 rf)).cell? ⟨hb, 1, none⟩ = some (.int .i64 re) := (HR5.out).cell 1
    have y2 : (w4.setCell ⟨hb, 2, none⟩ (.int .i64 rf)).cell? ⟨hb, 2, none⟩ = some (.int .i64 rf) := (HR5.out).cell 2
    have y3 : (w4.setCell ⟨hb, 2, none⟩ (.int .i64 rf)).cell? ⟨hb, 3, none⟩ = some (.slice ao rt.length cap) := (HR5.out).cell 3
    have y4 : (w4.setCell ⟨hb, 2, none⟩ (.int .i64 rf)).cell? ⟨hb, 4, none⟩ = some (.int .i64 rr) := (HR5.out).cell 4
    have zq0 : (w4.setCell ⟨hb, 2, none⟩ (.int .i64 rf)).cell? ⟨(hb + 1), 0, none⟩ = some (.bool false) := (HZ5.out).cell 0
    have zq1 : (w4.setCell ⟨hb, 2, none⟩ (.int .i64 rf)).cell? ⟨(hb + 1), 1, none⟩ = some (.int .i64 0) := (HZ5.out).cell 1
    have zq2 : (w4.setCell ⟨hb, 2, none⟩ (.int .i64 rf)).cell? ⟨(hb + 1), 2, none⟩ = some (.int .i64 0) := (HZ5.out).cell 2
    have zq3 : (w4.setCell ⟨hb, 2, none⟩ (.int .i64 rf)).cell? ⟨(hb + 1), 3, none⟩ = some (.slice none 0 0) := (HZ5.out).cell 3
    have zq4 : (w4.setCell ⟨hb, 2, none⟩ (.int .i64 rf)).cell? ⟨(hb + 1), 4, none⟩ = some (.int .i64 0) := (HZ5.out).cell 4
    obtain ⟨zf0, zf1, zf2, zf3, zf4⟩ := (HZ5.out).f5
    have zr5 := set5_row (.bool true) (.int .i64 re) (.int .i64 rf) (.slice ao rt.length cap) (.int .i64 rr) (HZ5.out)
    have zf5 := set5_fr (w4.setCell ⟨hb, 2, none⟩ (.int .i64 rf)) (hb + 1) (.bool true) (.int .i64 re) (.int .i64 rf) (.slice ao rt.length cap) (.int .i64 rr)
    unfold set5 at zr5 zf5
    have ZR5 := Lib.hid zr5
    have ZF5 := Lib.hid zf5
    clear zr5 zf5
    go_wp2_with fail
    revert ZR5 ZF5
    generalize (((((w4.setCell ⟨hb, 2, none⟩ (.int .i64 rf)).setCell _ _).setCell _ _).setCell _ _).setCell _ _).setCell _ _ = wz
    intro ZR5 ZF5
    obtain ⟨zc0, zc1, zc2, zc3, zc4⟩ := (ZR5.out).c5
    exact bodyPost_ret (v := .agg #[.bool true, .int .i64 re, .int .i64 rf, .slice ao rt.length cap, .int .i64 rr]) (by simp [results, Try.results51, go_sem, zc0, zc1, zc2, zc3, zc4]) rfl (by rw [← HQ3.out]; exact ⟨v3, KS3, ao, cap, rfl, (J3.out.boxed HR4.out (by have := HHB.out; have := HLo.out; omega) HF5.out).boxed HZ5.out (by have := HHB.out; have := HLo.out; omega) ZF5.out, (HT4.out.boxed HR4.out HF5.out).boxed HZ5.out ZF5.out, (J5.out.new HF5.out (fun k e => by have e' : k = hb := e; have := HHB.out; omega)).new ZF5.out (fun k e => by have e' : k = hb + 1 := e; have := HHB.out; omega)⟩)
  ·by_cases hen : xe = re
   ·subst hen
    have HQ3 := Lib.hid ((if_neg (by simp)).symm.trans HQ2.out)
    clear HQ2
    by_cases hm : rf < xf
    ·skip
     have hmx : max rf xf = xf := by omega
     simp only [triR, hmx] at HQ3
     have HR5 : Hid (hrow (w4.setCell ⟨hb, 2, none⟩ (.int .i64 xf)) hb #[.bool true, .int .i64 xe, .int .i64 xf, .slice ao rt.length cap, .int .i64 rr] 64) := heap_setCell_same _ _ _ _ _ _ HR4.out.h
     have HF5 := Lib.hid (Fr.setCell w4 ⟨hb, 2, none⟩ (.int .i64 xf))
     have HZ5 := Lib.hid (HZ4.out.fr HF5.out (fun e => by have e' : hb + 1 = hb := e; omega))
     have y0 : (w4.setCell ⟨hb, 2, none⟩ (.int .i64 xf)).cell? ⟨hb, 0, none⟩ = some (.bool true) := (HR5.out).cell 0
     have y1 : (w4.setCell ⟨hb, 2, none⟩ (.int .i64 xf)).cell? ⟨hb, 1, none⟩ = some (.int .i64 xe) := (HR5.out).cell 1
     have y2 : (w4.setCell ⟨hb, 2, none⟩ (.int .i64 xf)).cell? ⟨hb, 2, none⟩ = some (.int .i64 xf) := (HR5.out).cell 2
     have y3 : (w4.setCell ⟨hb, 2, none⟩ (.int .i64 xf)).cell? ⟨hb, 3, none⟩ = some (.slice ao rt.length cap) := (HR5.out).cell 3
     have y4 : (w4.setCell ⟨hb, 2, none⟩ (.int .i64 xf)).cell? ⟨hb, 4, none⟩ = some (.int .i64 rr) := (HR5.out).cell 4
     have zq0 : (w4.setCell ⟨hb, 2, none⟩ (.int .i64 xf)).cell? ⟨(hb + 1), 0, none⟩ = some (.bool false) := (HZ5.out).cell 0
     have zq1 : (w4.setCell ⟨hb, 2, none⟩ (.int .i64 xf)).cell? ⟨(hb + 1), 1, none⟩ = some (.int .i64 0) := (HZ5.out).cell 1
     have zq2 : (w4.setCell ⟨hb, 2, none⟩ (.int .i64 xf)).cell? ⟨(hb + 1), 2, none⟩ = some (.int .i64 0) := (HZ5.out).cell 2
     have zq3 : (w4.setCell ⟨hb, 2, none⟩ (.int .i64 xf)).cell? ⟨(hb + 1), 3, none⟩ = some (.slice none 0 0) := (HZ5.out).cell 3
     have zq4 : (w4.setCell ⟨hb, 2, none⟩ (.int .i64 xf)).cell? ⟨(hb + 1), 4, none⟩ = some (.int .i64 0) := (HZ5.out).cell 4
     obtain ⟨zf0, zf1, zf2, zf3, zf4⟩ := (HZ5.out).f5
     have zr5 := set5_row (.bool true) (.int .i64 xe) (.int .i64 xf) (.slice ao rt.length cap) (.int .i64 rr) (HZ5.out)
     have zf5 := set5_fr (w4.setCell ⟨hb, 2, none⟩ (.int .i64 xf)) (hb + 1) (.bool true) (.int .i64 xe) (.int .i64 xf) (.slice ao rt.length cap) (.int .i64 rr)
     unfold set5 at zr5 zf5
     have ZR5 := Lib.hid zr5
     have ZF5 := Lib.hid zf5
     clear zr5 zf5
     go_wp2_with fail
     revert ZR5 ZF5
     generalize (((((w4.setCell ⟨hb, 2, none⟩ (.int .i64 xf)).setCell _ _).setCell _ _).setCell _ _).setCell _ _).setCell _ _ = wz
     intro ZR5 ZF5
     obtain ⟨zc0, zc1, zc2, zc3, zc4⟩ := (ZR5.out).c5
     exact bodyPost_ret (v := .agg #[.bool true, .int .i64 xe, .int .i64 xf, .slice ao rt.length cap, .int .i64 rr]) (by simp [results, Try.results51, go_sem, zc0, zc1, zc2, zc3, zc4]) rfl (by rw [← HQ3.out]; exact ⟨v3, KS3, ao, cap, rfl, (J3.out.boxed HR4.out (by have := HHB.out; have := HLo.out; omega) HF5.out).boxed HZ5.out (by have := HHB.out; have := HLo.out; omega) ZF5.out, (HT4.out.boxed HR4.out HF5.out).boxed HZ5.out ZF5.out, (J5.out.new HF5.out (fun k e => by have e' : k = hb := e; have := HHB.out; omega)).new ZF5.out (fun k e => by have e' : k = hb + 1 := e; have := HHB.out; omega)⟩)
    ·skip
     have hmx : max rf xf = rf := by omega
     simp only [triR, hmx] at HQ3
     have HR5 : Hid (hrow (w4.setCell ⟨hb, 2, none⟩ (.int .i64 rf)) hb #[.bool true, .int .i64 xe, .int .i64 rf, .slice ao rt.length cap, .int .i64 rr] 64) := heap_setCell_same _ _ _ _ _ _ HR4.out.h
     have HF5 := Lib.hid (Fr.setCell w4 ⟨hb, 2, none⟩ (.int .i64 rf))
     have HZ5 := Lib.hid (HZ4.out.fr HF5.out (fun e => by have e' : hb + 1 = hb := e; omega))
     have y0 : (w4.setCell ⟨hb, 2, none⟩ (.int .i64 rf)).cell? ⟨hb, 0, none⟩ = some (.bool true) := (HR5.out).cell 0
     have y1 : (w4.setCell ⟨hb, 2, none⟩ (.int .i64 rf)).cell? ⟨hb, 1, none⟩ = some (.int .i64 xe) := (HR5.out).cell 1
     have y2 : (w4.setCell ⟨hb, 2, none⟩ (.int .i64 rf)).cell? ⟨hb, 2, none⟩ = some (.int .i64 rf) := (HR5.out).cell 2
     have y3 : (w4.setCell ⟨hb, 2, none⟩ (.int .i64 rf)).cell? ⟨hb, 3, none⟩ = some (.slice ao rt.length cap) := (HR5.out).cell 3
     have y4 : (w4.setCell ⟨hb, 2, none⟩ (.int .i64 rf)).cell? ⟨hb, 4, none⟩ = some (.int .i64 rr) := (HR5.out).cell 4
     have zq0 : (w4.setCell ⟨hb, 2, none⟩ (.int .i64 rf)).cell? ⟨(hb + 1), 0, none⟩ = some (.bool false) := (HZ5.out).cell 0
     have zq1 : (w4.setCell ⟨hb, 2, none⟩ (.int .i64 rf)).cell? ⟨(hb + 1), 1, none⟩ = some (.int .i64 0) := (HZ5.out).cell 1
     have zq2 : (w4.setCell ⟨hb, 2, none⟩ (.int .i64 rf)).cell? ⟨(hb + 1), 2, none⟩ = some (.int .i64 0) := (HZ5.out).cell 2
     have zq3 : (w4.setCell ⟨hb, 2, none⟩ (.int .i64 rf)).cell? ⟨(hb + 1), 3, none⟩ = some (.slice none 0 0) := (HZ5.out).cell 3
     have zq4 : (w4.setCell ⟨hb, 2, none⟩ (.int .i64 rf)).cell? ⟨(hb + 1), 4, none⟩ = some (.int .i64 0) := (HZ5.out).cell 4
     obtain ⟨zf0, zf1, zf2, zf3, zf4⟩ := (HZ5.out).f5
     have zr5 := set5_row (.bool true) (.int .i64 xe) (.int .i64 rf) (.slice ao rt.length cap) (.int .i64 rr) (HZ5.out)
     have zf5 := set5_fr (w4.setCell ⟨hb, 2, none⟩ (.int .i64 rf)) (hb + 1) (.bool true) (.int .i64 xe) (.int .i64 rf) (.slice ao rt.length cap) (.int .i64 rr)
     unfold set5 at zr5 zf5
     have ZR5 := Lib.hid zr5
     have ZF5 := Lib.hid zf5
     clear zr5 zf5
     go_wp2_with fail
     revert ZR5 ZF5
     generalize (((((w4.setCell ⟨hb, 2, none⟩ (.int .i64 rf)).setCell _ _).setCell _ _).setCell _ _).setCell _ _).setCell _ _ = wz
     intro ZR5 ZF5
     obtain ⟨zc0, zc1, zc2, zc3, zc4⟩ := (ZR5.out).c5
     exact bodyPost_ret (v := .agg #[.bool true, .int .i64 xe, .int .i64 rf, .slice ao rt.length cap, .int .i64 rr]) (by simp [results, Try.results51, go_sem, zc0, zc1, zc2, zc3, zc4]) rfl (by rw [← HQ3.out]; exact ⟨v3, KS3, ao, cap, rfl, (J3.out.boxed HR4.out (by have := HHB.out; have := HLo.out; omega) HF5.out).boxed HZ5.out (by have := HHB.out; have := HLo.out; omega) ZF5.out, (HT4.out.boxed HR4.out HF5.out).boxed HZ5.out ZF5.out, (J5.out.new HF5.out (fun k e => by have e' : k = hb := e; have := HHB.out; omega)).new ZF5.out (fun k e => by have e' : k = hb + 1 := e; have := HHB.out; omega)⟩)
   ·have HQ3 := Lib.hid ((if_pos ⟨rfl, hen⟩).symm.trans HQ2.out)
    clear HQ2
    have hen' : ((xe : Int) == (re : Int)) = false := by simp; omega
    go_wp2_with fail
    have l1 : rt.length ≤ 100000000 := by have := HLe.out; omega
    have hpl : xt.length + 2001 * s2.left ≤ 2001 * s'.left := HPo.out.len
    have l2 : xt.length ≤ 100000000 := by have := HCp.out.left; have := HCp.out.top; omega
    refine (rbehind_any w4 ⟨true, re, rf, rt, rr⟩ ⟨true, xe, xf, xt, xr⟩ ao o3 cap c3 HT4.out.sv J4.out.sv l1 l2 (by have h : rr ≤ rt.length := HRo.out.roots; show rr ≤ 100000000; omega) (by have h : xr ≤ xt.length := HPo.out.rs.roots; show xr ≤ 100000000; omega)).mono ?_
    rintro e w6 ⟨go, gc, rfl, hn⟩
    have HRb := Lib.hid (HRo.out.be rfl HPo.out.rs rfl)
    have HLb : Hid ((beR ⟨true, re, rf, rt, rr⟩ ⟨true, xe, xf, xt, xr⟩).tree.length + 2001 * s2.left ≤ 60000000) := by
     have h2 := HLe.out
     show (rt ++ xt).length + 2001 * s2.left ≤ 60000000
     rw [List.length_append]
     omega
    have hdc : s2.left < s'.left := HPo.out.dec rfl
    have hbe : (beR ⟨true, re, rf, rt, rr⟩ ⟨true, xe, xf, xt, xr⟩).is = true ∧ (beR ⟨true, re, rf, rt, rr⟩ ⟨true, xe, xf, xt, xr⟩).en = xe := ⟨rfl, rfl⟩
    generalize beR ⟨true, re, rf, rt, rr⟩ ⟨true, xe, xf, xt, xr⟩ = y at *
    obtain ⟨yi, ye, yf, yt, yr⟩ := y
    simp only [] at hbe
    obtain ⟨rfl, rfl⟩ := hbe
    simp only [rsv, rcs]
    have HN := Lib.hid hn.trw
    have HB6 := Lib.hid hn.1
    have HX6 := Lib.hid (HR4.out.below hn.1)
    have HZ6 := Lib.hid (HZ4.out.below hn.1)
    clear hn
    obtain ⟨zq0, zq1, zq2, zq3, zq4⟩ := (HX6.out).c5
    obtain ⟨zf0, zf1, zf2, zf3, zf4⟩ := (HX6.out).f5
    have zr5 := set5_row (.bool true) (.int .i64 ye) (.int .i64 yf) (.slice go yt.length gc) (.int .i64 yr) HX6.out
    have zf5 := set5_fr w6 hb (.bool true) (.int .i64 ye) (.int .i64 yf) (.slice go yt.length gc) (.int .i64 yr)
    unfold set5 at zr5 zf5
    have ZR5 := Lib.hid zr5
    have ZF5 := Lib.hid zf5
    clear zr5 zf5
    go_wp2_with fail
    revert ZR5 ZF5
    generalize ((((w6.setCell _ _).setCell _ _).setCell _ _).setCell _ _).setCell _ _ = wz
    intro ZR5 ZF5
    have HWz := Lib.hid ((J3.out.below HB6.out).boxed HX6.out (by have := HHB.out; have := HLo.out; omega) ZF5.out)
    go_roundw
    case rel =>
     exact ⟨_, s2, v3, KS3, go, gc, fu, ZR5.out, HZ6.out.fr ZF5.out (by omega), HWz.out, HN.out.boxed HX6.out ZF5.out, (J5.out.trans (.below HB6.out)).new ZF5.out (fun k e => by have e' : k = hb := e; have := HHB.out; omega), HQ3.out, HS2.out, HRb.out, rfl, HC2.out, HLb.out, by have := HFu.out; omega⟩
    case measure => rw [HWz.out.leftOf, HLf.out]; exact hdc
end Go.Proofs.Ytdnkffplkleolaa
namespace Go.Proofs.Ytdnkffplkleolaa
open Go.RowKit
set_option maxRecDepth 100000
set_option maxHeartbeats 4000000

theorem altR_drop {E : St → Nat → Nat → Rs × St} {p : Nat} {ks : List Int} {k : Nat} (h : k < ks.length) (far : Int) (s : St) :
  altR E p (ks.drop k) far s = if (E s (ks[k]'h).toNat p).1.is then ({ (E s (ks[k]'h).toNat p).1 with far := max far (E s (ks[k]'h).toNat p).1.far }, (E s (ks[k]'h).toNat p).2) else altR E p (ks.drop (k + 1)) (max far (E s (ks[k]'h).toNat p).1.far) (E s (ks[k]'h).toNat p).2 := by
 rw [List.drop_eq_getElem_cons h]
 rfl
def AltI (K : Env) (f : Nat) (w : World) (F : St → Rs × St) (Z : Rs × St) (h0 : Nat) (wr : World) : Prop :=
 ∃ s' v' KS', hrow wr h0 #[.bool false, .int .i64 0, .int .i64 0, .slice none 0 0, .int .i64 0] 64 ∧ RW K wr s' v' KS' ∧ RF w wr ∧ F s' = Z ∧ StOk K.G.rules.length K.W.length s' ∧ Cap f s'

theorem ralt_any (K : Env) (hK : EnvOk K) (f : Nat) (hE : EvC K f) (w : World) (s : St) (v : Value) (KS : List (Ce × (Option Addr × Nat))) (ks : List Int) (ka : Option Addr) (kc p : Nat)
  (h : RW K w s v KS) (hc : Cap f s) (hs : StOk K.G.rules.length K.W.length s) (hks : ∀ k ∈ ks, 0 ≤ k ∧ k < K.G.nodes.length) (hk : Sv K.base ka ks.length kc 1 (inc ks)) (hp : p ≤ K.W.length) :
  Calls Try.prog 50 #[.pointer (some ⟨K.g, 0, none⟩), .slice ka ks.length kc, .int .i64 p] w (REnd K w (altR (ev K.G K.W f) p ks (-1) s)) := by
 have H := Lib.hid h
 have HE := Lib.hid hE
 have HC := Lib.hid hc
 have HS := Lib.hid hs
 have HKS := Lib.hid hks
 have HKB := Lib.hid hk
 have HP := Lib.hid hp
 have HEV := Lib.hid (@ev_ok K.G K.W hK.ok f)
 have hkb := hk.bound
 have HLo : Hid (K.base.heap.size ≤ w.heap.size) := h.low.size
 clear h hc hs hks hk hE hp
 have HB0 := Lib.hid (al1 (Below.refl w.heap.size w) (.cells #[.bool false, .int .i64 0, .int .i64 0, .slice none 0 0, .int .i64 0] 64))
 have HR0 := Lib.hid (hrow.new w #[.bool false, .int .i64 0, .int .i64 0, .slice none 0 0, .int .i64 0] 64)
 go_enter Try.func50, Try.ntmps50
 go_wp2_with fail
 revert HB0 HR0
 generalize w.alloc _ = w1
 generalize hh0 : w.heap.size = h0
 intro HB0 HR0
 have HH0 := Lib.hid hh0
 have HI0 : Hid (AltI K f w (fun s' => altR (ev K.G K.W f) p (ks.drop 0) (-1) s') (altR (ev K.G K.W f) p ks (-1) s) h0 w1) :=
  ⟨s, v, KS, HR0.out, H.out.below (HH0.out ▸ HB0.out), RF.below (HH0.out ▸ HB0.out), rfl, HS.out, HC.out⟩
 clear HB0 HR0 H HS HC hh0
 go_loopw [7, 8, 9] (fun fa i _ wr => ∃ (k : Nat) (far : Int), k ≤ ks.length ∧ i = .int .i64 k ∧ fa = .int .i64 far ∧ Hid (-1 ≤ far ∧ far ≤ K.W.length) ∧ Hid (AltI K f w (fun s' => altR (ev K.G K.W f) p (ks.drop k) far s') (altR (ev K.G K.W f) p ks (-1) s) h0 wr)) (fun _ i _ _ => ks.length - (intOf i).toNat)
 case atStart => exact ⟨0, -1, by omega, rfl, rfl, ⟨by decide, by omega⟩, HI0.out⟩
 case round =>
  obtain ⟨k, far, hkl, rfl, rfl, HFa, HI⟩ := hrel
  by_cases hit : k < ks.length
  ·have hit' : (k : Int) < ks.length := by omega
   have hkz : (0 : Int) ≤ k := by omega
   obtain ⟨s', v', KS', i2, i3, i5, i6, i7, i10⟩ := HI.out
   clear HI HI0
   simp only [] at i6
   have HZ := Lib.hid i2
   have HW := Lib.hid i3
   have HF := Lib.hid i5
   have HQ := Lib.hid i6
   have HSt := Lib.hid i7
   have HCp := Lib.hid i10
   clear i2 i3 i5 i6 i7 i10
   obtain ⟨kb, rfl, hkc⟩ := HKB.out.cell k (by simp [inc]; omega)
   have HKd : Hid (∀ W', Below K.base.heap.size K.base W' → W'.cell? (kb.add k) = some (.int .i64 (ks[k]'hit))) := fun W' hb' => by
    have e : K.base.cell? (kb.add k) = some (.int .i64 (ks[k]'hit)) := by rw [hkc]; simp [inc, hit]
    exact (hb'.cell (World.block_lt_of_cell? _ _ e)).trans e
   have hkd := HKd.out _ HW.out.low
   have hkr := HKS.out _ (List.getElem_mem hit)
   have HQ2 := Lib.hid ((altR_drop hit _ _).symm.trans HQ.out)
   clear HQ hkc HKd
   generalize ks[k]'hit = q at *
   obtain ⟨n, rfl⟩ : ∃ n : Nat, q = n := ⟨q.toNat, by omega⟩
   simp only [Int.toNat_natCast] at HQ2
   have HPo := Lib.hid (HEV.out s' n p HSt.out (by omega) HP.out)
   have HCl := Lib.hid (fun W' (hb' : Below wr.heap.size wr W') => HE.out W' s' v' KS' n p (HW.out.below hb') HCp.out HSt.out (by omega) HP.out)
   generalize ev K.G K.W f s' n p = o at *
   obtain ⟨⟨xi, xe, xf, xt, xr⟩, s2⟩ := o
   simp only [] at HQ2
   have HEx : Hid (∀ W', Below wr.heap.size wr W' → Calls Try.prog 38 #[.pointer (some ⟨K.g, 0, none⟩), .int .i64 n, .int .i64 p] W' fun e w3 => ∃ v3 KS3 o3 c3, e = .returned (.agg #[.bool xi, .int .i64 xe, .int .i64 xf, .slice o3 xt.length c3, .int .i64 xr]) ∧ RW K w3 s2 v3 KS3 ∧ TrW w3 o3 c3 xt ∧ RF W' w3) := fun W' hb' => (HCl.out W' hb').mono (fun e w3 h => h)
   clear HCl
   go_wp2_with fail
   refine (HEx.out wr (Below.refl _ _)).mono ?_
   rintro e w3 ⟨v3, KS3, o3, c3, rfl, g1, g2, g3⟩
   have G1 := Lib.hid g1
   have G2 := Lib.hid g2
   have G3 := Lib.hid (HF.out.trans g3)
   have HZ3 := Lib.hid (HZ.out.rf g3 (by decide) (by decide))
   have HAl : Hid (∀ o, Below w3.heap.size w3 (w3.alloc o)) := fun o => (Below.refl _ _).alloc (Nat.le_refl _) _
   have HC2 := Lib.hid (HCp.out.of HPo.out.step HCp.out.top HCp.out.left)
   have HS2 : Hid (StOk K.G.rules.length K.W.length s2) := HPo.out.st
   have HXh : Hid (xf ≤ K.W.length) := HPo.out.rs.hi
   clear g1 g2 g3 HEx HZ HF HW hkd hkr
   by_cases hm : far < xf
   ·have hmx : max far xf = xf := by omega
    rw [hmx] at HQ2
    cases xi
    ·have HQ3 := Lib.hid ((if_neg Bool.false_ne_true).symm.trans HQ2.out)
     clear HQ2
     have HW4 := Lib.hid (HAl.out (.cells #[.bool false, .int .i64 xe, .int .i64 xf, .slice o3 xt.length c3, .int .i64 xr] 64))
     go_wp2_with fail
     go_roundw
     case rel =>
      refine ⟨k + 1, xf, by omega, by go_num, rfl, ?_, ?_⟩
      ·have h1 := HFa.out; have h2 := HXh.out; unfold Hid; omega
      ·exact ⟨s2, v3, KS3, HZ3.out.below HW4.out, G1.out.below HW4.out, G3.out.trans (.below HW4.out), HQ3.out, HS2.out, HC2.out⟩
     case measure => simp [intOf]; omega
    ·have HQ3 := Lib.hid ((if_pos rfl).symm.trans HQ2.out)
     clear HQ2
     have HW4 := Lib.hid (HAl.out (.cells #[.bool true, .int .i64 xe, .int .i64 xf, .slice o3 xt.length c3, .int .i64 xr] 64))
     have HZ4 := Lib.hid (HZ3.out.below HW4.out)
     have zq0 : (w3.alloc (.cells #[.bool true, .int .i64 xe, .int .i64 xf, .slice o3 xt.length c3, .int .i64 xr] 64)).cell? ⟨h0, 0, none⟩ = some (.bool false) := (HZ4.out).cell 0
     have zq1 : (w3.alloc (.cells #[.bool true, .int .i64 xe, .int .i64 xf, .slice o3 xt.length c3, .int .i64 xr] 64)).cell? ⟨h0, 1, none⟩ = some (.int .i64 0) := (HZ4.out).cell 1
     have zq2 : (w3.alloc (.cells #[.bool true, .int .i64 xe, .int .i64 xf, .slice o3 xt.length c3, .int .i64 xr] 64)).cell? ⟨h0, 2, none⟩ = some (.int .i64 0) := (HZ4.out).cell 2
     have zq3 : (w3.alloc (.cells #[.bool true, .int .i64 xe, .int .i64 xf, .slice o3 xt.length c3, .int .i64 xr] 64)).cell? ⟨h0, 3, none⟩ = some (.slice none 0 0) := (HZ4.out).cell 3
     have zq4 : (w3.alloc (.cells #[.bool true, .int .i64 xe, .int .i64 xf, .slice o3 xt.length c3, .int .i64 xr] 64)).cell? ⟨h0, 4, none⟩ = some (.int .i64 0) := (HZ4.out).cell 4
     obtain ⟨zf0, zf1, zf2, zf3, zf4⟩ := (HZ4.out).f5
     have zr5 := set5_row (.bool true) (.int .i64 xe) (.int .i64 xf) (.slice o3 xt.length c3) (.int .i64 xr) (HZ4.out)
     have zf5 := set5_fr (w3.alloc (.cells #[.bool true, .int .i64 xe, .int .i64 xf, .slice o3 xt.length c3, .int .i64 xr] 64)) h0 (.bool true) (.int .i64 xe) (.int .i64 xf) (.slice o3 xt.length c3) (.int .i64 xr)
     unfold set5 at zr5 zf5
     have ZR5 := Lib.hid zr5
     have ZF5 := Lib.hid zf5
     clear zr5 zf5
     go_wp2_with fail
     revert ZR5 ZF5
     generalize (((((w3.alloc (.cells #[.bool true, .int .i64 xe, .int .i64 xf, .slice o3 xt.length c3, .int .i64 xr] 64)).setCell _ _).setCell _ _).setCell _ _).setCell _ _).setCell _ _ = wz
     intro ZR5 ZF5
     obtain ⟨zc0, zc1, zc2, zc3, zc4⟩ := (ZR5.out).c5
     exact bodyPost_ret (v := .agg #[.bool true, .int .i64 xe, .int .i64 xf, .slice o3 xt.length c3, .int .i64 xr]) (by simp [results, Try.results50, go_sem, zc0, zc1, zc2, zc3, zc4]) rfl (by rw [← HQ3.out]; exact ⟨v3, KS3, o3, c3, rfl, (G1.out.below HW4.out).boxed HZ4.out (by have := HH0.out; have := HLo.out; omega) ZF5.out, (G2.out.step (.below HW4.out)).boxed HZ4.out ZF5.out, (G3.out.trans (.below HW4.out)).new ZF5.out (fun k e => by have := HH0.out; omega)⟩)
   ·have hmx : max far xf = far := by omega
    rw [hmx] at HQ2
    cases xi
    ·have HQ3 := Lib.hid ((if_neg Bool.false_ne_true).symm.trans HQ2.out)
     clear HQ2
     have HW4 := Lib.hid (HAl.out (.cells #[.bool false, .int .i64 xe, .int .i64 xf, .slice o3 xt.length c3, .int .i64 xr] 64))
     go_wp2_with fail
     go_roundw
     case rel =>
      refine ⟨k + 1, far, by omega, by go_num, rfl, ?_, ?_⟩
      ·have h1 := HFa.out; have h2 := HXh.out; unfold Hid; omega
      ·exact ⟨s2, v3, KS3, HZ3.out.below HW4.out, G1.out.below HW4.out, G3.out.trans (.below HW4.out), HQ3.out, HS2.out, HC2.out⟩
     case measure => simp [intOf]; omega
    ·have HQ3 := Lib.hid ((if_pos rfl).symm.trans HQ2.out)
     clear HQ2
     have HW4 := Lib.hid (HAl.out (.cells #[.bool true, .int .i64 xe, .int .i64 far, .slice o3 xt.length c3, .int .i64 xr] 64))
     have HZ4 := Lib.hid (HZ3.out.below HW4.out)
     have zq0 : (w3.alloc (.cells #[.bool true, .int .i64 xe, .int .i64 far, .slice o3 xt.length c3, .int .i64 xr] 64)).cell? ⟨h0, 0, none⟩ = some (.bool false) := (HZ4.out).cell 0
     have zq1 : (w3.alloc (.cells #[.bool true, .int .i64 xe, .int .i64 far, .slice o3 xt.length c3, .int .i64 xr] 64)).cell? ⟨h0, 1, none⟩ = some (.int .i64 0) := (HZ4.out).cell 1
     have zq2 : (w3.alloc (.cells #[.bool true, .int .i64 xe, .int .i64 far, .slice o3 xt.length c3, .int .i64 xr] 64)).cell? ⟨h0, 2, none⟩ = some (.int .i64 0) := (HZ4.out).cell 2
     have zq3 : (w3.alloc (.cells #[.bool true, .int .i64 xe, .int .i64 far, .slice o3 xt.length c3, .int .i64 xr] 64)).cell? ⟨h0, 3, none⟩ = some (.slice none 0 0) := (HZ4.out).cell 3
     have zq4 : (w3.alloc (.cells #[.bool true, .int .i64 xe, .int .i64 far, .slice o3 xt.length c3, .int .i64 xr] 64)).cell? ⟨h0, 4, none⟩ = some (.int .i64 0) := (HZ4.out).cell 4
     obtain ⟨zf0, zf1, zf2, zf3, zf4⟩ := (HZ4.out).f5
     have zr5 := set5_row (.bool true) (.int .i64 xe) (.int .i64 far) (.slice o3 xt.length c3) (.int .i64 xr) (HZ4.out)
     have zf5 := set5_fr (w3.alloc (.cells #[.bool true, .int .i64 xe, .int .i64 far, .slice o3 xt.length c3, .int .i64 xr] 64)) h0 (.bool true) (.int .i64 xe) (.int .i64 far) (.slice o3 xt.length c3) (.int .i64 xr)
     unfold set5 at zr5 zf5
     have ZR5 := Lib.hid zr5
     have ZF5 := Lib.hid zf5
     clear zr5 zf5
     go_wp2_with fail
     revert ZR5 ZF5
     generalize (((((w3.alloc (.cells #[.bool true, .int .i64 xe, .int .i64 far, .slice o3 xt.length c3, .int .i64 xr] 64)).setCell _ _).setCell _ _).setCell _ _).setCell _ _).setCell _ _ = wz
     intro ZR5 ZF5
     obtain ⟨zc0, zc1, zc2, zc3, zc4⟩ := (ZR5.out).c5
     exact bodyPost_ret (v := .agg #[.bool true, .int .i64 xe, .int .i64 far, .slice o3 xt.length c3, .int .i64 xr]) (by simp [results, Try.results50, go_sem, zc0, zc1, zc2, zc3, zc4]) rfl (by rw [← HQ3.out]; exact ⟨v3, KS3, o3, c3, rfl, (G1.out.below HW4.out).boxed HZ4.out (by have := HH0.out; have := HLo.out; omega) ZF5.out, (G2.out.step (.below HW4.out)).boxed HZ4.out ZF5.out, (G3.out.trans (.below HW4.out)).new ZF5.out (fun k e => by have := HH0.out; omega)⟩)
  ·have hge : (ks.length : Int) ≤ k := by omega
   obtain ⟨s', v', KS', i2, i3, i5, i6, i7, i10⟩ := HI.out
   simp only [] at i6
   rw [List.drop_eq_nil_of_le (by omega)] at i6
   have HZ := Lib.hid i2
   have HW := Lib.hid i3
   have HF := Lib.hid i5
   have HQ : Hid ((failR far, s') = altR (ev K.G K.W f) p ks (-1) s) := i6
   clear i2 i3 i5 i6 i7 i10 HI HI0
   go_wp2_with fail
   refine (rfail_any wr far).mono ?_
   rintro e w6 ⟨rfl, hb6⟩
   simp only [rsv, rcs, failR, List.length_nil, Int.natCast_zero] at HQ ⊢
   have HZ6 := Lib.hid (HZ.out.below hb6)
   have HB6 := Lib.hid hb6
   clear hb6
   obtain ⟨zq0, zq1, zq2, zq3, zq4⟩ := (HZ6.out).c5
   obtain ⟨zf0, zf1, zf2, zf3, zf4⟩ := (HZ6.out).f5
   have zr5 := set5_row (.bool false) (.int .i64 0) (.int .i64 far) (.slice none 0 0) (.int .i64 0) (HZ6.out)
   have zf5 := set5_fr w6 h0 (.bool false) (.int .i64 0) (.int .i64 far) (.slice none 0 0) (.int .i64 0)
   unfold set5 at zr5 zf5
   have ZR5 := Lib.hid zr5
   have ZF5 := Lib.hid zf5
   clear zr5 zf5
   go_wp2_with fail
   revert ZR5 ZF5
   generalize ((((w6.setCell _ _).setCell _ _).setCell _ _).setCell _ _).setCell _ _ = wz
   intro ZR5 ZF5
   obtain ⟨zc0, zc1, zc2, zc3, zc4⟩ := (ZR5.out).c5
   exact bodyPost_ret (v := .agg #[.bool false, .int .i64 0, .int .i64 far, .slice none 0 0, .int .i64 0]) (by simp [results, Try.results50, go_sem, zc0, zc1, zc2, zc3, zc4]) rfl (by rw [← HQ.out]; exact ⟨v', KS', none, 0, rfl, (HW.out.below HB6.out).boxed HZ6.out (by have := HH0.out; have := HLo.out; omega) ZF5.out, TrW.nil _, (HF.out.trans (.below HB6.out)).new ZF5.out (fun k e => by have := HH0.out; omega)⟩)
end Go.Proofs.Ytdnkffplkleolaa
