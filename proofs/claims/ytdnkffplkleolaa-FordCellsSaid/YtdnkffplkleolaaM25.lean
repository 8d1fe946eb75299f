/- Walks and plain laws: Tn To. -/
import Derived.Test.YtdnkffplkleolaaM24
import Derived.Test.YtdnkffplkleolaaM05
import Derived.Test.YtdnkffplkleolaaM10
import Derived.IntWalk
namespace Go.Proofs.Ytdnkffplkleolaa
open Go.RowKit Go.ChangeMaps
set_option maxRecDepth 100000
set_option maxHeartbeats 4000000

theorem len_any (w : World) (p e : Nat) (h : p ≤ e) (he : e ≤ 100000) : Calls Try.prog 57 #[.agg #[.int .i64 p, .int .i64 e]] w fun r w' => r = .returned (.int .i64 ((e : Int) - p)) ∧ Below w.heap.size w w' := by
 obtain ⟨HB0, HR0⟩ := box1 w #[.int .i64 p, .int .i64 e] 41
 have hs : spanR (p : Int) (e : Int) = true := by simp [spanR]; omega
 have HSp := Lib.hid (fun w' => hs ▸ spanR_any w' (p : Int) (e : Int))
 clear hs
 go_enter Try.func57, Try.ntmps57
 go_wp2_with fail
 revert HB0 HR0
 generalize w.alloc _ = w1
 generalize hh : w.heap.size = h0
 intro HB0 HR0
 have HH := Lib.hid hh
 clear hh
 refine (HSp.out _).mono ?_
 rintro r w2 ⟨rfl, hb2⟩
 have HB2 := Lib.hid (HB0.out.trans (hb2.mono (by have := HB0.out.size; have := HH.out; omega)))
 obtain ⟨c0, c1⟩ := ((HR0.out.below hb2)).c2
 clear hb2
 go_wp2_with fail
 go_ret
 exact ⟨rfl, by rw [HH.out]; exact HB2.out⟩
theorem starts_len : ∀ (ts : List (List Tw)) (p : Nat), (starts p ts).length = ts.length
 | [], _ => rfl
 | u :: us, p => by simp [starts, starts_len us]
theorem rootsN {w : World} {ao : Option Addr} {cap m : Nat} {t : List Tw} (hs : Sv w ao t.length cap 5 (t.flatMap twc)) (hf : Fo t m) :
  Calls Try.prog 56 #[.slice ao t.length cap] w fun r w' => ∃ go gc, r = .returned (.slice go m gc) ∧ Below w.heap.size w w' := by
 obtain ⟨ts, h1, h2, h3⟩ := hf.trees
 refine (Roots_any w ao cap t.length t hs hf.len hf.kids hf.forest ts h1 h3).mono ?_
 rintro r w' ⟨v, rfl, hO⟩
 obtain ⟨go, gc, rfl, _⟩ := hO.sv
 exact ⟨go, gc, by rw [h2], hO.2⟩
theorem prule_hit (K : Env) (hK : EnvOk K) (m : Nat) (w : World) (s : St) (es : Array MapEntry) (clock : Nat) (KS : List (Ce × (Option Addr × Nat))) (rule p : Nat) (h : TW K m w s es clock KS) (cr cp : Nat) (cd ri : Bool) (re : Nat) (rf : Int) (rt : List Tw) (rr : Nat) (hf : s.cells.find? (keyB rule p) = some ⟨cr, cp, cd, ⟨ri, re, rf, rt, rr⟩⟩) :
  Calls Try.prog 40 #[.pointer (some ⟨K.g, 0, none⟩), .int .i64 rule, .int .i64 p] w (PEnd K m w (⟨ri, re, rf, rt, rr⟩, { s with round := s.round || !cd })) := by
 have HFi := Lib.hid hf
 clear hf
 obtain ⟨HB0, HZ0⟩ := box1 w #[.bool false, .int .i64 0, .int .i64 0, .slice none 0 0] 100
 have H1 := Lib.hid (h.below HB0.out)
 have HLo : Hid (K.base.heap.size ≤ w.heap.size) := h.low.size
 clear h
 go_enter Try.func40, Try.ntmps40
 go_upto_region 1 with (fail)
 revert HB0 HZ0 H1
 generalize w.alloc _ = w1
 generalize hh0 : w.heap.size = h0
 intro HB0 HZ0 H1
 have HH0 := Lib.hid hh0
 have HF1 : Hid (PF K m w w1) := PF.below (hh0 ▸ HB0.out)
 clear HB0 hh0
 have HCl := Lib.hid (find_hit K hK.hg m w1 s es clock KS rule p H1.out _ HFi.out)
 go_upto_region 2 with (go_at_call 53; refine (HCl.out).mono ?_; rintro e w3 ⟨o3, c3, rfl, g1, g2, g3⟩; simp only [clv] at g1 g2 ⊢; have G1 := Lib.hid g1; have G2 := Lib.hid g2; have G3 := Lib.hid (PF.trans HF1.out g3); have GZ := Lib.hid (hrow.pf H1.out g3 HZ0.out (by decide)); clear g1 g2 g3)
 obtain ⟨HAl, H7⟩ := box1 w3 #[.bool cd, .bool ri, .int .i64 re, .int .i64 rf, .slice o3 rt.length c3] 116
 have L1 := Lib.hid (G1.out.below HAl.out)
 have L2 := Lib.hid (G2.out.step (.below HAl.out))
 have L3 := Lib.hid (PF.trans G3.out (PF.below HAl.out))
 have LZ := Lib.hid (GZ.out.below HAl.out)
 clear G1 G2 G3 GZ HAl HCl HZ0 H1 HF1
 revert H7 L1 L2 L3 LZ
 generalize w3.alloc _ = w4
 generalize w3.heap.size = h7
 intro H7 L1 L2 L3 LZ
 obtain ⟨e0, e1, e2, e3, e4⟩ := (H7.out).c5
 obtain ⟨zq0, zq1, zq2, zq3⟩ := (LZ.out).c4
 obtain ⟨zf0, zf1, zf2, zf3⟩ := (LZ.out).f4
 obtain ⟨ZR4, ZF4⟩ := set4_box (.bool ri) (.int .i64 re) (.int .i64 rf) (.slice o3 rt.length c3) (LZ.out)
 go_wp2_with fail
 revert ZR4 ZF4
 generalize (((w4.setCell _ _).setCell _ _).setCell _ _).setCell _ _ = wz
 intro ZR4 ZF4
 obtain ⟨zc0, zc1, zc2, zc3⟩ := (ZR4.out).c4
 exact bodyPost_ret (v := .agg #[.bool ri, .int .i64 re, .int .i64 rf, .slice o3 rt.length c3]) (by simp [results, Try.results40, go_sem, zc0, zc1, zc2, zc3]) rfl (⟨es, clock, KS, o3, c3, rfl, TW.boxed (L1.out) LZ.out (by have := HH0.out; have := HLo.out; omega) ZF4.out, TrW.gbox (L2.out) LZ.out ZF4.out, PF.new (L3.out) ZF4.out (fun k e => by have e' : k = h0 := e; have := HH0.out; omega)⟩)
theorem call_new_over {K : Env} {f rule p n : Nat} {s : St} (h : s.cells.find? (keyB rule p) = none) (hr : rule < K.G.rules.length) (hn : (K.G.rules[rule]'hr).body.toNat = n) (ho : (callR (ev K.G K.W f) K.G rule p s).2.over = false) :
  (ev K.G K.W f (open0 rule p s) n p).2.over = false ∧ (ownR rule p (ev K.G K.W f (open0 rule p s) n p).1).tree.length ≤ 2000 := by
 rw [callR_new h hr hn] at ho
 simp only [shut, Bool.or_eq_false_iff, decide_eq_false_iff_not] at ho
 exact ⟨ho.1, by omega⟩
/-- A twig in a box of its own. -/
def TwBox (wr : World) (x : Tw) (v : Value) (wx : World) : Prop := ∃ h11, v = .pointer (some ⟨h11, 0, none⟩) ∧ hrow wx h11 #[.int .i64 x.rule, .int .i64 x.lev, .int .i64 x.fr, .int .i64 x.to, .int .i64 x.kids] 43 ∧ wr.heap.size ≤ h11 ∧ Below wr.heap.size wr wx
theorem TwBox.aft {wr w3 : World} {x : Tw} (hb : Below wr.heap.size wr w3) : TwBox wr x (.pointer (some ⟨w3.heap.size, 0, none⟩)) (w3.alloc (.cells #[.int .i64 x.rule, .int .i64 x.lev, .int .i64 x.fr, .int .i64 x.to, .int .i64 x.kids] 43)) :=
 ⟨w3.heap.size, rfl, hrow.new _ _ _, hb.size, hb.alloc hb.size _⟩
theorem TwBox.bef {wr w3 : World} {x : Tw} (hb : Below wr.heap.size wr w3) (hr : hrow w3 wr.heap.size #[.int .i64 0, .int .i64 0, .int .i64 0, .int .i64 0, .int .i64 0] 43) :
  TwBox wr x (.pointer (some ⟨wr.heap.size, 0, none⟩)) (((((w3.setCell ⟨wr.heap.size, 0, none⟩ (.int .i64 x.rule)).setCell ⟨wr.heap.size, 1, none⟩ (.int .i64 x.lev)).setCell ⟨wr.heap.size, 2, none⟩ (.int .i64 x.fr)).setCell ⟨wr.heap.size, 3, none⟩ (.int .i64 x.to)).setCell ⟨wr.heap.size, 4, none⟩ (.int .i64 x.kids)) := by
 have h1 := set5_row (.int .i64 x.rule) (.int .i64 x.lev) (.int .i64 x.fr) (.int .i64 x.to) (.int .i64 x.kids) hr
 have h2 := set5_fr w3 wr.heap.size (.int .i64 x.rule) (.int .i64 x.lev) (.int .i64 x.fr) (.int .i64 x.to) (.int .i64 x.kids)
 unfold set5 at h1 h2
 exact ⟨_, rfl, h1, Nat.le_refl _, hb.trans (h2.below hb.size (fun k hk e => by have e' : k = wr.heap.size := e; omega))⟩
/-- What stands behind a rule's body and its twig. -/
def PCallJ (K : Env) (m : Nat) (w : World) (y : Rs) (s2 : St) (es : Array MapEntry) (clock : Nat) (KS3 : List (Ce × (Option Addr × Nat))) (h9 h0 : Nat) (wx : World) : Prop :=
 ∃ yo yc, hrow wx h9 #[.bool y.is, .int .i64 y.en, .int .i64 y.far, .slice yo y.tree.length yc] 100 ∧ TrW wx yo yc y.tree ∧ TW K m wx s2 es clock KS3 ∧ PF K m w wx ∧ hrow wx h0 #[.bool false, .int .i64 0, .int .i64 0, .slice none 0 0] 100
theorem prule_new (K : Env) (hK : EnvOk K) (m : Nat) (w : World) (s : St) (es : Array MapEntry) (clock : Nat) (KS : List (Ce × (Option Addr × Nat))) (rule p : Nat) (h : TW K m w s es clock KS) (f : Nat) (hN : NdC K m f) (hl : s.left ≤ f) (ht : f ≤ 20000) (hcn : s.cells.length + 1 + s.left ≤ 20001) (hs : StOk K.G.rules.length K.W.length s) (ho : s.over = false) (hr : rule < K.G.rules.length) (hp : p ≤ K.W.length) (hf : s.cells.find? (keyB rule p) = none) (hfin : (callR (ev K.G K.W f) K.G rule p s).2.over = false) :
  Calls Try.prog 40 #[.pointer (some ⟨K.g, 0, none⟩), .int .i64 rule, .int .i64 p] w (PEnd K m w (callR (ev K.G K.W f) K.G rule p s)) := by
 have HFi := Lib.hid hf
 have HN := Lib.hid hN
 have HL : Hid (s.left ≤ f ∧ f ≤ 20000 ∧ s.cells.length + 1 + s.left ≤ 20001) := ⟨hl, ht, hcn⟩
 have HS := Lib.hid hs
 have HO := Lib.hid ho
 have HP := Lib.hid hp
 have HR := Lib.hid hr
 have hpl : p ≤ 2048 := by have := hK.w2; have := hK.wl; omega
 have hrl : rule ≤ 32 := by have := hK.ok.rl; omega
 have hbd := hK.ok.bod _ (List.getElem_mem hr)
 obtain ⟨n, hn⟩ : ∃ n : Nat, (K.G.rules[rule]'hr).body = n := ⟨(K.G.rules[rule]'hr).body.toNat, by omega⟩
 have hnl : n < K.G.nodes.length := by omega
 have HCR := Lib.hid (callR_new (E := ev K.G K.W f) hf hr (n := n) (by omega))
 have HOv := Lib.hid (call_new_over hf hr (n := n) (by omega) hfin)
 obtain ⟨ra, hra, hrc⟩ := Sv.at ruc_len hK.gr.rul (by decide) rule hr
 have hrn := Sv.n_eq ruc_len (by decide) hK.gr.rul
 have HRo := Lib.hid hra
 have hrr : (rule : Int) < K.rn := by omega
 have hrr0 : (0 : Int) ≤ rule := by omega
 have hrb := hK.gr.rul.bound
 have HRc : Hid (∀ W', Below K.base.heap.size K.base W' → W'.cell? ((ra.add (rule * 2)).add 1) = some (.int .i64 n)) := fun W' hb' => by
  have e := hrc 1 (.int .i64 n) (by simp [ruc, hn])
  exact (hb'.cell (World.block_lt_of_cell? _ _ e)).trans e
 rw [add_off _ _ _ (by decide)] at HRc
 clear hl ht hcn hs ho hr hp hf hN hbd hn hrc hra hrn hfin
 obtain ⟨HB0, HZ0⟩ := box1 w #[.bool false, .int .i64 0, .int .i64 0, .slice none 0 0] 100
 have H1 := Lib.hid (h.below HB0.out)
 have HLo : Hid (K.base.heap.size ≤ w.heap.size) := h.low.size
 clear h
 go_enter Try.func40, Try.ntmps40
 go_upto_region 1 with (fail)
 revert HB0 HZ0 H1
 generalize w.alloc _ = w1
 generalize hh0 : w.heap.size = h0
 intro HB0 HZ0 H1
 have HH0 := Lib.hid hh0
 have HF1 : Hid (PF K m w w1) := PF.below (hh0 ▸ HB0.out)
 clear HB0 hh0
 have HCl := Lib.hid (find_miss K hK.hg m w1 s es clock KS rule p H1.out HFi.out)
 go_upto_region 2 with (go_at_call 53; refine (HCl.out).mono ?_; rintro e w3 ⟨rfl, g1, g3⟩; have G1 := Lib.hid g1; have G3 := Lib.hid (PF.trans HF1.out g3); have GZ := Lib.hid (hrow.pf H1.out g3 HZ0.out (by decide)); clear g1 g3)
 have HAl := Lib.hid (Below.refl w3.heap.size w3 |>.alloc (Nat.le_refl _) (.cells #[.bool false, .bool false, .int .i64 0, .int .i64 0, .slice none 0 0] 116))
 have L1 := Lib.hid (G1.out.below HAl.out)
 have L3 := Lib.hid (PF.trans G3.out (PF.below HAl.out))
 have LZ := Lib.hid (GZ.out.below HAl.out)
 clear G1 G3 GZ HAl HCl HZ0 H1 HF1
 revert L1 L3 LZ
 generalize w3.alloc _ = w4
 generalize w3.heap.size = h7
 intro L1 L3 LZ
 have HPu := Lib.hid (put_new K m w4 s es clock KS rule p false false 0 0 [] 0 none 0 L1.out (TrW.nil _) HFi.out)
 simp only [List.length_nil, Int.natCast_zero] at HPu
 go_upto_region 5 with (go_at_call 54; refine (HPu.out).mono ?_; rintro e w5 ⟨rfl, g1, g3⟩; have G1 := Lib.hid g1; have G3 := Lib.hid (PF.trans L3.out g3); have GZ := Lib.hid (hrow.pf L1.out g3 LZ.out (by decide)); clear g1 g3)
 clear L1 L3 LZ HPu
 have hSo : StOk K.G.rules.length K.W.length (open0 rule p s) := open0_ok HS.out HR.out HP.out HFi.out
 have hCo : Cap f (open0 rule p s) := by
  have := HL.out
  refine ⟨this.1, this.2.1, ?_⟩
  have e : (open0 rule p s).cells.length = s.cells.length + 1 := by simp [open0]
  have e2 : (open0 rule p s).left = s.left := rfl
  omega
 generalize hes : es.push _ = es1 at *
 generalize hck : clock + 1 = clock1 at *
 clear hes hck
 have HG1 : Hid (TW K m w5 (open0 rule p s) es1 clock1 (KS ++ [(⟨rule, p, false, failR 0⟩, (none, 0))])) := G1.out
 have HPo := Lib.hid (ev_ok (W := K.W) hK.ok f (open0 rule p s) n p hSo hnl HP.out)
 have HEx := Lib.hid (HN.out w5 (open0 rule p s) es1 clock1 _ n p HG1.out hCo hSo HO.out hnl HP.out HOv.out.1)
 have hk9 := key_at HPo.out.step.keys
 have HK9 := Lib.hid hk9
 have rc := HRc.out _ G1.out.low
 have o2 : w5.cell? ⟨K.g, 2, none⟩ = some (.slice (some ra) K.rn K.rc) := by rw [← HRo.out]; exact G1.out.obj.cell 2
 clear hSo hCo hk9
 have HOl := Lib.hid HOv.out.2
 clear HOv
 have HL5 : Hid (K.base.heap.size ≤ h0 ∧ w.heap.size ≤ h0) := ⟨by have := HLo.out; have := HH0.out; omega, by have := HH0.out; omega⟩
 generalize ev K.G K.W f (open0 rule p s) n p = o at *
 obtain ⟨⟨xi, xe, xf, xt, xr⟩, s2⟩ := o
 go_upto_region 6 with (go_at_call 55; refine (HEx.out).mono ?_; rintro e w6 ⟨es6, clock6, KS6, o6, c6, rfl, g1, g2, g3⟩; simp only [gtv, gcs] at g1 g2 ⊢; have M1 := Lib.hid g1; have M2 := Lib.hid g2; have M3 := Lib.hid (PF.trans G3.out g3); have MZ := Lib.hid (hrow.pf G1.out g3 GZ.out (by decide)); clear g1 g2 g3)
 have HQ := Lib.hid HCR.out
 simp only [] at HQ HOl
 have hs2l : KS.length < KS6.length := by
  have h1 := HK9.out.1
  have h2 := congrArg List.length M1.out.eq
  have h3 := congrArg List.length HG1.out.eq
  simp only [List.length_map, List.length_append, List.length_cons, List.length_nil, open0] at h1 h2 h3
  omega
 have HKL : Hid (KS.length = s.cells.length) := by
  have h3 := congrArg List.length HG1.out.eq
  simp only [List.length_map, List.length_append, List.length_cons, List.length_nil, open0] at h3
  show _ = _
  omega
 have HK2 : Hid ((s2.cells.map key)[s.cells.length]? = some (rule, p)) := HK9.out.2
 have HNd : Hid ((s2.cells.map key).Nodup) := HPo.out.st.nd
 have HXs := Lib.hid HPo.out.rs
 have HL6 : Hid (h0 < w6.heap.size) := MZ.out.lt
 obtain ⟨HAl, H9⟩ := box1 w6 #[.bool xi, .int .i64 xe, .int .i64 xf, .slice o6 xt.length c6] 100
 have L1 := Lib.hid (M1.out.below HAl.out)
 have L2 := Lib.hid (M2.out.step (.below HAl.out))
 have L3 := Lib.hid (PF.trans M3.out (PF.below HAl.out))
 have LZ := Lib.hid (MZ.out.below HAl.out)
 clear M1 M2 M3 MZ HAl HCR HPo HEx HG1 G1 G3 GZ rc o2 HK9 HFi HN HS HRo HRc
 revert H9 L1 L2 L3 LZ HL6
 generalize w6.alloc _ = wa
 generalize w6.heap.size = h9
 intro HL6 H9 L1 L2 L3 LZ
 obtain ⟨e0, e1, e2, e3⟩ := (H9.out).c4
 go_upto_if 44 with (fail)
 go_cut [9] (fun v wx => v = .pointer (some ⟨h9, 0, none⟩) ∧ PCallJ K m w (ownR rule p ⟨xi, xe, xf, xt, xr⟩) s2 es6 clock6 KS6 h9 h0 wx)
 case first =>
  cases xi
  ·have HJ : Hid (PCallJ K m w (ownR rule p ⟨false, xe, xf, xt, xr⟩) s2 es6 clock6 KS6 h9 h0 wa) := ⟨o6, c6, H9.out, L2.out, L1.out, L3.out, LZ.out⟩
   go_wp2_with fail
   go_meet
   exact ⟨rfl, HJ.out⟩
  ·have hyes := HXs.out.yes rfl
   simp only [] at hyes
   have hwl2 := hK.w2
   have hwl3 := hK.wl
   have hxl : xt.length ≤ 2000 := by have h := HOl.out; simp only [ownR] at h; simp at h; omega
   have HFo : Hid (Fo xt xr) := hyes.2.fo (by omega) (by omega)
   have hpe : p ≤ xe := hyes.2.le
   have hxe : xe ≤ 2048 := by omega
   have HHy := Lib.hid hyes
   clear hyes hwl2 hwl3
   go_upto_region 8 with (fail)
   obtain ⟨HBs, H10⟩ := box1 wa #[.int .i64 p, .int .i64 xe] 41
   have H9b := Lib.hid (H9.out.below HBs.out)
   have HL9 : Hid (h9 < wa.heap.size) := H9.out.lt
   revert HBs H10 H9b HL9
   generalize wa.alloc _ = wb
   generalize hg10 : wa.heap.size = h10
   intro HBs H10 H9b HL9
   have HG10 := Lib.hid hg10
   obtain ⟨b0, b1⟩ := (H10.out).c2
   have b3 : wb.cell? ⟨h9, 3, none⟩ = some (.slice o6 xt.length c6) := H9b.out.cell 3
   have HSv : Hid (∀ w', Below wb.heap.size wb w' → Sv w' o6 xt.length c6 5 (xt.flatMap twc)) := fun w' hb => (L2.out.sv.below (hg10 ▸ HBs.out)).below hb
   have HRt := Lib.hid (fun w' (hb : Below wb.heap.size wb w') => rootsN (HSv.out w' hb) HFo.out)
   have HS3 : Hid (∀ w', Below wb.heap.size wb w' → w'.cell? ⟨h10, 0, none⟩ = some (.int .i64 p) ∧ w'.cell? ⟨h10, 1, none⟩ = some (.int .i64 xe) ∧ w'.cell? ⟨h9, 3, none⟩ = some (.slice o6 xt.length c6)) := fun w' hb => ⟨(H10.out.below hb).cell 0, (H10.out.below hb).cell 1, (H9b.out.below hb).cell 3⟩
   have hn10 : h10 ≠ wb.heap.size := by have := H10.out.lt; omega
   have hn9 : h9 ≠ wb.heap.size := by have := H9b.out.lt; omega
   clear hg10 e0 e1 e2 e3
   have HD0 := Lib.hid ((Below.refl wb.heap.size wb).drew)
   have HDA : Hid (Below wb.heap.size wb (wb.drew.alloc (.cells #[.int .i64 0, .int .i64 0, .int .i64 0, .int .i64 0, .int .i64 0] 43))) := HD0.out.alloc HD0.out.size _
   have HZA : Hid (hrow (wb.drew.alloc (.cells #[.int .i64 0, .int .i64 0, .int .i64 0, .int .i64 0, .int .i64 0] 43)) wb.heap.size #[.int .i64 0, .int .i64 0, .int .i64 0, .int .i64 0, .int .i64 0] 43) := hrow.new wb.drew _ _
   go_cut [11] (fun v wx => TwBox wb ⟨rule, 0, p, xe, xr⟩ v wx)
   case first =>
    go_region_held3 (fun w' => w'.cell? ⟨h10, 0, none⟩ = some (.int .i64 p) ∧ w'.cell? ⟨h10, 1, none⟩ = some (.int .i64 xe) ∧ w'.cell? ⟨h9, 3, none⟩ = some (.slice o6 xt.length c6))
     (first | (with_reducible exact HS3.out _ HB3.out) | (with_reducible exact HS3.out _ HDA.out) | (with_reducible exact ⟨set5_cell (HS3.out _ HB3.out).1 hn10, set5_cell (HS3.out _ HB3.out).2.1 hn10, set5_cell (HS3.out _ HB3.out).2.2 hn9⟩) | (with_reducible exact ⟨al_cell (HS3.out _ HB3.out).1, al_cell (HS3.out _ HB3.out).2.1, al_cell (HS3.out _ HB3.out).2.2⟩) | go_keep)
     ((first
      | (go_at_call 56; refine (HRt.out _ HDA.out).mono ?_; rintro e w3 ⟨go, gc, rfl, hb3⟩; have HB3 := Lib.hid (HDA.out.trans (hb3.mono HDA.out.size)); have GZ := Lib.hid (HZA.out.below hb3); clear hb3; obtain ⟨zq0, zq1, zq2, zq3, zq4⟩ := (GZ.out).c5; obtain ⟨zf0, zf1, zf2, zf3⟩ := (GZ.out).f4; have zf4 := (GZ.out).frozen 4)
      | (go_at_call 56; refine (HRt.out _ HD0.out).mono ?_; rintro e w3 ⟨go, gc, rfl, hb3⟩; have HB3 := Lib.hid (HD0.out.trans (hb3.mono HD0.out.size)); clear hb3)))
    all_goals
     go_wp2_with fail
     go_meet
     first | (with_reducible exact TwBox.aft (x := ⟨rule, 0, p, xe, xr⟩) HB3.out) | (with_reducible exact TwBox.bef (x := ⟨rule, 0, p, xe, xr⟩) HB3.out GZ.out)
   case rest =>
    obtain ⟨h11, rfl, j1, j2, j3⟩ := hcut
    simp only [] at j1
    have HBa := Lib.hid (HBs.out.trans (j3.mono (by have := HBs.out.size; have := HG10.out; omega)))
    have J11 := Lib.hid j1
    have J10 := Lib.hid (H10.out.below j3)
    have J9 := Lib.hid (H9b.out.below j3)
    clear j1 j2 j3 H10 H9b HBs b0 b1 b3 HSv HRt HS3 hn10 hn9 HD0 HDA HZA
    have HBw : Hid (Below wa.heap.size wa wc) := by rw [HG10.out]; exact HBa.out
    have N1 := Lib.hid (L1.out.below HBw.out)
    have N2 := Lib.hid (L2.out.step (.below HBw.out))
    have N3 := Lib.hid (PF.trans L3.out (PF.below HBw.out))
    have NZ := Lib.hid (LZ.out.below HBw.out)
    clear HBa HBw L1 L2 L3 LZ H9
    obtain ⟨f0, f1, f2, f3, f4⟩ := (J11.out).c5
    have n3 : wc.cell? ⟨h9, 3, none⟩ = some (.slice o6 xt.length c6) := J9.out.cell 3
    have hl9 : h9 < wc.heap.size := J9.out.lt
    have HAl := Lib.hid (Below.refl wc.heap.size wc |>.alloc (Nat.le_refl _) (.cells #[.int .i64 rule, .int .i64 0, .int .i64 p, .int .i64 xe, .int .i64 xr] 43))
    have HSx := Lib.hid (N2.out.sv.below HAl.out)
    have HO1 := Lib.hid (twc_one xt)
    have HLm : Hid ((1 + xt.length) * 40 ≤ 140737488355328 ∧ 1 + xt.length ≤ maxLen) := by unfold Hid maxLen; omega
    have HLit : Hid (Own wc (wc.alloc (.cells #[.int .i64 rule, .int .i64 0, .int .i64 p, .int .i64 xe, .int .i64 xr] 43)) 43 5 (.slice (some ⟨wc.heap.size, 0, none⟩) 1 1) 1 (twc ⟨rule, 0, p, xe, xr⟩)) := Own.lit wc 43 #[.int .i64 rule, .int .i64 0, .int .i64 p, .int .i64 xe, .int .i64 xr] 1 5 (by decide) rfl
    go_upto_region 10 with (at_builtin; refine wpList_apps wc _ rfl (.tmp 57) (.tmp 59) 30 43 rfl elemTwR _ 1 _ rfl HLit.out o6 xt.length c6 (xt.flatMap twc) rfl HSx.out HO1.out HLm.out.1 HLm.out.2 ?_; intro v' w8 hO; have HOa := Lib.hid hO; have q3 : w8.cell? ⟨h9, 3, none⟩ = some (.slice o6 xt.length c6) := (J9.out.below hO.2).cell 3; have q3f := (J9.out.below hO.2).frozen 3; clear hO; obtain ⟨vo, vc, rfl, hvs⟩ := HOa.out.sv; clear hvs)
    have P9 : Hid (hrow (w8.setCell ⟨h9, 3, none⟩ (.slice vo (1 + xt.length) vc)) h9 #[.bool true, .int .i64 xe, .int .i64 xf, .slice vo (1 + xt.length) vc] 100) := heap_setCell_same _ _ _ _ _ _ (J9.out.below HOa.out.2).h
    have PFr := Lib.hid (Fr.setCell w8 ⟨h9, 3, none⟩ (.slice vo (1 + xt.length) vc))
    have PW := Lib.hid (TW.boxed (N1.out.below HOa.out.2) (J9.out.below HOa.out.2) (by have := HL5.out; have := HL6.out; omega) PFr.out)
    have PP := Lib.hid (PF.new (PF.trans N3.out (PF.below HOa.out.2)) PFr.out (fun k e => by have e' : k = h9 := e; have := HL5.out; have := HL6.out; omega))
    have PZ := Lib.hid ((NZ.out.below HOa.out.2).fr PFr.out (fun e => by have e' : h0 = h9 := e; have := HL6.out; omega))
    have P10 := Lib.hid ((J10.out.below HOa.out.2).fr PFr.out (fun e => by have e' : h10 = h9 := e; have := HL9.out; omega))
    have PT : Hid (∃ ao cap, (Value.slice vo (1 + xt.length) vc) = .slice ao ((⟨rule, 0, p, xe, xr⟩ : Tw) :: xt).length cap ∧ TrW (w8.setCell ⟨h9, 3, none⟩ (.slice vo (1 + xt.length) vc)) ao cap (⟨rule, 0, p, xe, xr⟩ :: xt)) := by
     obtain ⟨ao, cap, e, hn⟩ := NewT.of (n := 1 + xt.length) (t := ⟨rule, 0, p, xe, xr⟩ :: xt) (by simp; omega) (by simpa using HOa.out)
     exact ⟨ao, cap, e, hn.trw.gbox (J9.out.below HOa.out.2) PFr.out⟩
    clear q3 q3f n3 f0 f1 f2 f3 f4 HSx HAl HLit HOa N1 N2 N3 NZ J9 J10 J11 PFr
    revert P9 PW PP PZ P10 PT
    generalize w8.setCell _ _ = w9
    intro P9 PW PP PZ P10 PT
    obtain ⟨ao, cap, hvv, ht9⟩ := PT.out
    have HT9 := Lib.hid ht9
    simp only [Value.slice.injEq] at hvv
    obtain ⟨rfl, hln, rfl⟩ := hvv
    have HLn := Lib.hid hln
    clear PT ht9 hln
    obtain ⟨s0, s1⟩ := (P10.out).c2
    have HLe2 := Lib.hid (len_any w9 p xe hpe (by omega))
    have hsum : (p : Int) + ((xe : Int) - p) = xe := by omega
    have z1 : w9.cell? ⟨h9, 1, none⟩ = some (.int .i64 xe) := P9.out.cell 1
    go_wp2_with fail
    refine (HLe2.out).mono ?_
    rintro e wb2 ⟨rfl, hb2⟩
    have Q9 := Lib.hid (P9.out.below hb2)
    have QW := Lib.hid (PW.out.below hb2)
    have QP := Lib.hid (PF.trans PP.out (PF.below hb2))
    have QZ := Lib.hid (PZ.out.below hb2)
    have QT := Lib.hid (HT9.out.step (.below hb2))
    have z2 : wb2.cell? ⟨h9, 1, none⟩ = some (.int .i64 xe) := Q9.out.cell 1
    have z2f := Q9.out.frozen 1
    clear hb2 s0 s1 z1 HLe2 P9 PW PP PZ P10 HT9
    have hw1 : IntKind.i64.wrap ((p : Int) + ((xe : Int) - p)) = xe := by rw [hsum]; exact IntWalk.i64_in _ (by omega)
    have R9 : Hid (hrow (wb2.setCell ⟨h9, 1, none⟩ (.int .i64 xe)) h9 #[.bool true, .int .i64 xe, .int .i64 xf, .slice vo (1 + xt.length) vc] 100) := heap_setCell_same _ _ _ _ _ _ Q9.out.h
    have RFr := Lib.hid (Fr.setCell wb2 ⟨h9, 1, none⟩ (.int .i64 xe))
    have HJ : Hid (PCallJ K m w (ownR rule p ⟨true, xe, xf, xt, xr⟩) s2 es6 clock6 KS6 h9 h0 (wb2.setCell ⟨h9, 1, none⟩ (.int .i64 xe))) :=
     ⟨vo, vc, by have h := R9.out; rw [HLn.out] at h; exact h, TrW.gbox QT.out Q9.out RFr.out, TW.boxed QW.out Q9.out (by have := HL5.out; have := HL6.out; omega) RFr.out, PF.new QP.out RFr.out (fun k e => by have e' : k = h9 := e; have := HL5.out; have := HL6.out; omega), QZ.out.fr RFr.out (fun e => by have e' : h0 = h9 := e; have := HL6.out; omega)⟩
    clear R9 RFr Q9 QW QP QZ QT
    go_wp2_with fail
    go_meet
    exact ⟨rfl, HJ.out⟩
 case rest =>
  obtain ⟨rfl, yo, yc, j1, j2, j3, j4, j5⟩ := hcut
  generalize hye : ownR rule p ⟨xi, xe, xf, xt, xr⟩ = y at *
  have HYe := Lib.hid hye
  obtain ⟨yi, ye, yf, yt, yr⟩ := y
  simp only [] at j1 j2
  have J1 := Lib.hid j1
  have J2 := Lib.hid j2
  have J3 := Lib.hid j3
  have J4 := Lib.hid j4
  have J5 := Lib.hid j5
  clear j1 j2 j3 j4 j5 H9 L1 L2 L3 LZ hye e0 e1 e2 e3
  obtain ⟨e0, e1, e2, e3⟩ := (J1.out).c4
  go_upto_region 11 with (fail)
  go_still_tail 7, (by kernel_rfl)
  change wpList _ _ _ _ _ wc.drew
  have HD := (Below.refl wc.heap.size wc).drew
  have L1 := Lib.hid (J1.out.below HD)
  have L2 := Lib.hid (J2.out.step (.below HD))
  have L3 := Lib.hid (J3.out.below HD)
  have L4 := Lib.hid (PF.trans J4.out (PF.below HD))
  have L5 := Lib.hid (J5.out.below HD)
  clear e0 e1 e2 e3 J1 J2 J3 J4 J5 HD
  revert L1 L2 L3 L4 L5
  generalize wc.drew = wd
  intro L1 L2 L3 L4 L5
  have HPu := Lib.hid (put_old K m wd s2 es6 clock6 KS6 rule p true yi ye yf yt yr yo yc L3.out L2.out s.cells.length HK2.out HNd.out)
  go_wp2_with fail
  refine (HPu.out).mono ?_
  rintro e we ⟨rfl, g1, g3⟩
  have M1 := Lib.hid g1
  have M3 := Lib.hid (PF.trans L4.out g3)
  have M9 := Lib.hid (hrow.pf L3.out g3 L1.out (by decide))
  have M0 := Lib.hid (hrow.pf L3.out g3 L5.out (by decide))
  have MT := Lib.hid (TrW.pf L3.out g3 L2.out)
  clear g1 g3 L1 L2 L3 L4 L5 HPu
  obtain ⟨n0, n1, n2, n3⟩ := (M9.out).c4
  have hov : (shut rule p s.cells.length ⟨xi, xe, xf, xt, xr⟩ s2) = { s2 with cells := s2.cells.set s.cells.length ⟨rule, p, true, ⟨yi, ye, yf, yt, yr⟩⟩ } := by
   have hle : ¬ 2000 < yt.length := by have := HOl.out; omega
   unfold shut
   rw [HYe.out]
   simp [hle]
  have HFin := Lib.hid (HQ.out.trans (by rw [hov]))
  clear hov
  obtain ⟨zq0, zq1, zq2, zq3⟩ := (M0.out).c4
  obtain ⟨zf0, zf1, zf2, zf3⟩ := (M0.out).f4
  obtain ⟨ZR4, ZF4⟩ := set4_box (.bool yi) (.int .i64 ye) (.int .i64 yf) (.slice yo yt.length yc) (M0.out)
  go_wp2_with fail
  revert ZR4 ZF4
  generalize (((we.setCell _ _).setCell _ _).setCell _ _).setCell _ _ = wz
  intro ZR4 ZF4
  obtain ⟨zc0, zc1, zc2, zc3⟩ := (ZR4.out).c4
  exact bodyPost_ret (v := .agg #[.bool yi, .int .i64 ye, .int .i64 yf, .slice yo yt.length yc]) (by simp [results, Try.results40, go_sem, zc0, zc1, zc2, zc3]) rfl (by rw [HFin.out]; exact ⟨_, _, _, yo, yc, rfl, TW.boxed (M1.out) M0.out (by have := HH0.out; have := HLo.out; omega) ZF4.out, TrW.gbox (MT.out) M0.out ZF4.out, PF.new (M3.out) ZF4.out (fun k e => by have e' : k = h0 := e; have := HH0.out; omega)⟩)
end Go.Proofs.Ytdnkffplkleolaa
namespace Go.Proofs.Ytdnkffplkleolaa
open Go.RowKit Go.ChangeMaps
set_option maxRecDepth 100000
set_option maxHeartbeats 2000000

theorem prule_any (K : Env) (hK : EnvOk K) (m : Nat) (w : World) (s : St) (es : Array MapEntry) (clock : Nat) (KS : List (Ce × (Option Addr × Nat))) (rule p : Nat) (h : TW K m w s es clock KS) (f : Nat) (hN : NdC K m f) (hl : s.left ≤ f) (ht : f ≤ 20000) (hcn : s.cells.length + 1 + s.left ≤ 20001) (hs : StOk K.G.rules.length K.W.length s) (ho : s.over = false) (hr : rule < K.G.rules.length) (hp : p ≤ K.W.length) (hfin : (callR (ev K.G K.W f) K.G rule p s).2.over = false) :
  Calls Try.prog 40 #[.pointer (some ⟨K.g, 0, none⟩), .int .i64 rule, .int .i64 p] w (PEnd K m w (callR (ev K.G K.W f) K.G rule p s)) := by
 cases hf : s.cells.find? (keyB rule p) with
 | none => exact prule_new K hK m w s es clock KS rule p h f hN hl ht hcn hs ho hr hp hf hfin
 | some c =>
  obtain ⟨cr, cp, cd, ⟨ri, re, rf, rt, rr⟩⟩ := c
  rw [callR_hit hf]
  exact prule_hit K hK m w s es clock KS rule p h cr cp cd ri re rf rt rr hf
theorem pcall (K : Env) (hK : EnvOk K) (m : Nat) (w : World) (s : St) (es : Array MapEntry) (clock : Nat) (KS : List (Ce × (Option Addr × Nat))) (p : Nat) (x : Nd) (ko : Option Addr) (kc : Nat)
  (h : TW K m w s es clock KS) (hp : p ≤ K.W.length) (rl : Nat) (hrl : Hid (x.rule = rl)) (o : Rs × St) (hR : ∀ W', TW K m W' s es clock KS → Calls Try.prog 40 #[.pointer (some ⟨K.g, 0, none⟩), .int .i64 rl, .int .i64 p] W' (PEnd K m W' o)) :
  Calls Try.prog 80 #[.pointer (some ⟨K.g, 0, none⟩), .agg #[.int .i64 5, .int .u64 x.c0, .int .u64 x.c1, .int .u64 x.c2, .int .u64 x.c3, .string x.text, .int .i64 x.rule, .int .i64 x.lev, .slice ko x.kids.length kc], .int .i64 p] w (PEnd K m w o) := by
 have HR := Lib.hid hR
 clear hR
 have H := Lib.hid h
 have HP := Lib.hid hp
 have hpb : p ≤ 2048 := by have := hK.w2; have := hK.wl; omega
 have hwl := hK.wl
 have hwb := hK.inp.bound
 have hww := hK.w2
 obtain ⟨HB0, HX0, HZ0⟩ := box2 w #[.int .i64 5, .int .u64 x.c0, .int .u64 x.c1, .int .u64 x.c2, .int .u64 x.c3, .string x.text, .int .i64 x.rule, .int .i64 x.lev, .slice ko x.kids.length kc] #[.bool false, .int .i64 0, .int .i64 0, .slice none 0 0] 57 100
 have H1 := Lib.hid (h.below HB0.out)
 have HLo : Hid (K.base.heap.size ≤ w.heap.size) := h.low.size
 clear h hp
 go_enter Try.func80, Try.ntmps80
 go_upto_region 1 with (fail)
 revert HB0 HX0 HZ0 H1
 generalize (w.alloc _).alloc _ = w1
 generalize hh0 : w.heap.size + 1 = h0
 generalize hhx : w.heap.size = hx
 intro HB0 HX0 HZ0 H1
 have HH0 : Hid (w.heap.size = hx ∧ hx + 1 = h0) := ⟨hhx, by omega⟩
 have HB1 : Hid (Below w.heap.size w w1) := by rw [hhx]; exact HB0.out
 clear HB0 hh0 hhx
 obtain ⟨x0, x1, x2, x3, x4, x5, x6, x7, x8⟩ := (HX0.out).c9
 have x6' : w1.cell? ⟨hx, 6, none⟩ = some (.int .i64 rl) := by rw [← hrl.out]; exact x6
 have HCl := Lib.hid (HR.out w1 H1.out)
 clear x6
 obtain ⟨⟨xi, xe, xf, xt, xr⟩, s2⟩ := o
 go_wp2_with fail
 refine (HCl.out).mono ?_
 rintro e w6 ⟨es6, clock6, KS6, o6, c6, rfl, g1, g2, g3⟩
 simp only [gtv, gcs] at g1 g2 ⊢
 have G1 := Lib.hid g1
 have G2 := Lib.hid g2
 have G3 := Lib.hid (PF.trans (PF.below (K := K) (m := m) HB1.out) g3)
 have HZ6 := Lib.hid (hrow.pf H1.out g3 HZ0.out (by decide))
 clear g1 g2 g3 x0 x1 x2 x3 x4 x5 x6' x7 x8 HCl HR H1 HX0 HZ0 HB1 H
 obtain ⟨zq0, zq1, zq2, zq3⟩ := (HZ6.out).c4
 obtain ⟨zf0, zf1, zf2, zf3⟩ := (HZ6.out).f4
 obtain ⟨ZR4, ZF4⟩ := set4_box (.bool xi) (.int .i64 xe) (.int .i64 xf) (.slice o6 xt.length c6) (HZ6.out)
 go_wp2_with fail
 revert ZR4 ZF4
 generalize (((w6.setCell _ _).setCell _ _).setCell _ _).setCell _ _ = wz
 intro ZR4 ZF4
 obtain ⟨zc0, zc1, zc2, zc3⟩ := (ZR4.out).c4
 exact bodyPost_ret (v := .agg #[.bool xi, .int .i64 xe, .int .i64 xf, .slice o6 xt.length c6]) (by simp [results, Try.results80, go_sem, zc0, zc1, zc2, zc3]) rfl (⟨es6, clock6, KS6, o6, c6, rfl, TW.boxed (G1.out) HZ6.out (by have := HH0.out; have := HLo.out; omega) ZF4.out, TrW.gbox (G2.out) HZ6.out ZF4.out, PF.new (G3.out) ZF4.out (fun k e => by have e' : k = h0 := e; have := HH0.out; omega)⟩)
theorem way1 (w : World) : Calls Try.prog 69 #[.int .i64 1] w fun e w' => e = .returned (.func (.func 85) #[] #[]) ∧ w = w' := by
 go_enter Try.func69, Try.ntmps69
 go_wp2_with fail
 go_ret
 exact ⟨rfl, rfl⟩
theorem way2 (w : World) : Calls Try.prog 69 #[.int .i64 2] w fun e w' => e = .returned (.func (.func 85) #[] #[]) ∧ w = w' := by
 go_enter Try.func69, Try.ntmps69
 go_wp2_with fail
 go_ret
 exact ⟨rfl, rfl⟩
theorem way3 (w : World) : Calls Try.prog 69 #[.int .i64 3] w fun e w' => e = .returned (.func (.func 85) #[] #[]) ∧ w = w' := by
 go_enter Try.func69, Try.ntmps69
 go_wp2_with fail
 go_ret
 exact ⟨rfl, rfl⟩
theorem way4 (w : World) : Calls Try.prog 69 #[.int .i64 4] w fun e w' => e = .returned (.func (.func 79) #[] #[]) ∧ w = w' := by
 go_enter Try.func69, Try.ntmps69
 go_wp2_with fail
 go_ret
 exact ⟨rfl, rfl⟩
theorem way5 (w : World) : Calls Try.prog 69 #[.int .i64 5] w fun e w' => e = .returned (.func (.func 80) #[] #[]) ∧ w = w' := by
 go_enter Try.func69, Try.ntmps69
 go_wp2_with fail
 go_ret
 exact ⟨rfl, rfl⟩
theorem way6 (w : World) : Calls Try.prog 69 #[.int .i64 6] w fun e w' => e = .returned (.func (.func 81) #[] #[]) ∧ w = w' := by
 go_enter Try.func69, Try.ntmps69
 go_wp2_with fail
 go_ret
 exact ⟨rfl, rfl⟩
theorem way7 (w : World) : Calls Try.prog 69 #[.int .i64 7] w fun e w' => e = .returned (.func (.func 82) #[] #[]) ∧ w = w' := by
 go_enter Try.func69, Try.ntmps69
 go_wp2_with fail
 go_ret
 exact ⟨rfl, rfl⟩
theorem way8 (w : World) : Calls Try.prog 69 #[.int .i64 8] w fun e w' => e = .returned (.func (.func 83) #[] #[]) ∧ w = w' := by
 go_enter Try.func69, Try.ntmps69
 go_wp2_with fail
 go_ret
 exact ⟨rfl, rfl⟩
theorem way9 (w : World) : Calls Try.prog 69 #[.int .i64 9] w fun e w' => e = .returned (.func (.func 83) #[] #[]) ∧ w = w' := by
 go_enter Try.func69, Try.ntmps69
 go_wp2_with fail
 go_ret
 exact ⟨rfl, rfl⟩
theorem way10 (w : World) : Calls Try.prog 69 #[.int .i64 10] w fun e w' => e = .returned (.func (.func 84) #[] #[]) ∧ w = w' := by
 go_enter Try.func69, Try.ntmps69
 go_wp2_with fail
 go_ret
 exact ⟨rfl, rfl⟩
theorem way11 (w : World) : Calls Try.prog 69 #[.int .i64 11] w fun e w' => e = .returned (.func (.func 84) #[] #[]) ∧ w = w' := by
 go_enter Try.func69, Try.ntmps69
 go_wp2_with fail
 go_ret
 exact ⟨rfl, rfl⟩
theorem way12 (w : World) : Calls Try.prog 69 #[.int .i64 12] w fun e w' => e = .returned (.func (.func 84) #[] #[]) ∧ w = w' := by
 go_enter Try.func69, Try.ntmps69
 go_wp2_with fail
 go_ret
 exact ⟨rfl, rfl⟩
end Go.Proofs.Ytdnkffplkleolaa
