/- Walks and plain laws: Th Ti. -/
import Derived.Test.YtdnkffplkleolaaM23
import Derived.IntWalk
namespace Go.Proofs.Ytdnkffplkleolaa
open Go.RowKit Go.ChangeMaps
set_option maxRecDepth 100000
set_option maxHeartbeats 2000000

theorem txt_le {W : List Nat} {s : ByteArray} {p k : Nat} (hp : p ≤ W.length) (h : ∀ j, j < k → txtAt W s p j = true) : p + k ≤ W.length := by
 cases k with
 | zero => omega
 | succ k =>
  have := h k (by omega)
  unfold txtAt at this
  by_cases hl : p + k < W.length
  ·omega
  ·rw [List.getElem?_eq_none (by omega)] at this
   simp at this
def TxI (w1 : World) (W : List Nat) (s : ByteArray) (p k : Nat) (wr : World) : Prop := Below w1.heap.size w1 wr ∧ ∀ j, j < k → txtAt W s p j = true

theorem ptext (K : Env) (hK : EnvOk K) (m : Nat) (w : World) (s : St) (es : Array MapEntry) (clock : Nat) (KS : List (Ce × (Option Addr × Nat))) (p : Nat) (x : Nd) (ko : Option Addr) (kc : Nat)
  (h : TW K m w s es clock KS) (hp : p ≤ K.W.length) (hts : x.text.size ≤ 64) :
  Calls Try.prog 79 #[.pointer (some ⟨K.g, 0, none⟩), .agg #[.int .i64 4, .int .u64 x.c0, .int .u64 x.c1, .int .u64 x.c2, .int .u64 x.c3, .string x.text, .int .i64 x.rule, .int .i64 x.lev, .slice ko x.kids.length kc], .int .i64 p] w (fun e w' => e = .returned (gtv (txtR K.W x.text p) none 0) ∧ Below w.heap.size w w') := by
 have H := Lib.hid h
 have HP := Lib.hid hp
 have hpb : p ≤ 2048 := by have := hK.w2; have := hK.wl; omega
 have hwl := hK.wl
 have hwb := hK.inp.bound
 have hww := hK.w2
 obtain ⟨HB0, HX0, HZ0⟩ := box2 w #[.int .i64 4, .int .u64 x.c0, .int .u64 x.c1, .int .u64 x.c2, .int .u64 x.c3, .string x.text, .int .i64 x.rule, .int .i64 x.lev, .slice ko x.kids.length kc] #[.bool false, .int .i64 0, .int .i64 0, .slice none 0 0] 57 100
 have H1 := Lib.hid (h.below HB0.out)
 have HLo : Hid (K.base.heap.size ≤ w.heap.size) := h.low.size
 clear h hp
 go_enter Try.func79, Try.ntmps79
 go_upto_region 1 with (fail)
 revert HB0 HX0 HZ0 H1
 generalize (w.alloc _).alloc _ = w1
 generalize hh0 : w.heap.size + 1 = h0
 generalize hhx : w.heap.size = hx
 intro HB0 HX0 HZ0 H1
 have HH0 : Hid (w.heap.size = hx ∧ hx + 1 = h0) := ⟨hhx, by omega⟩
 have HB1 : Hid (Below w.heap.size w w1) := by rw [hhx]; exact HB0.out
 clear HB0 hh0 hhx
 obtain ⟨x0, x1, x2, x3, x4, x5, x6, x7, x8⟩ := (HX0.out).c9
 have HI0 : Hid (TxI w1 K.W x.text p 0 w1) := ⟨Below.refl _ _, fun j hj => absurd hj (by omega)⟩
 go_wp2_with fail
 go_loopw [11] (fun i wr => ∃ k : Nat, k ≤ x.text.size ∧ i = .int .i64 k ∧ Hid (TxI w1 K.W x.text p k wr)) (fun i _ => x.text.size - (intOf i).toNat)
 case atStart => exact ⟨0, by omega, rfl, HI0.out⟩
 case round =>
  obtain ⟨k, hk, rfl, HI⟩ := hrel
  clear HI0 x0 x1 x2 x3 x4 x5 x6 x7 x8
  have p4 : wr.cell? ⟨K.g, 4, none⟩ = some (.slice K.wo K.wn K.wc) := (H1.out.below HI.out.1).obj.cell 4
  have x5 : wr.cell? ⟨hx, 5, none⟩ = some (.string x.text) := (HX0.out.below HI.out.1).cell 5
  have hkz : (0 : Int) ≤ k := by omega
  have hw1 : IntKind.i64.wrap ((p : Int) + k) = p + k := IntWalk.i64_in _ (by omega)
  have hw2 : (0 : Int) ≤ (p : Int) + k := by omega
  have hw3 : ((p : Int) + k).toNat = p + k := by omega
  have hle := txt_le HP.out HI.out.2
  by_cases hit : k < x.text.size
  ·have hit' : (k : Int) < x.text.size := by omega
   by_cases hpk : p + k < K.W.length
   ·have hpk' : (p : Int) + k < K.wn := by omega
    have hpd : ((p : Int) + k == (K.wn : Int)) = false := by simp; omega
    obtain ⟨wa, hwa, hwc⟩ := hK.inp.cell (p + k) (by simp [bys]; omega)
    have hwc' : K.base.cell? (wa.add (p + k)) = some (.int .u8 (K.W[p + k]'hpk)) := by rw [hwc]; simp [bys, hpk]
    have p7 : wr.cell? (wa.add (p + k)) = some (.int .u8 (K.W[p + k]'hpk)) := ((H1.out.below HI.out.1).low.cell (World.block_lt_of_cell? _ _ hwc')).trans hwc'
    rw [hwa] at p4
    have hg : x.text.get! k = x.text[k]'hit := by simp [ByteArray.get!, hit]; rfl
    have HAt : Hid (txtAt K.W x.text p k = decide (((K.W[p + k]'hpk : Nat) : Int) = ((x.text[k]'hit).toNat : Int))) := by
     show txtAt K.W x.text p k = _
     unfold txtAt
     rw [List.getElem?_eq_getElem hpk, hg]
     rw [Bool.eq_iff_iff, beq_iff_eq, Option.some.injEq, decide_eq_true_iff]
     omega
    clear hwc hwc' hwa hg hle
    generalize K.W[p + k]'hpk = b at *
    by_cases hbe : (b : Int) = ((x.text[k]'hit).toNat : Int)
    ·have hbd : ((b : Int) != ((x.text[k]'hit).toNat : Int)) = false := by simp; omega
     have HTk : Hid (txtAt K.W x.text p k = true) := by show _ = true; rw [HAt.out]; simpa using hbe
     clear hbe HAt
     go_wp2_with fail
     go_quiet (fail)
     go_wp2_with fail
     go_roundw
     case rel =>
      refine ⟨k + 1, by omega, by go_num, below_drewN HI.out.1 _, fun j hj => ?_⟩
      by_cases e : j = k
      ·subst e; exact HTk.out
      ·exact HI.out.2 j (by omega)
     case measure => simp [intOf]; omega
    ·have hbd : ((b : Int) != ((x.text[k]'hit).toNat : Int)) = true := by simp; omega
     have HRes : Hid (txtR K.W x.text p = failR ((p : Int) + k)) := (txtR_no HI.out.2 hit (by rw [HAt.out]; simpa using hbe)).trans (by rw [Int.natCast_add])
     clear hbe HAt
     go_wp2_with fail
     go_quiet (fail)
     have HI5 : Hid (TxI w1 K.W x.text p k (wr.drewN nq)) := ⟨below_drewN HI.out.1 _, HI.out.2⟩
     clear p4 x5 p7 HI
     revert HI5
     generalize wr.drewN nq = w5
     intro HI5
     have HBw := Lib.hid (HB1.out.trans (HI5.out.1.mono HB1.out.size))
     have HZw := Lib.hid (HZ0.out.below HI5.out.1)
     go_wp2_with fail
     refine (pmiss_any w5 ((p : Int) + k)).mono ?_
     rintro e w6 ⟨rfl, hb6⟩
     simp only [gtv, gcs, failR, List.length_nil]
     have HZ6 := Lib.hid (HZw.out.below hb6)
     have HB6 := Lib.hid (HBw.out.trans (hb6.mono HBw.out.size))
     clear hb6
     obtain ⟨zq0, zq1, zq2, zq3⟩ := (HZ6.out).c4
     obtain ⟨zf0, zf1, zf2, zf3⟩ := (HZ6.out).f4
     obtain ⟨ZR4, ZF4⟩ := set4_box (.bool false) (.int .i64 0) (.int .i64 ((p : Int) + k)) (.slice none 0 0) (HZ6.out)
     go_wp2_with fail
     revert ZR4 ZF4
     generalize (((w6.setCell _ _).setCell _ _).setCell _ _).setCell _ _ = wz
     intro ZR4 ZF4
     obtain ⟨zc0, zc1, zc2, zc3⟩ := (ZR4.out).c4
     exact bodyPost_ret (v := .agg #[.bool false, .int .i64 0, .int .i64 ((p : Int) + k), .slice none 0 0]) (by simp [results, Try.results79, go_sem, zc0, zc1, zc2, zc3]) rfl (by rw [HRes.out]; exact ⟨rfl, below_box HB6.out ZF4.out (by have := HH0.out; omega) (Nat.le_refl _)⟩)
   ·have hpe : (p : Int) + k = K.wn := by omega
    have hpd : ((p : Int) + k == (K.wn : Int)) = true := by simp; omega
    have HPe := Lib.hid hpe
    have HRes : Hid (txtR K.W x.text p = failR ((p : Int) + k)) := (txtR_no HI.out.2 hit (by unfold txtAt; rw [List.getElem?_eq_none (by omega)]; rfl)).trans (by rw [Int.natCast_add])
    clear hpe hle
    go_wp2_with fail
    go_quiet (fail)
    have HI5 : Hid (TxI w1 K.W x.text p k (wr.drewN nq)) := ⟨below_drewN HI.out.1 _, HI.out.2⟩
    clear p4 x5 HI
    revert HI5
    generalize wr.drewN nq = w5
    intro HI5
    have HBw := Lib.hid (HB1.out.trans (HI5.out.1.mono HB1.out.size))
    have HZw := Lib.hid (HZ0.out.below HI5.out.1)
    go_wp2_with fail
    refine (pmiss_any w5 ((p : Int) + k)).mono ?_
    rintro e w6 ⟨rfl, hb6⟩
    simp only [gtv, gcs, failR, List.length_nil]
    have HZ6 := Lib.hid (HZw.out.below hb6)
    have HB6 := Lib.hid (HBw.out.trans (hb6.mono HBw.out.size))
    clear hb6
    obtain ⟨zq0, zq1, zq2, zq3⟩ := (HZ6.out).c4
    obtain ⟨zf0, zf1, zf2, zf3⟩ := (HZ6.out).f4
    obtain ⟨ZR4, ZF4⟩ := set4_box (.bool false) (.int .i64 0) (.int .i64 ((p : Int) + k)) (.slice none 0 0) (HZ6.out)
    go_wp2_with fail
    revert ZR4 ZF4
    generalize (((w6.setCell _ _).setCell _ _).setCell _ _).setCell _ _ = wz
    intro ZR4 ZF4
    obtain ⟨zc0, zc1, zc2, zc3⟩ := (ZR4.out).c4
    exact bodyPost_ret (v := .agg #[.bool false, .int .i64 0, .int .i64 ((p : Int) + k), .slice none 0 0]) (by simp [results, Try.results79, go_sem, zc0, zc1, zc2, zc3]) rfl (by rw [HRes.out]; exact ⟨rfl, below_box HB6.out ZF4.out (by have := HH0.out; omega) (Nat.le_refl _)⟩)
  ·have hge : (x.text.size : Int) ≤ k := by omega
   have hke : k = x.text.size := by omega
   subst hke
   have HRes : Hid (txtR K.W x.text p = toR (p + x.text.size)) := txtR_yes HI.out.2
   have HI5 := Lib.hid HI.out
   clear hle
   have HBw := Lib.hid (HB1.out.trans (HI5.out.1.mono HB1.out.size))
   have HZw := Lib.hid (HZ0.out.below HI5.out.1)
   go_wp2_with fail
   refine (pto_any wr (p + x.text.size)).mono ?_
   rintro e w6 ⟨rfl, hb6⟩
   simp only [gtv, gcs, toR, List.length_nil]
   have HZ6 := Lib.hid (HZw.out.below hb6)
   have HB6 := Lib.hid (HBw.out.trans (hb6.mono HBw.out.size))
   clear hb6
   obtain ⟨zq0, zq1, zq2, zq3⟩ := (HZ6.out).c4
   obtain ⟨zf0, zf1, zf2, zf3⟩ := (HZ6.out).f4
   obtain ⟨ZR4, ZF4⟩ := set4_box (.bool true) (.int .i64 (p + x.text.size)) (.int .i64 (-1)) (.slice none 0 0) (HZ6.out)
   go_wp2_with fail
   revert ZR4 ZF4
   generalize (((w6.setCell _ _).setCell _ _).setCell _ _).setCell _ _ = wz
   intro ZR4 ZF4
   obtain ⟨zc0, zc1, zc2, zc3⟩ := (ZR4.out).c4
   exact bodyPost_ret (v := .agg #[.bool true, .int .i64 (p + x.text.size), .int .i64 (-1), .slice none 0 0]) (by simp [results, Try.results79, go_sem, zc0, zc1, zc2, zc3]) rfl (by rw [HRes.out]; exact ⟨rfl, below_box HB6.out ZF4.out (by have := HH0.out; omega) (Nat.le_refl _)⟩)
end Go.Proofs.Ytdnkffplkleolaa
namespace Go.Proofs.Ytdnkffplkleolaa
open Go.RowKit Go.ChangeMaps
set_option maxRecDepth 100000
set_option maxHeartbeats 2000000

/-- What a match of the program's ends in. -/
def PEnd (K : Env) (m : Nat) (w : World) (o : Rs × St) (e : Ending) (w' : World) : Prop :=
 ∃ es clock KS ao cap, e = .returned (gtv o.1 ao cap) ∧ TW K m w' o.2 es clock KS ∧ TrW w' ao cap o.1.tree ∧ PF K m w w'
def NdC (K : Env) (m f : Nat) : Prop := ∀ (w : World) (s : St) (es : Array MapEntry) (clock : Nat) (KS : List (Ce × (Option Addr × Nat))) (n p : Nat), TW K m w s es clock KS → Cap f s → StOk K.G.rules.length K.W.length s → s.over = false → n < K.G.nodes.length → p ≤ K.W.length → (ev K.G K.W f s n p).2.over = false →
 Calls Try.prog 55 #[.pointer (some ⟨K.g, 0, none⟩), .int .i64 n, .int .i64 p] w (PEnd K m w (ev K.G K.W f s n p))
section
variable {K : Env} {m : Nat} {w w' : World}
theorem TW.boxed {s : St} {es : Array MapEntry} {clock : Nat} {KS : List (Ce × (Option Addr × Nat))} (h : TW K m w s es clock KS) {k : Nat} {cs : Array Value} (hr : hrow w k cs 100) (hk : K.base.heap.size ≤ k) (hf : Fr (fun i => i = k) w w') : TW K m w' s es clock KS :=
 h.fr hf (fun i hi => by have e : i = k := hi; subst e; exact ⟨hk, cs, _, hr, by decide, by decide⟩)
theorem TrW.gbox {ao : Option Addr} {cap : Nat} {t : List Tw} (h : TrW w ao cap t) {k : Nat} {cs : Array Value} (hr : hrow w k cs 100) (hf : Fr (fun i => i = k) w w') : TrW w' ao cap t :=
 sv_fr2 h hf (fun i cs' hi hr' => by have e : i = k := hi; subst e; exact row_ne hr hr' (by decide) rfl)
theorem tri_fail {L p : Nat} {x : Rs} (h : RsOk L p x) (hi : x.is = false) (far : Int) : triR x far = failR (max far x.far) := by
 obtain ⟨h1, h2, h3⟩ := h.no hi
 obtain ⟨xi, xe, xf, xt, xr⟩ := x
 simp only [] at h1 h2 h3 hi
 subst h1 h2 h3 hi
 simp only [triR, failR, Int.max_comm]
theorem seq_step {f : Nat} (hK : EnvOk K) {ks : List Int} {k p : Nat} {r : Rs} {s : St} {Z : Rs × St} (hk : k < ks.length) (hks : ∀ k ∈ ks, 0 ≤ k ∧ k < K.G.nodes.length) (hs : StOk K.G.rules.length K.W.length s) (hr : RsOk K.W.length p r) (hi : r.is = true)
  (hZ : seqR (ev K.G K.W f) (ks.drop k) r s = Z) (hZo : Z.2.over = false) : (ev K.G K.W f s (ks[k]'hk).toNat r.en).2.over = false := by
 have hE := fun s n p => ev_ok (W := K.W) hK.ok f s n p
 have hkn := hks _ (List.getElem_mem hk)
 have H := hE s (ks[k]'hk).toNat r.en hs (by omega) (hr.yes hi).1
 rw [seqR_drop hk] at hZ
 cases ho : (ev K.G K.W f s (ks[k]'hk).toNat r.en).2.over with
 | false => rfl
 | true =>
  by_cases hx : (ev K.G K.W f s (ks[k]'hk).toNat r.en).1.is = true
  ·rw [if_pos hx] at hZ
   have h2 := seqR_ok hE (ks.drop (k + 1)) p (beR r (ev K.G K.W f s (ks[k]'hk).toNat r.en).1) (ev K.G K.W f s (ks[k]'hk).toNat r.en).2 H.st (fun j hj => hks j (List.mem_of_mem_drop hj)) (hr.be hi H.rs hx) rfl
   rw [hZ] at h2
   rw [h2.over ho] at hZo
   cases hZo
  ·rw [if_neg hx] at hZ
   rw [← hZ] at hZo
   simp only [] at hZo
   rw [ho] at hZo
   cases hZo
end
/-- A loop over kids: r has come of those ahead. -/
def PSeqI (K : Env) (m f : Nat) (w : World) (p : Nat) (F : Rs → St → Rs × St) (Z : Rs × St) (M h7 h0 hx : Nat) (X : Array Value) (wr : World) : Prop :=
 ∃ r s es clock KS ao cap, hrow wr h7 #[.bool r.is, .int .i64 r.en, .int .i64 r.far, .slice ao r.tree.length cap] 100 ∧ hrow wr h0 #[.bool false, .int .i64 0, .int .i64 0, .slice none 0 0] 100 ∧ hrow wr hx X 57 ∧ TW K m wr s es clock KS ∧ TrW wr ao cap r.tree ∧ PF K m w wr ∧
  F r s = Z ∧ StOk K.G.rules.length K.W.length s ∧ RsOk K.W.length p r ∧ r.is = true ∧ Cap f s ∧ r.tree.length + 2001 * s.left ≤ M ∧ s.over = false

theorem pseq (K : Env) (hK : EnvOk K) (m : Nat) (w : World) (s : St) (es : Array MapEntry) (clock : Nat) (KS : List (Ce × (Option Addr × Nat))) (p : Nat) (x : Nd) (ko : Option Addr) (kc : Nat)
  (h : TW K m w s es clock KS) (hp : p ≤ K.W.length) (f : Nat) (hN : NdC K m f) (hc : Cap f s) (hs : StOk K.G.rules.length K.W.length s) (hov : s.over = false) (hkd : Sv K.base ko x.kids.length kc 1 (inc x.kids)) (hks : ∀ k ∈ x.kids, 0 ≤ k ∧ k < K.G.nodes.length) (hfin : (seqR (ev K.G K.W f) x.kids (toR p) s).2.over = false) :
  Calls Try.prog 81 #[.pointer (some ⟨K.g, 0, none⟩), .agg #[.int .i64 6, .int .u64 x.c0, .int .u64 x.c1, .int .u64 x.c2, .int .u64 x.c3, .string x.text, .int .i64 x.rule, .int .i64 x.lev, .slice ko x.kids.length kc], .int .i64 p] w (PEnd K m w (seqR (ev K.G K.W f) x.kids (toR p) s)) := by
 have HFin := Lib.hid hfin
 clear hfin
 have HN := Lib.hid hN
 have HC := Lib.hid hc
 have HS := Lib.hid hs
 have HOv := Lib.hid hov
 have HKd := Lib.hid hkd
 have HKs := Lib.hid hks
 have hkb := hkd.bound
 clear hN hc hs hov hkd hks
 have H := Lib.hid h
 have HP := Lib.hid hp
 have hpb : p ≤ 2048 := by have := hK.w2; have := hK.wl; omega
 have hwl := hK.wl
 have hwb := hK.inp.bound
 have hww := hK.w2
 obtain ⟨HB0, HX0, HZ0⟩ := box2 w #[.int .i64 6, .int .u64 x.c0, .int .u64 x.c1, .int .u64 x.c2, .int .u64 x.c3, .string x.text, .int .i64 x.rule, .int .i64 x.lev, .slice ko x.kids.length kc] #[.bool false, .int .i64 0, .int .i64 0, .slice none 0 0] 57 100
 have H1 := Lib.hid (h.below HB0.out)
 have HLo : Hid (K.base.heap.size ≤ w.heap.size) := h.low.size
 clear h hp
 go_enter Try.func81, Try.ntmps81
 go_upto_region 1 with (fail)
 revert HB0 HX0 HZ0 H1
 generalize (w.alloc _).alloc _ = w1
 generalize hh0 : w.heap.size + 1 = h0
 generalize hhx : w.heap.size = hx
 intro HB0 HX0 HZ0 H1
 have HH0 : Hid (w.heap.size = hx ∧ hx + 1 = h0) := ⟨hhx, by omega⟩
 have HB1 : Hid (Below w.heap.size w w1) := by rw [hhx]; exact HB0.out
 clear HB0 hh0 hhx
 obtain ⟨x0, x1, x2, x3, x4, x5, x6, x7, x8⟩ := (HX0.out).c9
 have HPF1 : Hid (PF K m w w1) := PF.below HB1.out
 go_wp2_with fail
 refine (pto_any w1 p).mono ?_
 rintro e w2 ⟨rfl, hb2⟩
 simp only [gtv, gcs, toR, List.length_nil]
 have HX2 := Lib.hid (HX0.out.below hb2)
 have HZ2 := Lib.hid (HZ0.out.below hb2)
 have HB2 := Lib.hid (HB1.out.trans (hb2.mono HB1.out.size))
 clear hb2 HX0 HZ0 HB1 HPF1 H1 x0 x1 x2 x3 x4 x5 x6 x7 x8
 obtain ⟨HAl, H7⟩ := box1 w2 #[.bool true, .int .i64 p, .int .i64 (-1), .slice none 0 0] 100
 have HX3 := Lib.hid (HX2.out.below HAl.out)
 have HZ3 := Lib.hid (HZ2.out.below HAl.out)
 have HB3 := Lib.hid (HB2.out.trans (HAl.out.mono HB2.out.size))
 have HLt : Hid (h0 < w2.heap.size) := HZ2.out.lt
 go_upto_region 2 with (fail)
 clear HX2 HZ2 HB2 HAl
 revert H7 HX3 HZ3 HB3 HLt
 generalize w2.alloc _ = w3
 generalize w2.heap.size = h7
 intro H7 HX3 HZ3 HB3 HLt
 have HI0 : Hid (PSeqI K m f w p (fun r s' => seqR (ev K.G K.W f) (x.kids.drop 0) r s') (seqR (ev K.G K.W f) x.kids (toR p) s) (2001 * s.left) h7 h0 hx #[.int .i64 6, .int .u64 x.c0, .int .u64 x.c1, .int .u64 x.c2, .int .u64 x.c3, .string x.text, .int .i64 x.rule, .int .i64 x.lev, .slice ko x.kids.length kc] w3) :=
  ⟨toR p, s, es, clock, KS, none, 0, H7.out, HZ3.out, HX3.out, H.out.below HB3.out, TrW.nil _, PF.below HB3.out, rfl, HS.out, .at (by decide) (by omega) (Nat.le_refl _) HP.out, rfl, HC.out, by simp [toR], HOv.out⟩
 have HTop : Hid (s.left ≤ 20000) := Nat.le_trans HC.out.left HC.out.top
 have x8 : w3.cell? ⟨hx, 8, none⟩ = some (.slice ko x.kids.length kc) := HX3.out.cell 8
 clear H7 HX3 HZ3 HB3 H HS HC HOv
 generalize seqR (ev K.G K.W f) x.kids (toR p) s = Z at *
 go_wp2_with fail
 go_loopw [16] (fun i wr => ∃ k : Nat, k ≤ x.kids.length ∧ i = .int .i64 k ∧ Hid (PSeqI K m f w p (fun r s' => seqR (ev K.G K.W f) (x.kids.drop k) r s') Z (2001 * s.left) h7 h0 hx #[.int .i64 6, .int .u64 x.c0, .int .u64 x.c1, .int .u64 x.c2, .int .u64 x.c3, .string x.text, .int .i64 x.rule, .int .i64 x.lev, .slice ko x.kids.length kc] wr)) (fun i _ => x.kids.length - (intOf i).toNat)
 case atStart => exact ⟨0, by omega, rfl, HI0.out⟩
 case round =>
  obtain ⟨k, hkl, rfl, HI⟩ := hrel
  by_cases hit : k < x.kids.length
  ·have hit' : (k : Int) < x.kids.length := by omega
   have hkz : (0 : Int) ≤ k := by omega
   obtain ⟨⟨ri, re, rf, rt, rr⟩, s', es', clock', KS', ao, cap, i1, i2, i3, i4, i5, i6, i7, i8, i9, i10, i11, i12, i13⟩ := HI.out
   clear HI HI0 x8
   simp only [] at i1 i5 i7 i9 i10 i12
   subst i10
   have HR := Lib.hid i1
   have HZ := Lib.hid i2
   have HX := Lib.hid i3
   have HW := Lib.hid i4
   have HT := Lib.hid i5
   have HF := Lib.hid i6
   have HQ := Lib.hid i7
   have HSt := Lib.hid i8
   have HRo := Lib.hid i9
   have HCp := Lib.hid i11
   have HLe := Lib.hid i12
   have HOv := Lib.hid i13
   have HKo := Lib.hid (seq_step hK hit HKs.out i8 i9 rfl i7 HFin.out)
   clear i1 i2 i3 i4 i5 i6 i7 i8 i9 i11 i12 i13
   have r1 : wr.cell? ⟨h7, 1, none⟩ = some (.int .i64 re) := HR.out.cell 1
   obtain ⟨kb, rfl, hkc⟩ := HKd.out.cell k (by simp [inc]; omega)
   have hkc' : K.base.cell? (kb.add k) = some (.int .i64 (x.kids[k]'hit)) := by rw [hkc]; simp [inc, hit]
   have hkd := (HW.out.low.cell (World.block_lt_of_cell? _ _ hkc')).trans hkc'
   have hkr := HKs.out _ (List.getElem_mem hit)
   have HQ2 := Lib.hid ((seqR_drop hit _ _).symm.trans HQ.out)
   clear HQ hkc hkc'
   generalize x.kids[k]'hit = q at *
   obtain ⟨n, rfl⟩ : ∃ n : Nat, q = n := ⟨q.toNat, by omega⟩
   simp only [Int.toNat_natCast] at HQ2 HKo
   have hyes := HRo.out.yes rfl
   have HPo := Lib.hid (ev_ok (W := K.W) hK.ok f s' n re HSt.out (by omega) hyes.1)
   have HCl := Lib.hid (HN.out wr s' es' clock' KS' n re HW.out HCp.out HSt.out HOv.out (by omega) hyes.1 HKo.out)
   clear hkr hyes
   generalize ev K.G K.W f s' n re = o at *
   obtain ⟨⟨xi, xe, xf, xt, xr⟩, s2⟩ := o
   simp only [] at HQ2 HKo
   go_upto_region 6 with (go_at_call 55; refine (HCl.out).mono ?_; rintro e w3 ⟨es3, clock3, KS3, o3, c3, rfl, g1, g2, g3⟩; simp only [gtv, gcs] at g1 g2 ⊢; have G1 := Lib.hid g1; have G2 := Lib.hid g2; have G3 := Lib.hid (HF.out.trans g3); have GR := Lib.hid (hrow.pf HW.out g3 HR.out (by decide)); have GZ := Lib.hid (hrow.pf HW.out g3 HZ.out (by decide)); have GX := Lib.hid (hrow.pf HW.out g3 HX.out (by decide)); have GT_ := Lib.hid (TrW.pf HW.out g3 HT.out); clear g1 g2 g3)
   obtain ⟨HAl, H10⟩ := box1 w3 #[.bool xi, .int .i64 xe, .int .i64 xf, .slice o3 xt.length c3] 100
   have L1 := Lib.hid (G1.out.below HAl.out)
   have L2 := Lib.hid (G2.out.step (.below HAl.out))
   have L3 := Lib.hid (PF.trans G3.out (PF.below HAl.out))
   have LR := Lib.hid (GR.out.below HAl.out)
   have LZ := Lib.hid (GZ.out.below HAl.out)
   have LX := Lib.hid (GX.out.below HAl.out)
   have LT := Lib.hid (GT_.out.step (.below HAl.out))
   clear G1 G2 G3 GR GZ GX GT_ HAl r1 hkd HR HZ HX HT HW HF HCl
   revert H10 L1 L2 L3 LR LZ LX LT
   generalize w3.alloc _ = w4
   generalize w3.heap.size = h10
   intro H10 L1 L2 L3 LR LZ LX LT
   obtain ⟨e0, e1, e2, e3⟩ := (H10.out).c4
   obtain ⟨r0, r1, r2, r3⟩ := (LR.out).c4
   cases xi
   ·have HQ3 := Lib.hid ((if_neg Bool.false_ne_true).symm.trans HQ2.out)
    clear HQ2
    have htf := tri_fail HPo.out.rs rfl rf
    simp only [] at htf
    have HTf := Lib.hid htf
    have hnt : xt = [] := (HPo.out.rs.no rfl).2.1
    have HTr := Lib.hid (ptried_any w4 ⟨false, xe, xf, xt, xr⟩ o3 c3 rf)
    have HL2 : Hid (TrW w4 o3 c3 []) := hnt ▸ L2.out
    clear htf hnt
    go_wp2_with fail
    refine (HTr.out).mono ?_
    rintro e w6 ⟨rfl, hb6⟩
    rw [HTf.out]
    simp only [gtv, gcs, failR, List.length_nil]
    have HZ6 := Lib.hid (LZ.out.below hb6)
    have HW6 := Lib.hid (L1.out.below hb6)
    have HT6 := Lib.hid (HL2.out.step (.below hb6))
    have HF6 := Lib.hid (PF.trans L3.out (PF.below hb6))
    clear hb6
    obtain ⟨zq0, zq1, zq2, zq3⟩ := (HZ6.out).c4
    obtain ⟨zf0, zf1, zf2, zf3⟩ := (HZ6.out).f4
    obtain ⟨ZR4, ZF4⟩ := set4_box (.bool false) (.int .i64 0) (.int .i64 (max rf xf)) (.slice o3 0 c3) (HZ6.out)
    go_wp2_with fail
    revert ZR4 ZF4
    generalize (((w6.setCell _ _).setCell _ _).setCell _ _).setCell _ _ = wz
    intro ZR4 ZF4
    obtain ⟨zc0, zc1, zc2, zc3⟩ := (ZR4.out).c4
    exact bodyPost_ret (v := .agg #[.bool false, .int .i64 0, .int .i64 (max rf xf), .slice o3 0 c3]) (by simp [results, Try.results81, go_sem, zc0, zc1, zc2, zc3]) rfl (by rw [← HQ3.out]; exact ⟨es3, clock3, KS3, o3, c3, rfl, TW.boxed (HW6.out) HZ6.out (by have := HH0.out; have := HLo.out; omega) ZF4.out, TrW.gbox (HT6.out) HZ6.out ZF4.out, PF.new (HF6.out) ZF4.out (fun k e => by have e' : k = h0 := e; have := HH0.out; omega)⟩)
   ·have HQ3 := Lib.hid ((if_pos rfl).symm.trans HQ2.out)
    clear HQ2
    have l1 : rt.length ≤ 100000000 := by have := HLe.out; have := HTop.out; omega
    have l2 : xt.length ≤ 100000000 := by have h : xt.length + 2001 * s2.left ≤ 2001 * s'.left := HPo.out.len; have := HCp.out.left; have := HCp.out.top; omega
    have HTh := Lib.hid (pthen_any w4 ⟨true, re, rf, rt, rr⟩ ⟨true, xe, xf, xt, xr⟩ ao o3 cap c3 LT.out.sv L2.out.sv l1 l2)
    go_wp2_with fail
    refine (HTh.out).mono ?_
    rintro e w6 ⟨go, gc, rfl, hn⟩
    have HRb := Lib.hid (HRo.out.be rfl HPo.out.rs rfl)
    have HLb : Hid ((beR ⟨true, re, rf, rt, rr⟩ ⟨true, xe, xf, xt, xr⟩).tree.length + 2001 * s2.left ≤ 2001 * s.left) := by
     have h : xt.length + 2001 * s2.left ≤ 2001 * s'.left := HPo.out.len
     have h2 := HLe.out
     show (rt ++ xt).length + 2001 * s2.left ≤ 2001 * s.left
     rw [List.length_append]
     omega
    have hbe : (beR ⟨true, re, rf, rt, rr⟩ ⟨true, xe, xf, xt, xr⟩).is = true ∧ (beR ⟨true, re, rf, rt, rr⟩ ⟨true, xe, xf, xt, xr⟩).en = xe := ⟨rfl, rfl⟩
    clear HTh
    generalize beR ⟨true, re, rf, rt, rr⟩ ⟨true, xe, xf, xt, xr⟩ = y at *
    obtain ⟨yi, ye, yf, yt, yr⟩ := y
    simp only [] at hbe
    obtain ⟨rfl, rfl⟩ := hbe
    simp only [gtv, gcs]
    have HN6 := Lib.hid hn.trw
    have HR6 := Lib.hid (LR.out.below hn.1)
    have HZ6 := Lib.hid (LZ.out.below hn.1)
    have HX6 := Lib.hid (LX.out.below hn.1)
    have HW6 := Lib.hid (L1.out.below hn.1)
    have HF6 := Lib.hid (PF.trans L3.out (PF.below hn.1))
    have HC2 := Lib.hid (HCp.out.of HPo.out.step HCp.out.top HCp.out.left)
    have HS2 := Lib.hid HPo.out.st
    clear hn e0 e1 e2 e3 r0 r1 r2 r3 L1 L2 L3 LR LZ LX LT H10
    obtain ⟨zq0, zq1, zq2, zq3⟩ := (HR6.out).c4
    obtain ⟨zf0, zf1, zf2, zf3⟩ := (HR6.out).f4
    obtain ⟨ZR4, ZF4⟩ := set4_box (.bool true) (.int .i64 ye) (.int .i64 yf) (.slice go yt.length gc) HR6.out
    go_wp2_with fail
    revert ZR4 ZF4
    generalize (((w6.setCell _ _).setCell _ _).setCell _ _).setCell _ _ = wz
    intro ZR4 ZF4
    go_roundw
    case rel =>
     refine ⟨k + 1, by omega, by go_num, ⟨_, s2, es3, clock3, KS3, go, gc, ZR4.out, HZ6.out.fr ZF4.out (by have := HLt.out; omega), HX6.out.fr ZF4.out (by have := HLt.out; have := HH0.out; omega), TW.boxed HW6.out HR6.out (by have := HLo.out; have := HLt.out; have := HH0.out; omega) ZF4.out, TrW.gbox HN6.out HR6.out ZF4.out, PF.new HF6.out ZF4.out (fun k e => by have e' : k = h7 := e; have := HLt.out; have := HH0.out; omega), HQ3.out, HS2.out, HRb.out, rfl, HC2.out, HLb.out, HKo.out⟩⟩
    case measure => simp [intOf]; omega
  ·have hge : (x.kids.length : Int) ≤ k := by omega
   obtain ⟨⟨ri, re, rf, rt, rr⟩, s', es', clock', KS', ao, cap, i1, i2, i3, i4, i5, i6, i7, i8, i9, i10, i11, i12, i13⟩ := HI.out
   simp only [] at i1 i5 i7 i10
   subst i10
   rw [List.drop_eq_nil_of_le (by omega)] at i7
   have HR := Lib.hid i1
   have HZ6 := Lib.hid i2
   have HW6 := Lib.hid i4
   have HT6 := Lib.hid i5
   have HF6 := Lib.hid i6
   have HQ3 : Hid ((⟨true, re, rf, rt, rr⟩, s') = Z) := i7
   obtain ⟨r0, r1, r2, r3⟩ := (HR.out).c4
   clear i1 i2 i3 i4 i5 i6 i7 i8 i9 i11 i12 i13 HI HI0 x8
   obtain ⟨zq0, zq1, zq2, zq3⟩ := (HZ6.out).c4
   obtain ⟨zf0, zf1, zf2, zf3⟩ := (HZ6.out).f4
   obtain ⟨ZR4, ZF4⟩ := set4_box (.bool true) (.int .i64 re) (.int .i64 rf) (.slice ao rt.length cap) (HZ6.out)
   go_wp2_with fail
   revert ZR4 ZF4
   generalize (((wr.setCell _ _).setCell _ _).setCell _ _).setCell _ _ = wz
   intro ZR4 ZF4
   obtain ⟨zc0, zc1, zc2, zc3⟩ := (ZR4.out).c4
   exact bodyPost_ret (v := .agg #[.bool true, .int .i64 re, .int .i64 rf, .slice ao rt.length cap]) (by simp [results, Try.results81, go_sem, zc0, zc1, zc2, zc3]) rfl (by rw [← HQ3.out]; exact ⟨es', clock', KS', ao, cap, rfl, TW.boxed (HW6.out) HZ6.out (by have := HH0.out; have := HLo.out; omega) ZF4.out, TrW.gbox (HT6.out) HZ6.out ZF4.out, PF.new (HF6.out) ZF4.out (fun k e => by have e' : k = h0 := e; have := HH0.out; omega)⟩)
end Go.Proofs.Ytdnkffplkleolaa
