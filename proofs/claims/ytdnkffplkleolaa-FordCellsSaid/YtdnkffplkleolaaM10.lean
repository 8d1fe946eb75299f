/- Walks and plain laws: Rg. -/
import Derived.Test.YtdnkffplkleolaaM09
import Derived.StillTailTactics
import Derived.Deep.RegionLaw
namespace Go.Proofs.Ytdnkffplkleolaa
open Go.RowKit
set_option maxRecDepth 100000
set_option maxHeartbeats 4000000

theorem RW.cells {K : Env} {w : World} {s : St} {v : Value} {KS : List (Ce × (Option Addr × Nat))} (h : RW K w s v KS) (h0 : 0 < KS.length) : ∃ q cap, v = .slice (some ⟨q, 0, none⟩) KS.length cap ∧ KS.length ≤ cap ∧ cap ≤ maxLen ∧ ∀ i (hi : i < KS.length) j u, (cec (KS[i]'hi))[j]? = some u → w.cell? ⟨q, i * 8 + j, none⟩ = some u := by
 rcases h.row.2 with ⟨_, hn⟩ | ⟨q, cap, cur, hv, hq, hh, h1, h2, h3, h4⟩
 ·omega
 ·refine ⟨q, cap, hv, h1, h2, fun i hi j u hj => ?_⟩
  have hjs : j < 8 := by have := (List.getElem?_eq_some_iff.1 hj).1; rw [cec_len] at this; exact this
  have e := fl_get cec_len KS i j hi hjs
  rw [hj] at e
  have := h.row.cells (g := q) (by rw [hv]; rfl) (i * 8 + j) u e
  unfold Addr.add at this
  split at this
  ·rename_i hz; simpa [hz] using this
  ·simpa using this
theorem RW.thawed {K : Env} {w : World} {s : St} {q n cap : Nat} {KS : List (Ce × (Option Addr × Nat))} (h : RW K w s (.slice (some ⟨q, 0, none⟩) n cap) KS) (o : Nat) : w.frozen? ⟨q, o, none⟩ = false := by
 rcases h.row.2 with ⟨h0, _⟩ | ⟨q', cap', cur, hv, hq, hh, _⟩
 ·cases h0
 ·cases hv
  exact hrow.frozen (cs := cur) hh o
theorem RW.slc {K : Env} {w : World} {s : St} {v : Value} {KS : List (Ce × (Option Addr × Nat))} (h : RW K w s v KS) : ∃ ao cap, v = .slice ao KS.length cap ∧ KS.length ≤ cap ∧ cap ≤ 9223372036854775807 := by
 obtain ⟨ao, cap, hv, hs⟩ := Sv.of_owns h.row
 exact ⟨ao, cap, hv, hs.bound⟩

def FindI (cs : List Ce) (rule p : Nat) (k : Nat) : Prop := cs.find? (keyB rule p) = (cs.drop k).find? (keyB rule p)
theorem findI_next {cs : List Ce} {rule p k : Nat} {c : Ce} (h : FindI cs rule p k) (hc : cs[k]? = some c) (hk : keyB rule p c = false) : FindI cs rule p (k + 1) := by
 unfold FindI at *
 obtain ⟨hk1, rfl⟩ := List.getElem?_eq_some_iff.1 hc
 rw [h, List.drop_eq_getElem_cons hk1, List.find?_cons, hk]
theorem findI_hit {cs : List Ce} {rule p k : Nat} {c : Ce} (h : FindI cs rule p k) (hc : cs[k]? = some c) (hk : keyB rule p c = true) : cs.find? (keyB rule p) = some c := by
 unfold FindI at *
 obtain ⟨hk1, rfl⟩ := List.getElem?_eq_some_iff.1 hc
 rw [h, List.drop_eq_getElem_cons hk1, List.find?_cons, hk]
theorem findI_end {cs : List Ce} {rule p k : Nat} (h : FindI cs rule p k) (hk : cs.length ≤ k) : cs.find? (keyB rule p) = none := by
 unfold FindI at *
 rw [h, List.drop_eq_nil_of_le hk]; rfl

theorem callR_hit {E : St → Nat → Nat → Rs × St} {G : Gr} {rule p : Nat} {s : St} {c : Ce} (h : s.cells.find? (keyB rule p) = some c) : callR E G rule p s = (c.res, { s with round := s.round || !c.done }) := by
 unfold callR; rw [h]
theorem callR_new {E : St → Nat → Nat → Rs × St} {G : Gr} {rule p n : Nat} {s : St} (h : s.cells.find? (keyB rule p) = none) (hr : rule < G.rules.length) (hn : (G.rules[rule]'hr).body.toNat = n) :
  callR E G rule p s = (ownR rule p (E (open0 rule p s) n p).1, shut rule p s.cells.length (E (open0 rule p s) n p).1 (E (open0 rule p s) n p).2) := by
 unfold callR; rw [h, List.getElem?_eq_getElem hr]; simp only [hn]
/-- What stands behind a rule's own twig. -/
def CallJ (K : Env) (w : World) (y : Rs) (s2 : St) (v3 : Value) (KS3 : List (Ce × (Option Addr × Nat))) (h9 h0 : Nat) (wx : World) : Prop :=
 ∃ yo yc, hrow wx h9 #[.bool y.is, .int .i64 y.en, .int .i64 y.far, .slice yo y.tree.length yc, .int .i64 y.roots] 64 ∧ TrW wx yo yc y.tree ∧ RW K wx s2 v3 KS3 ∧ RF w wx ∧ hrow wx h0 #[.bool false, .int .i64 0, .int .i64 0, .slice none 0 0, .int .i64 0] 64
theorem callJ_mk {K : Env} {w wa wv wz : World} {rule p xe xr : Nat} {xf : Int} {xt : List Tw} {s2 : St} {v3 : Value} {KS3 : List (Ce × (Option Addr × Nat))} {h9 h0 : Nat} {vo : Option Addr} {vc : Nat} {cs : Array Value}
  (G1 : RW K wa s2 v3 KS3) (G3 : RF w wa) (GR : hrow wa h0 #[.bool false, .int .i64 0, .int .i64 0, .slice none 0 0, .int .i64 0] 64) (H9 : hrow wv h9 cs 64)
  (HO : Own wa wv 43 5 (.slice vo (1 + xt.length) vc) (1 + xt.length) (twc ⟨rule, 0, p, xe, xr⟩ ++ xt.flatMap twc)) (ZR : hrow wz h9 #[.bool true, .int .i64 xe, .int .i64 xf, .slice vo (1 + xt.length) vc, .int .i64 1] 64)
  (ZF : Fr (fun k => k = h9) wv wz) (hlt : h0 < h9) (hb : K.base.heap.size ≤ h9) (hw : w.heap.size ≤ h9) : CallJ K w (ownR rule p ⟨true, xe, xf, xt, xr⟩) s2 v3 KS3 h9 h0 wz := by
 have hl : 1 + xt.length = ((⟨rule, 0, p, xe, xr⟩ : Tw) :: xt).length := by simp; omega
 obtain ⟨ao, cap, e, hn⟩ := NewT.of hl (t := ⟨rule, 0, p, xe, xr⟩ :: xt) (by simpa using HO)
 rw [hl] at e ZR
 cases e
 exact ⟨vo, vc, ZR, hn.trw.boxed H9 ZF, (G1.below HO.2).boxed H9 hb ZF, (G3.trans (.below HO.2)).new ZF (fun k e => by have e' : k = h9 := e; omega), (GR.below HO.2).fr ZF (by omega)⟩
theorem elemCeR : Elem Try.prog 60 98 8 80 (.agg #[.int .i64 0, .int .i64 0, .bool false, .bool false, .int .i64 0, .int .i64 0, .slice none 0 0, .int .i64 0]) := ⟨by kernel_rfl, by kernel_rfl, by decide, by decide⟩

theorem rcall_any (K : Env) (hK : EnvOk K) (f : Nat) (hE : EvC K f) (w : World) (s : St) (v : Value) (KS : List (Ce × (Option Addr × Nat))) (rule p : Nat)
  (h : RW K w s v KS) (hl : s.left ≤ f) (ht : f ≤ 20000) (hcn : s.cells.length + 1 + s.left ≤ 20001) (hs : StOk K.G.rules.length K.W.length s) (ho : s.over = false) (hr : rule < K.G.rules.length) (hp : p ≤ K.W.length) :
  Calls Try.prog 18 #[.pointer (some ⟨K.g, 0, none⟩), .int .i64 rule, .int .i64 p] w (REnd K w (callR (ev K.G K.W f) K.G rule p s)) := by
 have H := Lib.hid h
 have HE := Lib.hid hE
 have HL : Hid (s.left ≤ f ∧ f ≤ 20000 ∧ s.cells.length + 1 + s.left ≤ 20001) := ⟨hl, ht, hcn⟩
 have HS := Lib.hid hs
 have HO := Lib.hid ho
 have HP := Lib.hid hp
 have HEV := Lib.hid (@ev_ok K.G K.W hK.ok f)
 have HKS : Hid (KS.length = s.cells.length) := by unfold Hid; rw [← h.eq]; simp
 have hrl : rule ≤ 32 := by have := hK.ok.rl; omega
 have hpl : p ≤ 2048 := by have := hK.w2; have := hK.wl; omega
 have HLo : Hid (K.base.heap.size ≤ w.heap.size) := h.low.size
 have hkl : KS.length ≤ 20000 := by have := HKS.out; omega
 obtain ⟨ao0, cap0, hv0, hv1, hv2⟩ := h.slc
 have HB0 := Lib.hid (al1 (Below.refl w.heap.size w) (.cells #[.bool false, .int .i64 0, .int .i64 0, .slice none 0 0, .int .i64 0] 64))
 have HR0 := Lib.hid (hrow.new w #[.bool false, .int .i64 0, .int .i64 0, .slice none 0 0, .int .i64 0] 64)
 subst hv0
 clear h hs ho hE hl ht hcn
 go_enter Try.func18, Try.ntmps18
 go_wp2_with fail
 revert HB0 HR0
 generalize w.alloc _ = w1
 generalize hh0 : w.heap.size = h0
 intro HB0 HR0
 have HH0 := Lib.hid hh0
 have HW1 := Lib.hid (H.out.below (hh0 ▸ HB0.out))
 have oc3 : w1.cell? ⟨K.g, 3, none⟩ = some (.slice ao0 KS.length cap0) := HW1.out.obj.cell 3
 have HI0 : Hid (FindI s.cells rule p 0) := rfl
 clear hh0
 go_loopw [7] (fun i wr => ∃ k : Nat, k ≤ KS.length ∧ i = .int .i64 k ∧ wr = w1 ∧ Hid (FindI s.cells rule p k)) (fun i _ => KS.length - (intOf i).toNat)
 case atStart => exact ⟨0, by omega, rfl, rfl, HI0.out⟩
 case round =>
  obtain ⟨k, hk, rfl, rfl, HI⟩ := hrel
  by_cases hit : k < KS.length
  ·obtain ⟨q, cap, hv, hq1, hq2, hq3⟩ := HW1.out.cells (by omega)
   cases hv
   have HQ := Lib.hid (hq3 k hit)
   have HM : Hid (KS[k]'hit ∈ KS) := List.getElem_mem hit
   have hg1 : s.cells[k]? = some (KS[k]'hit).1 := by rw [← H.out.eq]; simp [hit]
   have HG := Lib.hid hg1
   have hit' : (k : Int) < KS.length := by omega
   have hkz : (0 : Int) ≤ k := by omega
   clear hq3 hg1 HI0
   generalize KS[k]'hit = x at *
   obtain ⟨⟨cr, cp, cd, ⟨ri, re, rf, rt, rr⟩⟩, xo, xc⟩ := x
   have d0 := HQ.out 0 _ rfl
   have d1 := HQ.out 1 _ rfl
   have d2 := HQ.out 2 _ rfl
   simp only [Nat.add_zero] at d0 d1 d2
   by_cases hc : cr = rule ∧ cp = p
   ·obtain ⟨rfl, rfl⟩ := hc
    have HF := Lib.hid (findI_hit HI.out HG.out (by simp [keyB]))
    have h2 : ((cp : Int) == (cp : Int)) = true := by simp
    have h3 : ((cr : Int) == (cr : Int)) = true := by simp
    have d3 := HQ.out 3 _ rfl
    have d4 := HQ.out 4 _ rfl
    have d5 := HQ.out 5 _ rfl
    have d6 := HQ.out 6 _ rfl
    have d7 := HQ.out 7 _ rfl
    cases cd
    ·have RS := RW.setRound hK.hg HW1.out true
     have hneq : K.g ≠ q := fun e => HW1.out.ne (by rw [e]; rfl)
     have hneq' : q ≠ K.g := fun e => hneq e.symm
     have o4 := HW1.out.obj.cell 4
     have o4f := HW1.out.obj.frozen 4
     have HRS := Lib.hid RS
     clear RS
     have HZ1 := Lib.hid (HR0.out.rf HRS.out.2 (by decide) (by decide))
     simp at o4
     have zq0 : (wr.setCell ⟨K.g, 4, none⟩ (.bool true)).cell? ⟨h0, 0, none⟩ = some (.bool false) := (HZ1.out).cell 0
     have zq1 : (wr.setCell ⟨K.g, 4, none⟩ (.bool true)).cell? ⟨h0, 1, none⟩ = some (.int .i64 0) := (HZ1.out).cell 1
     have zq2 : (wr.setCell ⟨K.g, 4, none⟩ (.bool true)).cell? ⟨h0, 2, none⟩ = some (.int .i64 0) := (HZ1.out).cell 2
     have zq3 : (wr.setCell ⟨K.g, 4, none⟩ (.bool true)).cell? ⟨h0, 3, none⟩ = some (.slice none 0 0) := (HZ1.out).cell 3
     have zq4 : (wr.setCell ⟨K.g, 4, none⟩ (.bool true)).cell? ⟨h0, 4, none⟩ = some (.int .i64 0) := (HZ1.out).cell 4
     obtain ⟨zf0, zf1, zf2, zf3, zf4⟩ := (HZ1.out).f5
     have zr5 := set5_row (.bool ri) (.int .i64 re) (.int .i64 rf) (.slice xo rt.length xc) (.int .i64 rr) (HZ1.out)
     have zf5 := set5_fr (wr.setCell ⟨K.g, 4, none⟩ (.bool true)) h0 (.bool ri) (.int .i64 re) (.int .i64 rf) (.slice xo rt.length xc) (.int .i64 rr)
     unfold set5 at zr5 zf5
     have ZR5 := Lib.hid zr5
     have ZF5 := Lib.hid zf5
     clear zr5 zf5
     go_wp2_with fail
     revert ZR5 ZF5
     generalize (((((wr.setCell ⟨K.g, 4, none⟩ (.bool true)).setCell _ _).setCell _ _).setCell _ _).setCell _ _).setCell _ _ = wz
     intro ZR5 ZF5
     obtain ⟨zc0, zc1, zc2, zc3, zc4⟩ := (ZR5.out).c5
     exact bodyPost_ret (v := .agg #[.bool ri, .int .i64 re, .int .i64 rf, .slice xo rt.length xc, .int .i64 rr]) (by simp [results, Try.results18, go_sem, zc0, zc1, zc2, zc3, zc4]) rfl (by rw [callR_hit HF.out]; simp only [Bool.not_false, Bool.or_true]; exact ⟨_, KS, xo, xc, rfl, HRS.out.1.boxed HZ1.out (by have := HH0.out; have := HLo.out; omega) ZF5.out, ((HW1.out.trees _ HM.out).step HRS.out.2).boxed HZ1.out ZF5.out, ((RF.below (HH0.out ▸ HB0.out)).trans HRS.out.2).new ZF5.out (fun k e => by have e' : k = h0 := e; have := HH0.out; omega)⟩)
    ·skip
     obtain ⟨zq0, zq1, zq2, zq3, zq4⟩ := (HR0.out).c5
     obtain ⟨zf0, zf1, zf2, zf3, zf4⟩ := (HR0.out).f5
     have zr5 := set5_row (.bool ri) (.int .i64 re) (.int .i64 rf) (.slice xo rt.length xc) (.int .i64 rr) (HR0.out)
     have zf5 := set5_fr wr h0 (.bool ri) (.int .i64 re) (.int .i64 rf) (.slice xo rt.length xc) (.int .i64 rr)
     unfold set5 at zr5 zf5
     have ZR5 := Lib.hid zr5
     have ZF5 := Lib.hid zf5
     clear zr5 zf5
     go_wp2_with fail
     revert ZR5 ZF5
     generalize ((((wr.setCell _ _).setCell _ _).setCell _ _).setCell _ _).setCell _ _ = wz
     intro ZR5 ZF5
     obtain ⟨zc0, zc1, zc2, zc3, zc4⟩ := (ZR5.out).c5
     exact bodyPost_ret (v := .agg #[.bool ri, .int .i64 re, .int .i64 rf, .slice xo rt.length xc, .int .i64 rr]) (by simp [results, Try.results18, go_sem, zc0, zc1, zc2, zc3, zc4]) rfl (by rw [callR_hit HF.out]; simp only [Bool.not_true, Bool.or_false]; exact ⟨_, KS, xo, xc, rfl, HW1.out.boxed HR0.out (by have := HH0.out; have := HLo.out; omega) ZF5.out, (HW1.out.trees _ HM.out).boxed HR0.out ZF5.out, (RF.below (HH0.out ▸ HB0.out)).new ZF5.out (fun k e => by have e' : k = h0 := e; have := HH0.out; omega)⟩)
   ·by_cases h1 : cr = rule
    ·have h2 : ((cp : Int) == (p : Int)) = false := by simp; omega
     have h3 : ((cr : Int) == (rule : Int)) = true := by simp [h1]
     have HF' : Hid (FindI s.cells rule p (k + 1)) := findI_next HI.out HG.out (by simp [keyB]; omega)
     go_wp2_with fail
     go_roundw
     case rel => exact ⟨k + 1, by omega, by go_num, trivial, HF'.out⟩
     case measure => simp [intOf]; omega
    ·have h3 : ((cr : Int) == (rule : Int)) = false := by simp; omega
     have HF' : Hid (FindI s.cells rule p (k + 1)) := findI_next HI.out HG.out (by simp [keyB]; omega)
     go_wp2_with fail
     go_roundw
     case rel => exact ⟨k + 1, by omega, by go_num, trivial, HF'.out⟩
     case measure => simp [intOf]; omega
  ·have HFn := Lib.hid (findI_end HI.out (by have := HKS.out; omega))
   have hge : (KS.length : Int) ≤ k := by omega
   clear HI HI0 hit hk
   have HCn : Hid ((#[.int .i64 rule, .int .i64 p, .bool false, .bool false, .int .i64 0, .int .i64 0, .slice none 0 0, .int .i64 0] : Array Value).toList = cec (⟨rule, p, false, failR 0⟩, (none, 0))) := rfl
   have HAl := Lib.hid (Below.refl wr.heap.size wr |>.alloc (Nat.le_refl _) (.cells #[.int .i64 rule, .int .i64 p, .bool false, .bool false, .int .i64 0, .int .i64 0, .slice none 0 0, .int .i64 0] 98))
   have HWA := Lib.hid (HW1.out.below HAl.out)
   have HSv : Hid (Sv (wr.alloc (.cells #[.int .i64 rule, .int .i64 p, .bool false, .bool false, .int .i64 0, .int .i64 0, .slice none 0 0, .int .i64 0] 98)) (some ⟨wr.heap.size, 0, none⟩) 1 1 8 (cec (⟨rule, p, false, failR 0⟩, (none, 0)))) := Sv.lit wr _ #[.int .i64 rule, .int .i64 p, .bool false, .bool false, .int .i64 0, .int .i64 0, .slice none 0 0, .int .i64 0] 1 8 (by decide) rfl
   have HOc : Hid (∀ u ∈ cec (⟨rule, p, false, failR 0⟩, (none, 0)), u.oneCell' = true) := fun u hu => cec_one [(⟨rule, p, false, failR 0⟩, (none, 0))] u (by simpa using hu)
   have HLn : Hid ((KS.length + 1) * 80 ≤ 140737488355328 ∧ KS.length + 1 ≤ maxLen) := by unfold Hid maxLen; omega
   go_upto_region 10 with (at_builtin; refine wpList_appf _ K.base.heap.size rfl (.tmp 71) (.tmp 75) 60 98 rfl elemCeR _ _ _ rfl HWA.out.row _ 1 1 _ rfl HSv.out HOc.out (by decide) HLn.out ?_; intro v8 w8 hA; obtain ⟨bo, bc, rfl⟩ := (HWA.out.opened hK.hg rule p hA).1.slice1; have HOp := Lib.hid (HWA.out.opened hK.hg rule p hA); have g3 := HOp.out.2.2.cell 3; have g3f := HOp.out.2.2.frozen 3; simp at g3; clear hA)
   revert HOp
   generalize w8.setCell _ _ = w9
   intro HOp
   obtain ⟨op1, op2, op3⟩ := HOp.out
   have HW9 := Lib.hid op1
   have HF9 := Lib.hid (((RF.below (HH0.out ▸ HB0.out)).trans (.below HAl.out)).trans op2)
   have HR9 := Lib.hid ((HR0.out.below HAl.out).rf op2 (by decide) (by decide))
   clear op1 op2 op3 HOp g3 g3f HSv HOc HWA HAl
   obtain ⟨ra, hra, hrc⟩ := Sv.at ruc_len hK.gr.rul (by decide) rule hr
   have hrn := Sv.n_eq ruc_len (by decide) hK.gr.rul
   have HRl : Hid (K.ro = some ra ∧ K.rn = K.G.rules.length) := ⟨hra, hrn.symm⟩
   have hrb := hK.gr.rul.bound
   have hbd := hK.ok.bod _ (List.getElem_mem hr)
   obtain ⟨n, hn⟩ : ∃ n : Nat, (K.G.rules[rule]'hr).body = n := ⟨(K.G.rules[rule]'hr).body.toNat, by omega⟩
   have hnl : n < K.G.nodes.length := by omega
   have HCR := Lib.hid (callR_new (E := ev K.G K.W f) HFn.out hr (n := n) (by omega))
   have HRc : Hid (∀ W', Below K.base.heap.size K.base W' → W'.cell? ((ra.add (rule * 2)).add 1) = some (.int .i64 n)) := fun W' hb' => by
    have e := hrc 1 (.int .i64 n) (by simp [ruc, hn])
    exact (hb'.cell (World.block_lt_of_cell? _ _ e)).trans e
   rw [add_off _ _ _ (by decide)] at HRc
   have rc := HRc.out _ HW9.out.low
   have o0 : w9.cell? ⟨K.g, 0, none⟩ = some (.slice (some ra) K.rn K.rc) := by rw [← HRl.out.1]; exact HW9.out.obj.cell 0
   have hrr : (rule : Int) < K.rn := by omega
   have hrr0 : (0 : Int) ≤ rule := by omega
   clear hrc hra hrn HRc hbd hn
   have hSo : StOk K.G.rules.length K.W.length (open0 rule p s) := open0_ok HS.out hr hp HFn.out
   have hCo : Cap f (open0 rule p s) := by
    have := HL.out
    refine ⟨this.1, this.2.1, ?_⟩
    have e : (open0 rule p s).cells.length = s.cells.length + 1 := by simp [open0]
    have e2 : (open0 rule p s).left = s.left := rfl
    omega
   have HPo := Lib.hid (HEV.out (open0 rule p s) n p hSo hnl hp)
   have HEx := Lib.hid (HE.out w9 (open0 rule p s) _ _ n p HW9.out hCo hSo hnl hp)
   have HSo := Lib.hid hSo
   clear hSo hCo
   generalize ev K.G K.W f (open0 rule p s) n p = o at *
   obtain ⟨⟨xi, xe, xf, xt, xr⟩, s2⟩ := o
   go_upto_region 11 with (go_at_call 38; refine (HEx.out).mono ?_; rintro e w3 ⟨v3, KS3, o3, c3, rfl, g1, g2, g3⟩; have G1 := Lib.hid g1; have G2 := Lib.hid g2; have G3 := Lib.hid (HF9.out.trans g3); have GR := Lib.hid (HR9.out.rf g3 (by decide) (by decide)); simp only [rsv, rcs]; clear g1 g2 g3)
   have HQ := Lib.hid HCR.out
   simp only [] at HQ
   have hk9 := key_at HPo.out.step.keys
   have HK9 := Lib.hid hk9
   have hs2l : KS.length < KS3.length := by have h1 := hk9.1; have h2 := congrArg List.length G1.out.eq; simp only [List.length_map] at h2; have h3 := HKS.out; simp only [] at h1; omega
   have HSz : Hid (K.base.heap.size ≤ w3.heap.size) := G1.out.low.size
   have HXl : Hid (xt.length ≤ 41000000) := by have h : xt.length + 2001 * s2.left ≤ 2001 * s.left := HPo.out.len; have := HL.out; unfold Hid; omega
   have HXr : Hid (xr ≤ 41000000) := by have h : xr ≤ xt.length := HPo.out.rs.roots; have := HXl.out; unfold Hid; omega
   have HRo : Hid (RsOk K.W.length p ⟨xi, xe, xf, xt, xr⟩) := HPo.out.rs
   clear HEx HCR hk9 HW9 HF9 HR9 HR0 HW1 HB0 HPo HSo HS HEV HE H HRl o0 rc oc3 HFn hnl
   generalize hg9 : w3.heap.size = h9
   have HG9 := Lib.hid hg9
   have HAl := Lib.hid (Below.refl w3.heap.size w3 |>.alloc (Nat.le_refl _) (.cells #[.bool xi, .int .i64 xe, .int .i64 xf, .slice o3 xt.length c3, .int .i64 xr] 64))
   have H9 : Hid (hrow (w3.alloc (.cells #[.bool xi, .int .i64 xe, .int .i64 xf, .slice o3 xt.length c3, .int .i64 xr] 64)) h9 #[.bool xi, .int .i64 xe, .int .i64 xf, .slice o3 xt.length c3, .int .i64 xr] 64) := hg9 ▸ hrow.new w3 _ _
   have G1' := Lib.hid (G1.out.below HAl.out)
   have G2' := Lib.hid (G2.out.step (.below HAl.out))
   have G3' := Lib.hid (G3.out.trans (.below HAl.out))
   have GR' := Lib.hid (GR.out.below HAl.out)
   have hlt : h0 < h9 := by have := GR.out.lt; omega
   clear hg9 HAl G1 G2 G3 GR
   generalize w3.alloc _ = wa at *
   have e0 := H9.out.cell 0
   have e1 := H9.out.cell 1
   have e2 := H9.out.cell 2
   have e3 := H9.out.cell 3
   have e4 := H9.out.cell 4
   simp at e0 e1 e2 e3 e4
   have HSz2 : Hid (K.base.heap.size ≤ h9) := by have := HSz.out; have := HG9.out; unfold Hid; omega
   go_upto_if 92 with (fail)
   go_cut [9] (fun v wx => v = .pointer (some ⟨h9, 0, none⟩) ∧ CallJ K w (ownR rule p ⟨xi, xe, xf, xt, xr⟩) s2 v3 KS3 h9 h0 wx)
   case first =>
    cases xi
    ·have HJ : Hid (CallJ K w (ownR rule p ⟨false, xe, xf, xt, xr⟩) s2 v3 KS3 h9 h0 wa) := ⟨o3, c3, H9.out, G2'.out, G1'.out, G3'.out, GR'.out⟩
     go_wp2_with fail
     go_meet
     exact ⟨rfl, HJ.out⟩
    ·go_upto_region 13 with (fail)
     have HBt := Lib.hid (Below.refl wa.heap.size wa |>.alloc (Nat.le_refl _) (.cells #[.int .i64 rule, .int .i64 0, .int .i64 p, .int .i64 xe, .int .i64 xr] 43))
     have HOt : Hid (Own wa (wa.alloc (.cells #[.int .i64 rule, .int .i64 0, .int .i64 p, .int .i64 xe, .int .i64 xr] 43)) 43 5 (.slice (some ⟨wa.heap.size, 0, none⟩) 1 1) 1 (twc ⟨rule, 0, p, xe, xr⟩)) := Own.lit wa 43 _ 1 5 (by decide) rfl
     have H9b := Lib.hid (H9.out.below HBt.out)
     have G2b := Lib.hid (G2'.out.step (.below HBt.out))
     have hgt : h9 < wa.heap.size := H9.out.lt
     revert HBt HOt H9b G2b
     generalize wa.alloc _ = wb
     intro HBt HOt H9b G2b
     have HOt2 := Lib.hid (HOt.out.below ((Below.refl wb.heap.size wb).drew))
     have HSx := Lib.hid (G2b.out.sv.below ((Below.refl wb.heap.size wb).drew))
     have H9c := Lib.hid (H9b.out.below ((Below.refl wb.heap.size wb).drew))
     have HO1 := Lib.hid (twc_one xt)
     have HLm : Hid ((1 + xt.length) * 40 ≤ 140737488355328 ∧ 1 + xt.length ≤ maxLen) := by have := HXl.out; unfold Hid maxLen; omega
     have b1 : wb.cell? ⟨h9, 1, none⟩ = some (.int .i64 xe) := H9b.out.cell 1
     have b2 : wb.cell? ⟨h9, 2, none⟩ = some (.int .i64 xf) := H9b.out.cell 2
     have b3 : wb.cell? ⟨h9, 3, none⟩ = some (.slice o3 xt.length c3) := H9b.out.cell 3
     have HNe : Hid (¬ (Value.slice (some ⟨wa.heap.size, 0, none⟩) 1 1).ownBlock = some h9) := by intro e; simp [Value.ownBlock] at e; omega
     clear e0 e1 e2 e3 e4 HOt H9b
     go_region_law
      ((refine step_appz (w0 := wa) (by rfl) (.tmp 106) (.tmp 108) 30 43 rfl elemTwR _ 1 _ (by rfl) HOt2.out o3 xt.length c3 (xt.flatMap twc) (by rfl) HSx.out HO1.out HLm.out ?_; intro va wv hoa hfa; have H9v := Lib.hid (H9c.out.fr hfa (fun e => HNe.out e)); have HOa := Lib.hid hoa; clear hoa hfa; obtain ⟨vo, vc, rfl, hvs⟩ := HOa.out.sv; clear hvs; have K1 : Hid (wv.cell? ⟨h9, 1, none⟩ = some (.int .i64 xe)) := H9v.out.cell 1; have K2 : Hid (wv.cell? ⟨h9, 2, none⟩ = some (.int .i64 xf)) := H9v.out.cell 2; have K3 : Hid (wv.cell? ⟨h9, 3, none⟩ = some (.slice o3 xt.length c3)) := H9v.out.cell 3; obtain ⟨q0, q1, q2, q3, q4⟩ := (H9v.out).c5; obtain ⟨f0, f1, f2, f3⟩ := (H9v.out).f4; have f4 := H9v.out.frozen 4))
     all_goals
      have ZR5 := set5_row (.bool true) (.int .i64 xe) (.int .i64 xf) (.slice vo (1 + xt.length) vc) (.int .i64 1) H9v.out
      have ZF5 := set5_fr wv h9 (.bool true) (.int .i64 xe) (.int .i64 xf) (.slice vo (1 + xt.length) vc) (.int .i64 1)
      unfold set5 at ZR5 ZF5
      revert ZR5 ZF5
      generalize ((((wv.setCell _ _).setCell _ _).setCell _ _).setCell _ _).setCell _ _ = wz
      intro ZR5 ZF5
      go_wp2_with fail
      go_meet
      exact ⟨rfl, callJ_mk G1'.out G3'.out GR'.out H9v.out HOa.out ZR5 ZF5 hlt HSz2.out (by have := HH0.out; omega)⟩
   case rest =>
    obtain ⟨rfl, yo, yc, j1, j2, j3, j4, j5⟩ := hcut
    have HY : Hid (RsOk K.W.length p (ownR rule p ⟨xi, xe, xf, xt, xr⟩)) := HRo.out.own
    generalize hye : ownR rule p ⟨xi, xe, xf, xt, xr⟩ = y at *
    have HYe := Lib.hid hye
    clear hye
    obtain ⟨yi, ye, yf, yt, yr⟩ := y
    simp only [] at j1 j2
    have J1 := Lib.hid j1
    have J2 := Lib.hid j2
    have J3 := Lib.hid j3
    have J4 := Lib.hid j4
    have J5 := Lib.hid j5
    have e0 := j1.cell 0
    have e1 := j1.cell 1
    have e2 := j1.cell 2
    have e3 := j1.cell 3
    have e4 := j1.cell 4
    have p3 := j3.obj.cell 3
    have p6 := j3.obj.cell 6
    have p6f := j3.obj.frozen 6
    simp at e0 e1 e2 e3 e4 p3 p6
    clear j1 j2 j3 j4 j5 H9 G1' G2' G3' GR'
    go_upto_region 14 with (fail)
    go_cut [9] (fun v wx => v = .pointer (some ⟨h9, 0, none⟩) ∧ CallJ K w ⟨yi, ye, yf, yt, yr⟩ { s2 with over := s2.over || decide (2000 < yt.length) } v3 KS3 h9 h0 wx)
    case first =>
     have HOv : Hid (∀ b, RW K (wc.setCell ⟨K.g, 6, none⟩ (.bool b)) { s2 with over := b } v3 KS3 ∧ RF wc (wc.setCell ⟨K.g, 6, none⟩ (.bool b))) := fun b => J3.out.setOver hK.hg b
     have HJb : Hid (∀ b, (s2.over || decide (2000 < yt.length)) = b → CallJ K w ⟨yi, ye, yf, yt, yr⟩ { s2 with over := s2.over || decide (2000 < yt.length) } v3 KS3 h9 h0 (wc.setCell ⟨K.g, 6, none⟩ (.bool b))) := fun b hb =>
      ⟨yo, yc, J1.out.rf (HOv.out b).2 (by decide) (by decide), J2.out.step (HOv.out b).2, by rw [hb]; exact (HOv.out b).1, J4.out.trans (HOv.out b).2, J5.out.rf (HOv.out b).2 (by decide) (by decide)⟩
     cases hov : s2.over
     ·rw [hov] at p6
      have HV := Lib.hid hov
      clear hov
      by_cases hyl : 2000 < yt.length
      ·have hyl' : (2000 : Int) < yt.length := by omega
       have HF := Lib.hid (HJb.out true (by simp [hyl]))
       go_wp2_with fail
       go_meet
       exact ⟨rfl, HF.out⟩
      ·have hyl' : (yt.length : Int) ≤ 2000 := by omega
       have HF := Lib.hid (HJb.out false (by simp [hyl, HV.out]))
       have d1 : decide ((2000 : Int) < (yt.length : Int)) = false := by simp; omega
       have d2 : decide (2000 < yt.length) = false := by simp; omega
       go_wp2_with fail
       go_meet
       exact ⟨rfl, HF.out⟩
     ·rw [hov] at p6
      have HV := Lib.hid hov
      clear hov
      have HF := Lib.hid (HJb.out true (by simp [HV.out]))
      go_wp2_with fail
      go_meet
      exact ⟨rfl, HF.out⟩
    case rest =>
     clear e0 e1 e2 e3 e4 p3 p6 p6f J1 J2 J3 J4 J5
     obtain ⟨rfl, zo, zc, j1, j2, j3, j4, j5⟩ := hcut
     simp only [] at j1 j2
     have J1 := Lib.hid j1
     have J2 := Lib.hid j2
     have J3 := Lib.hid j3
     have J4 := Lib.hid j4
     have J5 := Lib.hid j5
     have e0 := j1.cell 0
     have e1 := j1.cell 1
     have e2 := j1.cell 2
     have e3 := j1.cell 3
     have e4 := j1.cell 4
     obtain ⟨q, cap, hv3, hq1, hq2, hq3⟩ := j3.cells (by omega)
     subst hv3
     have p3 := j3.obj.cell 3
     have hlt1 : (KS.length : Int) < KS3.length := by omega
     have hlt2 : (0 : Int) ≤ KS.length := by omega
     simp at e0 e1 e2 e3 e4 p3
     clear j1 j2 j3 j4 j5 hq3
     go_upto_region 15 with (fail)
     go_still_tail 10, (by kernel_rfl)
     change wpList _ _ _ _ _ wc.drew
     have HD := (Below.refl wc.heap.size wc).drew
     have L1 := Lib.hid (J1.out.below HD)
     have L2 := Lib.hid (J2.out.step (.below HD))
     have L3 := Lib.hid (J3.out.below HD)
     have L4 := Lib.hid (J4.out.trans (.below HD))
     have L5 := Lib.hid (J5.out.below HD)
     clear e0 e1 e2 e3 e4 p3 J1 J2 J3 J4 J5 HD
     revert L1 L2 L3 L4 L5
     generalize wc.drew = wd
     intro L1 L2 L3 L4 L5
     obtain ⟨q', cap', hv3, hq1, hq2, hq3⟩ := L3.out.cells (by omega)
     cases hv3
     have k0 := hq3 KS.length hs2l 0 _ rfl
     have k1 := hq3 KS.length hs2l 1 _ rfl
     have k2 := hq3 KS.length hs2l 2 _ rfl
     have k3 := hq3 KS.length hs2l 3 _ rfl
     have k4 := hq3 KS.length hs2l 4 _ rfl
     have k5 := hq3 KS.length hs2l 5 _ rfl
     have k6 := hq3 KS.length hs2l 6 _ rfl
     have k7 := hq3 KS.length hs2l 7 _ rfl
     have kf0 := L3.out.thawed (KS.length * 8)
     have kf1 := L3.out.thawed (KS.length * 8 + 1)
     have kf2 := L3.out.thawed (KS.length * 8 + 2)
     have kf3 := L3.out.thawed (KS.length * 8 + 3)
     have kf4 := L3.out.thawed (KS.length * 8 + 4)
     have kf5 := L3.out.thawed (KS.length * 8 + 5)
     have kf6 := L3.out.thawed (KS.length * 8 + 6)
     have kf7 := L3.out.thawed (KS.length * 8 + 7)
     simp only [Nat.add_zero] at k0
     have HSet := Lib.hid (L3.out.shut hs2l ⟨rule, p, true, ⟨yi, ye, yf, yt, yr⟩⟩ zo zc L2.out (.int .i64 rule) (.int .i64 p) (.bool true) (.bool yi) (.int .i64 ye) (.int .i64 yf) (.slice zo yt.length zc) (.int .i64 yr) rfl)
     go_upto_region 16 with (fail)
     revert HSet
     generalize (((((((wd.setCell _ _).setCell _ _).setCell _ _).setCell _ _).setCell _ _).setCell _ _).setCell _ _).setCell _ _ = we
     intro HSet
     obtain ⟨m1, m2⟩ := HSet.out
     simp only [] at m1
     have M1 := Lib.hid m1
     have M2 := Lib.hid (L4.out.trans m2)
     have MT := Lib.hid (L2.out.step m2)
     have M9 := Lib.hid (L1.out.rf m2 (by decide) (by decide))
     have M0 := Lib.hid (L5.out.rf m2 (by decide) (by decide))
     have n0 := M9.out.cell 0
     have n1 := M9.out.cell 1
     have n2 := M9.out.cell 2
     have n3 := M9.out.cell 3
     have n4 := M9.out.cell 4
     simp at n0 n1 n2 n3 n4
     have HKL : Hid (KS.length = s.cells.length) := HKS.out
     have HFin : Hid (callR (ev K.G K.W f) K.G rule p s = (⟨yi, ye, yf, yt, yr⟩, ⟨s2.cells.set KS.length ⟨rule, p, true, ⟨yi, ye, yf, yt, yr⟩⟩, s2.round, s2.left, s2.over || decide (2000 < yt.length)⟩)) := HQ.out.trans (by unfold shut; rw [HYe.out, HKL.out])
     clear HSet m1 m2 L1 L2 L3 L4 L5 k0 k1 k2 k3 k4 k5 k6 k7 kf0 kf1 kf2 kf3 kf4 kf5 kf6 kf7 HQ HY
     obtain ⟨zq0, zq1, zq2, zq3, zq4⟩ := (M0.out).c5
     obtain ⟨zf0, zf1, zf2, zf3, zf4⟩ := (M0.out).f5
     have zr5 := set5_row (.bool yi) (.int .i64 ye) (.int .i64 yf) (.slice zo yt.length zc) (.int .i64 yr) (M0.out)
     have zf5 := set5_fr we h0 (.bool yi) (.int .i64 ye) (.int .i64 yf) (.slice zo yt.length zc) (.int .i64 yr)
     unfold set5 at zr5 zf5
     have ZR5 := Lib.hid zr5
     have ZF5 := Lib.hid zf5
     clear zr5 zf5
     go_wp2_with fail
     revert ZR5 ZF5
     generalize ((((we.setCell _ _).setCell _ _).setCell _ _).setCell _ _).setCell _ _ = wz
     intro ZR5 ZF5
     obtain ⟨zc0, zc1, zc2, zc3, zc4⟩ := (ZR5.out).c5
     exact bodyPost_ret (v := .agg #[.bool yi, .int .i64 ye, .int .i64 yf, .slice zo yt.length zc, .int .i64 yr]) (by simp [results, Try.results18, go_sem, zc0, zc1, zc2, zc3, zc4]) rfl (by rw [HFin.out]; exact ⟨_, _, zo, zc, rfl, M1.out.boxed M0.out (by have := HH0.out; have := HLo.out; omega) ZF5.out, MT.out.boxed M0.out ZF5.out, M2.out.new ZF5.out (fun k e => by have e' : k = h0 := e; have := HH0.out; omega)⟩)
end Go.Proofs.Ytdnkffplkleolaa
