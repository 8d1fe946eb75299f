/- Walks and plain laws: Qf Qg Qh Qi. -/
import Derived.Test.YthfefbmkgebmkaaGreatDoorT02
namespace Go.Proofs.YthfefbmkgebmkaaGreatDoor
open Go.RowKit
set_option maxRecDepth 100000
set_option maxHeartbeats 16000000

/-- Items in a row, while they are read. -/
structure SqJ (L : List Wd) (B gr d f0 i0 : Nat) (r : Rs Pt) (g2 : Nat) (w : World) (acc : List Pt) (v : Value) (vs : List (Array Value)) (i e a : Nat) (wr : World) : Prop where
 st : SqS L f0 i0 d r acc i e a
 z : hrow wr g2 pt0C 122
 q : RqW L B gr i d e a wr
 fr : Fr (fun k => k = gr) w wr
 own : wr.ownsRow (g2 + 1) 122 12 v acc.length (vs.flatMap Array.toList)
 pts : PvsW wr (fun k => B ≤ k ∧ k ≠ g2 ∧ v.ownBlock ≠ some k) acc vs
 lt : i < L.length
 ii : i0 ≤ i
 sz : szL acc + acc.length ≤ 2 * (i - i0) + (if e = 0 then 0 else 2)
section
variable {L : List Wd} {B gr d f0 i0 : Nat} {r : Rs Pt} {g2 : Nat} {w : World} {acc : List Pt} {v : Value} {vs : List (Array Value)} {i e a : Nat} {wr w' : World}
theorem SqJ.below (h : SqJ L B gr d f0 i0 r g2 w acc v vs i e a wr) (hb : Below wr.heap.size wr w') : SqJ L B gr d f0 i0 r g2 w acc v vs i e a w' :=
 ⟨h.st, h.z.below hb, h.q.below hb, h.fr.trans (Fr.of_below (F := fun k => k = gr) hb) (fun _ _ h => h), owns_fr h.own (Fr.of_below (F := fun _ => False) hb) (fun _ _ e => e), h.pts.below hb, h.lt, h.ii, h.sz⟩
theorem SqJ.fin {p : Pt} {cs : Array Value} {i6 e6 a6 : Nat} (h : SqJ L B gr d f0 i0 r g2 w acc v vs i e a wr) (hw2 : w.heap.size = g2) (hB2 : B ≤ g2) (hfr : Fr (fun k => k = gr) wr w') (hq : RqW L B gr i6 d e6 a6 w') (hp : PvW w' (fun k => B ≤ k ∧ k ≠ g2) p cs) (hii : i0 ≤ i6) (hlt : i6 < L.length) (hsz : p.sz ≤ 2 * (i6 - i0) + 1)
  (hr : match (generalizing := false) r with | .ok q j => p = q ∧ i6 = j ∧ e6 = 0 ∧ a6 = 0 | .err x y => e6 = x ∧ a6 = y ∧ x ≠ 0) : PqP L B gr i0 d r w (.returned (.agg cs)) (w'.setRow g2 cs) := by
 have hf := Fr.setRow w' g2 cs
 exact ⟨p, cs, i6, e6, a6, rfl, PvW.fr hf (fun k hk e => hk.2 e) (fun k hk => hk.1) p cs hp, hq.fr hf (fun k e => by omega), (h.fr.trans hfr (fun _ _ h => h)).trans hf (fun k hk e => by omega), hii, hlt, hsz, hr⟩
theorem SqJ.next {q : Pt} {cs : Array Value} {v' : Value} {w1 w2 : World} {i6 e6 a6 : Nat} (h : SqJ L B gr d f0 i0 r g2 w acc v vs i e a w1) (hw2 : w.heap.size = g2) (hB2 : B ≤ g2) (hgB : gr < B) (hfr : Fr (fun k => k = gr) w1 w2) (hrq : RqW L B gr i6 d e6 a6 w2) (hpv : PvW w2 (fun k => w1.heap.size ≤ k) q cs)
  (hst : SqS L f0 i0 d r (acc ++ [q]) i6 e6 a6) (hii : i ≤ i6) (hlt : i6 < L.length) (hsz : szL (acc ++ [q]) + (acc ++ [q]).length ≤ 2 * (i6 - i0) + (if e6 = 0 then 0 else 2))
  (ho : w'.ownsRow (g2 + 1) 122 12 v' (acc.length + 1) (vs.flatMap Array.toList ++ cs.toList)) (hg : ((w2.alloc (.cells cs 122)).alloc (.cells cs 122)).grownBy w' v.ownBlock) (hb : ∀ k, v'.ownBlock = some k → v.ownBlock = some k ∨ w2.heap.size < k) :
  SqJ L B gr d f0 i0 r g2 w (acc ++ [q]) v' (vs ++ [cs]) i6 e6 a6 w' := by
 have hvl : ∀ k, v.ownBlock = some k → g2 + 1 ≤ k ∧ k < w1.heap.size := fun k hk => h.own.lt k hk
 have hz := h.z.lt
 have h12 := hfr.size
 have hA : Below w2.heap.size w2 ((w2.alloc (.cells cs 122)).alloc (.cells cs 122)) := al2 (Below.refl _ _) _ _
 have hT : Fr (fun k => v.ownBlock = some k) w2 w' := ((Fr.of_below (F := fun _ => False) hA).weak (fun _ h => h.elim)).trans (Fr.grown hg) (fun _ _ h => h)
 have hT1 : Fr (fun k => k = gr ∨ v.ownBlock = some k) w1 w' := (hfr.weak (G := fun k => k = gr ∨ v.ownBlock = some k) (fun _ e => .inl e)).trans hT (fun _ _ e => .inr e)
 refine ⟨hst, h.z.fr hT1 (fun e => ?_), hrq.fr hT (fun k e => by have := hvl k e; omega), h.fr.trans hT1 (fun k hk e => ?_), ?_, ?_, hlt, by have := h.ii; omega, hsz⟩
 ·rcases e with e | e
  ·omega
  ·have := hvl _ e; omega
 ·rcases e with e | e
  ·exact e
  ·have := hvl _ e; omega
 ·rw [List.length_append, List.flatMap_append]; simpa using ho
 ·refine PvsW.snoc (PvsW.fr (H := fun k => B ≤ k ∧ k ≠ g2 ∧ v'.ownBlock ≠ some k) hT1 (fun k hk e => ?_) (fun k hk => ?_) _ _ (PvsW.bound _ _ h.pts)) (PvW.fr (H := fun k => B ≤ k ∧ k ≠ g2 ∧ v'.ownBlock ≠ some k) hT (fun k hk e => ?_) (fun k hk => ?_) _ _ (PvW.bound _ _ hpv))
  ·rcases e with e | e
   ·have := hk.1.1; omega
   ·exact hk.1.2.2 e
  ·refine ⟨hk.1.1, hk.1.2.1, fun e => ?_⟩
   rcases hb k e with e | e
   ·exact hk.1.2.2 e
   ·have := hk.2; omega
  ·have := hvl k e; have := hk.1; omega
  ·refine ⟨by have := hk.1; omega, by have := hk.1; omega, fun e => ?_⟩
   rcases hb k e with e | e
   ·have := hvl k e; have := hk.1; omega
   ·have := hk.2; omega
end
def lenV : Value → Nat
 | .slice _ n _ => n
 | _ => 0
theorem qseq_step (L : List Wd) (hW : WsOk L) (hL : L.length ≤ 50000) (gr f : Nat) (hI : ∀ f', f' ≤ f → PqC L gr 92 .item f') : PqC L gr 77 .seq (f + 1) := by
 intro B i d w r hr h hi hd
 have HIt := Lib.hid hI; have HD := Lib.hid hd; have HWs := Lib.hid hW; have HLL := Lib.hid hL
 have hbw := h.le
 have hgB := h.lt
 have hbl := (Below.refl w.heap.size w).alloc (Nat.le_refl _) (.cells pt0C 122)
 obtain ⟨w0, hw0⟩ : ∃ x, w.alloc (.cells pt0C 122) = x := ⟨_, rfl⟩
 obtain ⟨g2, hg2⟩ : ∃ g, w.heap.size = g := ⟨_, rfl⟩
 have HJ0 : Hid (SqJ L B gr d f i r g2 w [] (.slice none 0 0) [] i 0 0 (w.alloc (.cells pt0C 122))) :=
  ⟨.start hr, by rw [← hg2]; exact hrow.new w _ _, h.below hbl, Fr.of_below (F := fun k => k = gr) hbl, World.ownsRow_nil _ _ _ _, by unfold PvsW; rfl, hi, Nat.le_refl _, by simp [szL]⟩
 rw [hw0] at HJ0
 have HW0 := Lib.hid hw0; have HG2 := Lib.hid hg2; have HBW : Hid (B ≤ g2) := by unfold Hid; omega
 have HGB := Lib.hid hgB
 clear hr h hi hd hI hW hL hbw hgB hbl hw0 hg2
 unfold ptr
 go_enter Tryz.func77, Tryz.ntmps77
 go_upto_region 2 with (fail)
 unfold pt0C at HW0
 rw [HW0.out, HG2.out]
 go_loopw [3, 4] (fun t3 _ wr => ∃ (acc : List Pt) (v : Value) (vs : List (Array Value)) (i' e' a' : Nat), t3 = v ∧ Hid (SqJ L B gr d f i r g2 w acc v vs i' e' a' wr)) (fun t3 _ _ => 2 * L.length + 3 - lenV t3)
 case atStart => exact ⟨[], _, [], i, 0, 0, rfl, HJ0.out⟩
 case round =>
  clear HJ0
  obtain ⟨acc, v, vs, i1, e1, a1, rfl, HJ⟩ := hrel
  have HB := Lib.hid (qbegins_any L B gr i1 d e1 a1 wr HJ.out.q HJ.out.lt)
  unfold ptr at HB
  obtain ⟨b, hb⟩ : ∃ b, (decide (e1 = 0) && bgW L i1) = b := ⟨_, rfl⟩
  rw [hb] at HB
  have HBV := Lib.hid hb
  clear hb
  go_wp2_with fail
  refine HB.out.mono ?_
  rintro rr w1 ⟨rfl, hbb⟩
  have HJ1 := Lib.hid (HJ.out.below hbb)
  clear hbb HB HJ
  cases b with
  | true =>
   have hbv := HBV.out
   simp only [Bool.and_eq_true, decide_eq_true_eq] at hbv
   obtain ⟨he1, hbg⟩ := hbv
   subst he1
   obtain ⟨ha, f', r1, hf', hr1, hok, herr⟩ := HJ1.out.st.ask HWs.out HJ1.out.lt rfl hbg
   subst ha
   have hg1 : gr < w1.heap.size := by have := HJ1.out.q.lt; have := HJ1.out.q.le; omega
   have HAc := Lib.hid (HIt.out f' hf' w1.heap.size i1 d w1 r1 hr1 (HJ1.out.q.base hg1 (Nat.le_refl _)) HJ1.out.lt HD.out)
   have HG1 := Lib.hid hg1; have HOK := Lib.hid hok; have HER := Lib.hid herr
   have HPS := Lib.hid (fun q j (e : r1 = .ok q j) => prs_sz HWs.out f' .item [] i1 d q j HJ1.out.lt trivial (e ▸ hr1))
   unfold ptr PqP at HAc
   clear hbg hr1 hf' hg1 hok herr HBV
   go_wp2_with fail
   refine HAc.out.mono ?_
   rintro rr w2 ⟨q, cs, i6, e6, a6, rfl, hpv, hrq, hfr, hi1, hi2, hsz, hm⟩
   obtain ⟨kq, cl, tq, lv, aq, nm, ks⟩ := q
   have hpv0 := hpv
   unfold PvW at hpv
   obtain ⟨ko, kc, vs0, rfl, -⟩ := hpv
   unfold ptC at hpv0 ⊢
   have hlen : acc.length ≤ 2 * L.length := by
    have h0 : szL acc + acc.length ≤ 2 * (i1 - i) := by simpa using HJ1.out.sz
    have := HJ1.out.lt
    omega
   have hstn : SqS L f i d r (acc ++ [Pt.mk kq cl tq lv aq nm ks]) i6 e6 a6 := by
    cases r1 with
    | ok p j => obtain ⟨h1, h2, h3, h4⟩ := hm; subst h2 h3 h4; exact HOK.out _ _ (by rw [h1])
    | err x y => obtain ⟨h1, h2, h3⟩ := hm; subst h1 h2; exact HER.out _ _ _ _ rfl h3
   have hszn : szL (acc ++ [Pt.mk kq cl tq lv aq nm ks]) + (acc ++ [Pt.mk kq cl tq lv aq nm ks]).length ≤ 2 * (i6 - i) + (if e6 = 0 then 0 else 2) := by
    have h0 : szL acc + acc.length ≤ 2 * (i1 - i) := by simpa using HJ1.out.sz
    have hii := HJ1.out.ii
    rw [szL_app, List.length_append]
    have e1 : szL [Pt.mk kq cl tq lv aq nm ks] = (Pt.mk kq cl tq lv aq nm ks).sz := by simp [szL]
    rw [e1]
    cases r1 with
    | ok p j =>
     obtain ⟨h1, h2, h3, h4⟩ := hm
     have := HPS.out p j rfl
     rw [← h1, ← h2] at this
     simp only [List.length_singleton]
     split <;> omega
    | err x y =>
     obtain ⟨h1, h2, h3⟩ := hm
     rw [if_neg (by omega)]
     simp only [List.length_singleton]
     omega
   have HSTN := Lib.hid hstn; have HSZN := Lib.hid hszn; have HPV := Lib.hid hpv0
   have HRQ := Lib.hid (hrq.base HJ1.out.q.lt (Nat.le_trans HJ1.out.q.le hfr.size))
   have HFR := Lib.hid hfr; have HI1 := Lib.hid hi1; have HI2 := Lib.hid hi2; have HLEN := Lib.hid hlen
   have HONE : Hid (∀ u ∈ (#[.int .i64 kq, .int .u64 (clsW cl 0), .int .u64 (clsW cl 1), .int .u64 (clsW cl 2), .int .u64 (clsW cl 3), .string (tx tq), .int .i64 0, .int .i64 lv, .slice none 0 0, .int .i64 aq, .string (tx nm), .slice ko ks.length kc] : Array Value).toList, u.oneCell' = true) := fun u hu => hpv0.one u hu
   have HOWN : Hid ((w2.alloc (.cells #[.int .i64 kq, .int .u64 (clsW cl 0), .int .u64 (clsW cl 1), .int .u64 (clsW cl 2), .int .u64 (clsW cl 3), .string (tx tq), .int .i64 0, .int .i64 lv, .slice none 0 0, .int .i64 aq, .string (tx nm), .slice ko ks.length kc] 122)).ownsRow (g2 + 1) 122 12 u3 acc.length (vs.flatMap Array.toList)) := (owns_fr HJ1.out.own hfr (fun k hk e => by have := HJ1.out.own.lt k hk; have := HGB.out; have := HBW.out; omega)).alloc _
   have HSZ3 : Hid (g2 + 1 ≤ (w2.alloc (.cells #[.int .i64 kq, .int .u64 (clsW cl 0), .int .u64 (clsW cl 1), .int .u64 (clsW cl 2), .int .u64 (clsW cl 3), .string (tx tq), .int .i64 0, .int .i64 lv, .slice none 0 0, .int .i64 aq, .string (tx nm), .slice ko ks.length kc] 122)).heap.size) := by have := HJ1.out.z.lt; have := hfr.size; unfold Hid; rw [World.size_alloc]; omega
   have HN2 : Hid (acc.length ≤ 200000) := by have := HLL.out; unfold Hid; omega
   have HR4 := Lib.hid (hrow.new w2 #[.int .i64 kq, .int .u64 (clsW cl 0), .int .u64 (clsW cl 1), .int .u64 (clsW cl 2), .int .u64 (clsW cl 3), .string (tx tq), .int .i64 0, .int .i64 lv, .slice none 0 0, .int .i64 aq, .string (tx nm), .slice ko ks.length kc] 122)
   clear hstn hszn hpv0 hrq hfr hi1 hi2 hlen hm hsz HAc
   go_upto_region 4 with (fail)
   obtain ⟨w3, hw3⟩ : ∃ x, w2.alloc (.cells #[.int .i64 kq, .int .u64 (clsW cl 0), .int .u64 (clsW cl 1), .int .u64 (clsW cl 2), .int .u64 (clsW cl 3), .string (tx tq), .int .i64 0, .int .i64 lv, .slice none 0 0, .int .i64 aq, .string (tx nm), .slice ko ks.length kc] 122) = x := ⟨_, rfl⟩
   have hs3 : w3.heap.size = w2.heap.size + 1 := by rw [← hw3, World.size_alloc]
   rw [hw3] at HOWN HSZ3 HR4 ⊢
   have HW3 := Lib.hid hw3; have HS3 := Lib.hid hs3
   clear hw3 hs3
   go_wp2_with (first | (refine load_partQ rfl (.tmp 4) rfl w2.heap.size rfl #[.int .i64 kq, .int .u64 (clsW cl 0), .int .u64 (clsW cl 1), .int .u64 (clsW cl 2), .int .u64 (clsW cl 3), .string (tx tq), .int .i64 0, .int .i64 lv, .slice none 0 0, .int .i64 aq, .string (tx nm), .slice ko ks.length kc] HR4.out rfl ?_) | (at_builtin; refine app_partQ rfl (.tmp 9) (.tmp 11) rfl (g2 + 1) u3 acc.length _ rfl HOWN.out #[.int .i64 kq, .int .u64 (clsW cl 0), .int .u64 (clsW cl 1), .int .u64 (clsW cl 2), .int .u64 (clsW cl 3), .string (tx tq), .int .i64 0, .int .i64 lv, .slice none 0 0, .int .i64 aq, .string (tx nm), .slice ko ks.length kc] rfl HONE.out rfl HN2.out HSZ3.out ?_; intro v' w8 ho hgr hbk; have HO8 := Lib.hid ho; have HG8 := Lib.hid hgr; have HB8 := Lib.hid hbk; clear ho hgr hbk))
   have HJN : Hid (SqJ L B gr d f i r g2 w (acc ++ [Pt.mk kq cl tq lv aq nm ks]) v' (vs ++ [#[.int .i64 kq, .int .u64 (clsW cl 0), .int .u64 (clsW cl 1), .int .u64 (clsW cl 2), .int .u64 (clsW cl 3), .string (tx tq), .int .i64 0, .int .i64 lv, .slice none 0 0, .int .i64 aq, .string (tx nm), .slice ko ks.length kc]]) i6 e6 a6 w8) :=
    HJ1.out.next HG2.out HBW.out HGB.out HFR.out HRQ.out HPV.out HSTN.out HI1.out HI2.out HSZN.out HO8.out (by rw [HW3.out]; exact HG8.out) (fun k hk => (HB8.out k hk).imp id (fun h => by have := HS3.out; omega))
   have hlv : lenV u3 = acc.length := by obtain ⟨ao, cap, rfl, _⟩ := Sv.of_owns HJ1.out.own; rfl
   have hlv2 : lenV v' = acc.length + 1 := by obtain ⟨ao, cap, rfl, _⟩ := Sv.of_owns HO8.out; rfl
   have HLV := Lib.hid hlv; have HLV2 := Lib.hid hlv2
   clear hlv hlv2
   go_roundw
   case rel => exact ⟨_, v', _, _, _, _, rfl, HJN.out⟩
   case measure => rw [HLV.out, HLV2.out]; have := HLEN.out; omega
  | false =>
   have hdn := HJ1.out.st.done HWs.out HJ1.out.lt (fun he => by have := HBV.out; rw [he] at this; simpa using this)
   have hlv : lenV u3 = acc.length := by obtain ⟨ao, cap, rfl, _⟩ := Sv.of_owns HJ1.out.own; rfl
   obtain ⟨ao, cap, rfl, hsv⟩ := Sv.of_owns HJ1.out.own
   have hbd := hsv.bound
   have HSV := Lib.hid hsv
   rcases hdn with ⟨ha, he, h0, hi0, hr⟩ | hdn
   ·subst ha he h0 hi0
    have HFL := Lib.hid (qfail_any L B gr i1 d 0 0 w1 HJ1.out.q HJ1.out.lt 7)
    have HRE := Lib.hid hr
    have HZ1 : Hid (pt0C.all (·.oneCell') = true) := by unfold Hid pt0C; simp [Value.oneCell']
    unfold ptr at HFL
    clear hr hlv hsv
    go_wp2_with fail
    refine HFL.out.mono ?_
    rintro rr w2 ⟨rfl, h1, h2⟩
    simp only [if_true] at h1
    have H1 := Lib.hid h1; have H2 := Lib.hid h2
    have HZ2 := Lib.hid (HJ1.out.z.fr h2 (fun e => by have := HGB.out; have := HBW.out; omega))
    clear h1 h2 HFL
    go_wp2_with (refine store_partQ rfl (.tmp 2) (.tmp 18) rfl g2 pt0C pt0C rfl rfl HZ2.out rfl rfl HZ1.out ?_)
    refine bodyPost_ret (results_partQ rfl _ _ g2 _ _ rfl HZ2.out rfl) rfl ?_
    exact HJ1.out.fin HG2.out HBW.out H2.out H1.out (p := .mk 0 [] [] 0 0 [] []) (pv_leaf _ _ 0 [] [] 0 0 []) (Nat.le_refl _) HJ1.out.lt (by rw [sz_leaf]; omega) (by rw [HRE.out]; exact ⟨rfl, rfl, by decide⟩)
   ·have hne : acc ≠ [] := by rcases hdn with h | h <;> exact h.1
    have HM : Hid (match (generalizing := false) r with | .ok q j => grp 6 acc = q ∧ i1 = j ∧ e1 = 0 ∧ a1 = 0 | .err x y => e1 = x ∧ a1 = y ∧ x ≠ 0) := by
     rcases hdn with ⟨-, h1, h2, h3⟩ | ⟨-, h1, h2⟩
     ·rw [h3]; exact ⟨rfl, rfl, h1, h2⟩
     ·rw [h2]; exact ⟨rfl, rfl, h1⟩
    have hs0 := HJ1.out.sz
    have hs1 : szL acc + acc.length ≤ 2 * (i1 - i) + 2 := by split at hs0 <;> omega
    clear hs0 hdn hlv
    match acc, hne with
    | [p], _ =>
     obtain ⟨cs, hv0, hpv⟩ := HJ1.out.pts.at 0 (by simp)
     obtain ⟨vr, rfl⟩ : ∃ vr, vs = cs :: vr := by cases vs with
      | nil => simp at hv0
      | cons x y => exact ⟨y, by simp at hv0; rw [hv0]⟩
     obtain ⟨kq, cl, tq, lv, aq, nm, ks⟩ := p
     have hpv0 := hpv
     simp only [List.getElem_cons_zero] at hpv hpv0
     unfold PvW at hpv
     obtain ⟨ko, kc, vs0, rfl, -⟩ := hpv
     unfold ptC at hpv0 hsv
     obtain ⟨pa, rfl, -⟩ := hsv.cell 0 (by simp [List.flatMap_cons])
     have HCC : Hid (∀ j u, (#[.int .i64 kq, .int .u64 (clsW cl 0), .int .u64 (clsW cl 1), .int .u64 (clsW cl 2), .int .u64 (clsW cl 3), .string (tx tq), .int .i64 0, .int .i64 lv, .slice none 0 0, .int .i64 aq, .string (tx nm), .slice ko ks.length kc] : Array Value).toList[j]? = some u → w1.cell? (pa.add j) = some u) := fun j u hj => by
      have hjl : j < 12 := by have := (List.getElem?_eq_some_iff.1 hj).1; simpa using this
      obtain ⟨p2, h2, h3⟩ := hsv.cell j (by simp [List.flatMap_cons]; omega)
      cases h2
      rw [h3, List.flatMap_cons, List.getElem?_append_left (by simpa using hjl)]
      exact hj
     have HPV := Lib.hid hpv0
     have HONE : Hid ((#[.int .i64 kq, .int .u64 (clsW cl 0), .int .u64 (clsW cl 1), .int .u64 (clsW cl 2), .int .u64 (clsW cl 3), .string (tx tq), .int .i64 0, .int .i64 lv, .slice none 0 0, .int .i64 aq, .string (tx nm), .slice ko ks.length kc] : Array Value).all (·.oneCell') = true) := by unfold Hid; simp [Value.oneCell']
     have HS1 : Hid ((Pt.mk kq cl tq lv aq nm ks).sz ≤ 2 * (i1 - i) + 1) := by simp [szL] at hs1; unfold Hid; omega
     clear hpv0 hsv hs1 hv0 hne
     go_wp2_with (first | (refine wpList_load_part rfl 122 (.tmp 23) rfl pa rfl #[.int .i64 kq, .int .u64 (clsW cl 0), .int .u64 (clsW cl 1), .int .u64 (clsW cl 2), .int .u64 (clsW cl 3), .string (tx tq), .int .i64 0, .int .i64 lv, .slice none 0 0, .int .i64 aq, .string (tx nm), .slice ko ks.length kc] _ HCC.out Tryz.underlying122 rfl pq_info ?_) | (refine store_partQ rfl (.tmp 2) (.tmp 24) rfl g2 #[.int .i64 kq, .int .u64 (clsW cl 0), .int .u64 (clsW cl 1), .int .u64 (clsW cl 2), .int .u64 (clsW cl 3), .string (tx tq), .int .i64 0, .int .i64 lv, .slice none 0 0, .int .i64 aq, .string (tx nm), .slice ko ks.length kc] pt0C rfl rfl HJ1.out.z rfl rfl HONE.out ?_))
     refine bodyPost_ret (results_partQ rfl _ _ g2 _ _ rfl HJ1.out.z rfl) rfl ?_
     exact HJ1.out.fin HG2.out HBW.out (Fr.refl _ _) HJ1.out.q (PvW.fr (Fr.refl (fun _ => False) _) (fun _ _ e => e) (fun k hk => ⟨hk.1, hk.2.1⟩) _ _ HPV.out) HJ1.out.ii HJ1.out.lt HS1.out HM.out
    | .mk kq cl tq lv aq nm ks :: q :: rest, _ =>
     obtain ⟨cs, hv0, hpv⟩ := HJ1.out.pts.at 0 (by simp)
     have hvs : ∃ vr, vs = cs :: vr := by cases vs with
      | nil => simp at hv0
      | cons x y => exact ⟨y, by simp at hv0; rw [hv0]⟩
     obtain ⟨vr, hvr⟩ := hvs
     simp only [List.getElem_cons_zero] at hpv
     unfold PvW at hpv
     obtain ⟨ko, kc, vs0, hcs, -⟩ := hpv
     have hl := HJ1.out.own.1
     obtain ⟨pa, rfl, -⟩ := hsv.cell 0 (by rw [hl]; simp)
     have hc9 : w1.cell? ⟨pa.block, pa.off + 9, none⟩ = some (.int .i64 aq) := by
      obtain ⟨p2, h2, h3⟩ := hsv.cell 9 (by rw [hl]; simp; omega)
      cases h2
      rw [show pa.add 9 = ⟨pa.block, pa.off + 9, none⟩ by unfold Addr.add; simp] at h3
      rw [h3, hvr, List.flatMap_cons, hcs]
      rfl
     have hpb : g2 + 1 ≤ pa.block := (HJ1.out.own.lt pa.block rfl).1
     have HPV : Hid (PvW w1 (fun k => B ≤ k ∧ k ≠ g2) (grp 6 (.mk kq cl tq lv aq nm ks :: q :: rest)) #[.int .i64 6, .int .u64 0, .int .u64 0, .int .u64 0, .int .u64 0, .string ⟨#[]⟩, .int .i64 0, .int .i64 0, .slice none 0 0, .int .i64 aq, .string ⟨#[]⟩, .slice (some pa) (Pt.mk kq cl tq lv aq nm ks :: q :: rest).length cap]) := by
      show PvW w1 _ (.mk 6 [] [] 0 aq [] (.mk kq cl tq lv aq nm ks :: q :: rest)) _
      unfold PvW
      exact ⟨some pa, cap, vs, rfl, HSV.out, fun x hx _ => by cases hx; have := HBW.out; omega, PvsW.fr (Fr.refl (fun _ => False) _) (fun _ _ e => e) (fun k hk => ⟨hk.1, hk.2.1⟩) _ _ HJ1.out.pts⟩
     have HS1 : Hid ((grp 6 (.mk kq cl tq lv aq nm ks :: q :: rest)).sz ≤ 2 * (i1 - i) + 1) := by
      show 1 + szL (.mk kq cl tq lv aq nm ks :: q :: rest) ≤ _
      simp only [List.length_cons] at hs1
      omega
     obtain ⟨n, hn⟩ : ∃ n, (Pt.mk kq cl tq lv aq nm ks :: q :: rest).length = n := ⟨_, rfl⟩
     have hn2 : 2 ≤ n := by rw [← hn]; simp
     have hb0 : ((n : Int) == 0) = false := by simp; omega
     have hb1 : ((n : Int) == 1) = false := by simp; omega
     have hn0 : (0 : Int) < n := by omega
     have HONE : Hid ((#[.int .i64 6, .int .u64 0, .int .u64 0, .int .u64 0, .int .u64 0, .string ⟨#[]⟩, .int .i64 0, .int .i64 0, .slice none 0 0, .int .i64 aq, .string ⟨#[]⟩, .slice (some pa) n cap] : Array Value).all (·.oneCell') = true) := by unfold Hid; simp [Value.oneCell']
     rw [hn] at HPV hbd ⊢
     clear hsv hs1 hv0 hne hvr hcs hl hpb hn hn2
     go_wp2_with (refine store_partQ rfl (.tmp 2) (.tmp 31) rfl g2 #[.int .i64 6, .int .u64 0, .int .u64 0, .int .u64 0, .int .u64 0, .string ⟨#[]⟩, .int .i64 0, .int .i64 0, .slice none 0 0, .int .i64 aq, .string ⟨#[]⟩, .slice (some pa) n cap] pt0C rfl rfl HJ1.out.z rfl rfl HONE.out ?_)
     refine bodyPost_ret (results_partQ rfl _ _ g2 _ _ rfl HJ1.out.z rfl) rfl ?_
     exact HJ1.out.fin HG2.out HBW.out (Fr.refl _ _) HJ1.out.q HPV.out HJ1.out.ii HJ1.out.lt HS1.out HM.out
end Go.Proofs.YthfefbmkgebmkaaGreatDoor
namespace Go.Proofs.YthfefbmkgebmkaaGreatDoor
open Go.RowKit

/-- The parser's parts between bars, unrolled: what the document's loop keeps. -/
inductive AqS (L : List Wd) (f0 d : Nat) (r : Rs Pt) : List Pt → Nat → Nat → Nat → Prop
 | more (acc : List Pt) (i f : Nat) : acc ≠ [] → f ≤ f0 → prs L f .altM acc i d = some r → AqS L f0 d r acc i 0 0
 | stop (acc : List Pt) (i e a : Nat) : acc ≠ [] → e ≠ 0 → r = .err e a → AqS L f0 d r acc i e a
/-- The first one. -/
theorem AqS.first {L : List Wd} {f0 i0 d : Nat} {r : Rs Pt} (h : prs L (f0 + 1) .alt [] i0 d = some r) : ∃ r1, prs L f0 .seq [] i0 d = some r1 ∧ (∀ q j, r1 = .ok q j → AqS L f0 d r [q] j 0 0) ∧ (∀ (q : Pt) (j x y : Nat), r1 = .err x y → x ≠ 0 → AqS L f0 d r [q] j x y) := by
 simp only [prs] at h
 cases hq : prs L f0 .seq [] i0 d with
 | none => rw [hq] at h; cases h
 | some r1 =>
  rw [hq] at h
  refine ⟨r1, rfl, fun q j e1 => ?_, fun q j x y e1 hx => ?_⟩
  ·subst e1; exact .more _ _ f0 (by simp) (Nat.le_refl _) h
  ·subst e1; exact .stop _ _ _ _ (by simp) hx (Option.some.inj h).symm
/-- One more. -/
theorem AqS.ask {L : List Wd} {f0 d : Nat} {r : Rs Pt} {acc : List Pt} {i e a : Nat} (h : AqS L f0 d r acc i e a) (he : e = 0) (hb : hereW L i [47] = true) :
  a = 0 ∧ ∃ f r1, f ≤ f0 ∧ prs L f .seq [] (i + 1) d = some r1 ∧ (∀ q j, r1 = .ok q j → AqS L f0 d r (acc ++ [q]) j 0 0) ∧ (∀ (q : Pt) (j x y : Nat), r1 = .err x y → x ≠ 0 → AqS L f0 d r (acc ++ [q]) j x y) := by
 cases h with
 | more f hne hf h =>
  cases f with
  | zero => simp [prs] at h
  | succ f =>
   refine ⟨rfl, f, ?_⟩
   simp only [prs] at h
   rw [if_pos hb] at h
   cases hq : prs L f .seq [] (i + 1) d with
   | none => rw [hq] at h; cases h
   | some r1 =>
    rw [hq] at h
    refine ⟨r1, by omega, rfl, fun q j e1 => ?_, fun q j x y e1 hx => ?_⟩
    ·subst e1; exact .more _ _ f (by simp) (by omega) h
    ·subst e1; exact .stop _ _ _ _ (by simp) hx (Option.some.inj h).symm
 | stop e a hne he0 hr => exact absurd he he0
/-- The end of it. -/
theorem AqS.done {L : List Wd} {f0 d : Nat} {r : Rs Pt} {acc : List Pt} {i e a : Nat} (h : AqS L f0 d r acc i e a) (hb : e = 0 → hereW L i [47] = false) :
  (acc ≠ [] ∧ e = 0 ∧ a = 0 ∧ r = .ok (grp 7 acc) i) ∨ (acc ≠ [] ∧ e ≠ 0 ∧ r = .err e a) := by
 cases h with
 | more f hne hf h =>
  cases f with
  | zero => simp [prs] at h
  | succ f =>
   simp only [prs] at h
   rw [if_neg (by rw [hb rfl]; simp)] at h
   exact .inl ⟨hne, rfl, rfl, (Option.some.inj h).symm⟩
 | stop e a hne he0 hr => exact .inr ⟨hne, he0, hr⟩
end Go.Proofs.YthfefbmkgebmkaaGreatDoor
namespace Go.Proofs.YthfefbmkgebmkaaGreatDoor
open Go.RowKit
set_option maxRecDepth 100000
set_option maxHeartbeats 16000000

/-- Parts between bars, while they are read. -/
structure AqJ (L : List Wd) (B gr d f0 i0 : Nat) (r : Rs Pt) (g2 : Nat) (w : World) (acc : List Pt) (v : Value) (vs : List (Array Value)) (i e a : Nat) (wr : World) : Prop where
 st : AqS L f0 d r acc i e a
 z : hrow wr g2 pt0C 122
 q : RqW L B gr i d e a wr
 fr : Fr (fun k => k = gr) w wr
 own : wr.ownsRow (g2 + 1) 122 12 v acc.length (vs.flatMap Array.toList)
 pts : PvsW wr (fun k => B ≤ k ∧ k ≠ g2 ∧ v.ownBlock ≠ some k) acc vs
 lt : i < L.length
 ii : i0 ≤ i
 sz : szL acc + acc.length ≤ 2 * (i - i0) + (if e = 0 then 0 else 2)
section
variable {L : List Wd} {B gr d f0 i0 : Nat} {r : Rs Pt} {g2 : Nat} {w : World} {acc : List Pt} {v : Value} {vs : List (Array Value)} {i e a : Nat} {wr w' : World}
theorem AqJ.below (h : AqJ L B gr d f0 i0 r g2 w acc v vs i e a wr) (hb : Below wr.heap.size wr w') : AqJ L B gr d f0 i0 r g2 w acc v vs i e a w' :=
 ⟨h.st, h.z.below hb, h.q.below hb, h.fr.trans (Fr.of_below (F := fun k => k = gr) hb) (fun _ _ h => h), owns_fr h.own (Fr.of_below (F := fun _ => False) hb) (fun _ _ e => e), h.pts.below hb, h.lt, h.ii, h.sz⟩
theorem AqJ.fin {p : Pt} {cs : Array Value} {i6 e6 a6 : Nat} (h : AqJ L B gr d f0 i0 r g2 w acc v vs i e a wr) (hw2 : w.heap.size = g2) (hB2 : B ≤ g2) (hfr : Fr (fun k => k = gr) wr w') (hq : RqW L B gr i6 d e6 a6 w') (hp : PvW w' (fun k => B ≤ k ∧ k ≠ g2) p cs) (hii : i0 ≤ i6) (hlt : i6 < L.length) (hsz : p.sz ≤ 2 * (i6 - i0) + 1)
  (hr : match (generalizing := false) r with | .ok q j => p = q ∧ i6 = j ∧ e6 = 0 ∧ a6 = 0 | .err x y => e6 = x ∧ a6 = y ∧ x ≠ 0) : PqP L B gr i0 d r w (.returned (.agg cs)) (w'.setRow g2 cs) := by
 have hf := Fr.setRow w' g2 cs
 exact ⟨p, cs, i6, e6, a6, rfl, PvW.fr hf (fun k hk e => hk.2 e) (fun k hk => hk.1) p cs hp, hq.fr hf (fun k e => by omega), (h.fr.trans hfr (fun _ _ h => h)).trans hf (fun k hk e => by omega), hii, hlt, hsz, hr⟩
theorem AqJ.next {q : Pt} {cs : Array Value} {v' : Value} {w1 w2 : World} {i6 e6 a6 : Nat} (h : AqJ L B gr d f0 i0 r g2 w acc v vs i e a w1) (hw2 : w.heap.size = g2) (hB2 : B ≤ g2) (hgB : gr < B) (hfr : Fr (fun k => k = gr) w1 w2) (hrq : RqW L B gr i6 d e6 a6 w2) (hpv : PvW w2 (fun k => w1.heap.size ≤ k) q cs)
  (hst : AqS L f0 d r (acc ++ [q]) i6 e6 a6) (hii : i ≤ i6) (hlt : i6 < L.length) (hsz : szL (acc ++ [q]) + (acc ++ [q]).length ≤ 2 * (i6 - i0) + (if e6 = 0 then 0 else 2))
  (ho : w'.ownsRow (g2 + 1) 122 12 v' (acc.length + 1) (vs.flatMap Array.toList ++ cs.toList)) (hg : ((w2.alloc (.cells cs 122)).alloc (.cells cs 122)).grownBy w' v.ownBlock) (hb : ∀ k, v'.ownBlock = some k → v.ownBlock = some k ∨ w2.heap.size < k) :
  AqJ L B gr d f0 i0 r g2 w (acc ++ [q]) v' (vs ++ [cs]) i6 e6 a6 w' := by
 have hvl : ∀ k, v.ownBlock = some k → g2 + 1 ≤ k ∧ k < w1.heap.size := fun k hk => h.own.lt k hk
 have hz := h.z.lt
 have h12 := hfr.size
 have hA : Below w2.heap.size w2 ((w2.alloc (.cells cs 122)).alloc (.cells cs 122)) := al2 (Below.refl _ _) _ _
 have hT : Fr (fun k => v.ownBlock = some k) w2 w' := ((Fr.of_below (F := fun _ => False) hA).weak (fun _ h => h.elim)).trans (Fr.grown hg) (fun _ _ h => h)
 have hT1 : Fr (fun k => k = gr ∨ v.ownBlock = some k) w1 w' := (hfr.weak (G := fun k => k = gr ∨ v.ownBlock = some k) (fun _ e => .inl e)).trans hT (fun _ _ e => .inr e)
 refine ⟨hst, h.z.fr hT1 (fun e => ?_), hrq.fr hT (fun k e => by have := hvl k e; omega), h.fr.trans hT1 (fun k hk e => ?_), ?_, ?_, hlt, by have := h.ii; omega, hsz⟩
 ·rcases e with e | e
  ·omega
  ·have := hvl _ e; omega
 ·rcases e with e | e
  ·exact e
  ·have := hvl _ e; omega
 ·rw [List.length_append, List.flatMap_append]; simpa using ho
 ·refine PvsW.snoc (PvsW.fr (H := fun k => B ≤ k ∧ k ≠ g2 ∧ v'.ownBlock ≠ some k) hT1 (fun k hk e => ?_) (fun k hk => ?_) _ _ (PvsW.bound _ _ h.pts)) (PvW.fr (H := fun k => B ≤ k ∧ k ≠ g2 ∧ v'.ownBlock ≠ some k) hT (fun k hk e => ?_) (fun k hk => ?_) _ _ (PvW.bound _ _ hpv))
  ·rcases e with e | e
   ·have := hk.1.1; omega
   ·exact hk.1.2.2 e
  ·refine ⟨hk.1.1, hk.1.2.1, fun e => ?_⟩
   rcases hb k e with e | e
   ·exact hk.1.2.2 e
   ·have := hk.2; omega
  ·have := hvl k e; have := hk.1; omega
  ·refine ⟨by have := hk.1; omega, by have := hk.1; omega, fun e => ?_⟩
   rcases hb k e with e | e
   ·have := hvl k e; have := hk.1; omega
   ·have := hk.2; omega
end
theorem qalt_step (L : List Wd) (hW : WsOk L) (hL : L.length ≤ 50000) (gr f : Nat) (hI : ∀ f', f' ≤ f → PqC L gr 77 .seq f') : PqC L gr 55 .alt (f + 1) := by
 intro B i d w r hr h hi hd
 have HIt := Lib.hid hI; have HD := Lib.hid hd; have HWs := Lib.hid hW; have HLL := Lib.hid hL
 have hbw := h.le
 have hgB := h.lt
 have hbl := (Below.refl w.heap.size w).alloc (Nat.le_refl _) (.cells pt0C 122)
 obtain ⟨w0, hw0⟩ : ∃ x, w.alloc (.cells pt0C 122) = x := ⟨_, rfl⟩
 obtain ⟨g2, hg2⟩ : ∃ g, w.heap.size = g := ⟨_, rfl⟩
 have hz0 : hrow w0 g2 pt0C 122 := by rw [← hw0, ← hg2]; exact hrow.new w _ _
 have hq0 : RqW L B gr i d 0 0 w0 := by rw [← hw0]; exact h.below hbl
 have hf0 : Fr (fun k => k = gr) w w0 := by rw [← hw0]; exact Fr.of_below (F := fun k => k = gr) hbl
 obtain ⟨r1, hr1, hok, herr⟩ := AqS.first hr
 have hg1 : gr < w0.heap.size := by have := hz0.lt; omega
 have HAc := Lib.hid (hI f (Nat.le_refl _) w0.heap.size i d w0 r1 hr1 (hq0.base hg1 (Nat.le_refl _)) hi hd)
 have HPS := Lib.hid (fun q j (e : r1 = .ok q j) => prs_sz hW f .seq [] i d q j hi trivial (e ▸ hr1))
 have HOK := Lib.hid hok; have HER := Lib.hid herr
 have HW0 := Lib.hid hw0; have HG2 := Lib.hid hg2; have HBW : Hid (B ≤ g2) := by unfold Hid; omega
 have HGB := Lib.hid hgB; have HZ0 := Lib.hid hz0; have HF0 := Lib.hid hf0; have HQ0 := Lib.hid hq0; have HI0 := Lib.hid hi
 clear hr h hi hd hI hW hL hbw hgB hbl hw0 hg2 hz0 hq0 hf0 hr1 hok herr hg1
 unfold ptr PqP at HAc
 unfold ptr
 go_enter Tryz.func55, Tryz.ntmps55
 go_upto_region 1 with (fail)
 unfold pt0C at HW0
 rw [HW0.out, HG2.out]
 go_wp2_with fail
 refine HAc.out.mono ?_
 rintro rr w2 ⟨q, cs, i6, e6, a6, rfl, hpv, hrq, hfr, hi1, hi2, hsz, hm⟩
 obtain ⟨kq, cl, tq, lv, aq, nm, ks⟩ := q
 have hpv0 := hpv
 unfold PvW at hpv
 obtain ⟨ko, kc, vs0, rfl, -⟩ := hpv
 unfold ptC at hpv0 ⊢
 have hbl := (Below.refl w2.heap.size w2).alloc (Nat.le_refl _) (.cells #[.int .i64 kq, .int .u64 (clsW cl 0), .int .u64 (clsW cl 1), .int .u64 (clsW cl 2), .int .u64 (clsW cl 3), .string (tx tq), .int .i64 0, .int .i64 lv, .slice none 0 0, .int .i64 aq, .string (tx nm), .slice ko ks.length kc] 122)
 have HJ0 : Hid (AqJ L B gr d f i r g2 w [Pt.mk kq cl tq lv aq nm ks] (.slice (some ⟨w2.heap.size, 0, none⟩) 1 1) [#[.int .i64 kq, .int .u64 (clsW cl 0), .int .u64 (clsW cl 1), .int .u64 (clsW cl 2), .int .u64 (clsW cl 3), .string (tx tq), .int .i64 0, .int .i64 lv, .slice none 0 0, .int .i64 aq, .string (tx nm), .slice ko ks.length kc]] i6 e6 a6 (w2.alloc (.cells #[.int .i64 kq, .int .u64 (clsW cl 0), .int .u64 (clsW cl 1), .int .u64 (clsW cl 2), .int .u64 (clsW cl 3), .string (tx tq), .int .i64 0, .int .i64 lv, .slice none 0 0, .int .i64 aq, .string (tx nm), .slice ko ks.length kc] 122))) := by
  have hst : AqS L f d r [Pt.mk kq cl tq lv aq nm ks] i6 e6 a6 := by
   cases r1 with
   | ok p j => obtain ⟨h1, h2, h3, h4⟩ := hm; subst h2 h3 h4; exact HOK.out _ _ (by rw [h1])
   | err x y => obtain ⟨h1, h2, h3⟩ := hm; subst h1 h2; exact HER.out _ _ _ _ rfl h3
  have hszn : szL [Pt.mk kq cl tq lv aq nm ks] + [Pt.mk kq cl tq lv aq nm ks].length ≤ 2 * (i6 - i) + (if e6 = 0 then 0 else 2) := by
   have e1 : szL [Pt.mk kq cl tq lv aq nm ks] = (Pt.mk kq cl tq lv aq nm ks).sz := by simp [szL]
   rw [e1]
   cases r1 with
   | ok p j =>
    obtain ⟨h1, h2, h3, h4⟩ := hm
    have := HPS.out p j rfl
    rw [← h1, ← h2] at this
    simp only [List.length_singleton]
    split <;> omega
   | err x y =>
    obtain ⟨h1, h2, h3⟩ := hm
    rw [if_neg (by omega)]
    simp only [List.length_singleton]
    omega
  have hz := HZ0.out.lt; have hs2 := hfr.size; have hb2 := HBW.out; have hg3 := HGB.out
  have hown := World.ownsRow_lit (base := g2 + 1) (e := 122) (size := 12) w2 #[.int .i64 kq, .int .u64 (clsW cl 0), .int .u64 (clsW cl 1), .int .u64 (clsW cl 2), .int .u64 (clsW cl 3), .string (tx tq), .int .i64 0, .int .i64 lv, .slice none 0 0, .int .i64 aq, .string (tx nm), .slice ko ks.length kc] 1 (by omega) (by unfold maxLen; omega) rfl
  refine ⟨hst, (HZ0.out.fr hfr (fun e => by omega)).below hbl, (hrq.base HQ0.out.lt (Nat.le_trans HQ0.out.le hfr.size)).below hbl, (HF0.out.trans hfr (fun _ _ h => h)).trans (Fr.of_below (F := fun k => k = gr) hbl) (fun _ _ h => h), by simpa using hown, ?_, hi2, hi1, hszn⟩
  unfold PvsW
  refine ⟨_, [], rfl, (PvW.fr (H := fun k => B ≤ k ∧ k ≠ g2 ∧ (Value.slice (some ⟨w2.heap.size, 0, none⟩) 1 1).ownBlock ≠ some k) (Fr.refl (fun _ => False) _) (fun _ _ e => e) (fun k hk => ?_) _ _ (PvW.bound _ _ hpv0)).below hbl, by unfold PvsW; rfl⟩
  refine ⟨by have := hk.1; omega, by have := hk.1; omega, fun e => ?_⟩
  have e2 : w2.heap.size = k := by simpa [Value.ownBlock] using e
  have := hk.2; omega
 clear hpv0 hrq hfr hi1 hi2 hsz hm hbl HAc
 go_upto_region 2 with (fail)
 go_loopw [3, 4] (fun t3 _ wr => ∃ (acc : List Pt) (v : Value) (vs : List (Array Value)) (i' e' a' : Nat), t3 = v ∧ Hid (AqJ L B gr d f i r g2 w acc v vs i' e' a' wr)) (fun t3 _ _ => 2 * L.length + 3 - lenV t3)
 case atStart => exact ⟨_, _, _, i6, e6, a6, rfl, HJ0.out⟩
 case round =>
  clear HJ0
  obtain ⟨acc, v, vs, i1, e1, a1, rfl, HJ⟩ := hrel
  have HB := Lib.hid (qhere_any L B gr i1 d e1 a1 wr HJ.out.q HJ.out.lt [47])
  unfold ptr at HB
  obtain ⟨b, hb⟩ : ∃ b, (decide (e1 = 0) && hereW L i1 [47]) = b := ⟨_, rfl⟩
  rw [hb] at HB
  have HBV := Lib.hid hb
  clear hb
  go_wp2_with fail
  refine HB.out.mono ?_
  rintro rr w1 ⟨rfl, hbb⟩
  have HJ1 := Lib.hid (HJ.out.below hbb)
  clear hbb HB HJ
  cases b with
  | true =>
   have hbv := HBV.out
   simp only [Bool.and_eq_true, decide_eq_true_eq] at hbv
   obtain ⟨he1, hbg⟩ := hbv
   subst he1
   obtain ⟨ha, f', r2, hf', hr1, hok, herr⟩ := HJ1.out.st.ask rfl hbg
   subst ha
   have hlt1 : i1 + 1 < L.length := HWs.out.after HJ1.out.lt hbg
   obtain ⟨hqs, hfs⟩ := HJ1.out.q.set (i' := i1 + 1) (d' := d) (e' := 0) (a' := 0) 1 (.int .i64 ((i1 : Int) + 1)) (fun y => by simp)
   have c1 : w1.cell? ⟨gr, 1, none⟩ = some (.int .i64 i1) := by obtain ⟨x1, x2, h1, _, _⟩ := HJ1.out.q.row; exact h1.cell 1
   have f1 : w1.frozen? ⟨gr, 1, none⟩ = false := by obtain ⟨x1, x2, h1, _, _⟩ := HJ1.out.q.row; exact h1.frozen 1
   have hLI : (i1 : Int) + 1 ≤ 50000 := by have := HLL.out; omega
   go_upto_region 4 with (fail)
   obtain ⟨w1b, hw1b⟩ : ∃ x, w1.setCell ⟨gr, 1, none⟩ (.int .i64 ((i1 : Int) + 1)) = x := ⟨_, rfl⟩
   rw [hw1b] at hqs hfs ⊢
   have hsz1 := hfs.size
   have hg1 : gr < w1b.heap.size := by have := HJ1.out.q.lt; have := HJ1.out.q.le; omega
   have HAc := Lib.hid (HIt.out f' hf' w1b.heap.size (i1 + 1) d w1b r2 hr1 (hqs.base hg1 (Nat.le_refl _)) hlt1 HD.out)
   have HFS := Lib.hid hfs; have HOK := Lib.hid hok; have HER := Lib.hid herr
   have HPS := Lib.hid (fun q j (e : r2 = .ok q j) => prs_sz HWs.out f' .seq [] (i1 + 1) d q j hlt1 trivial (e ▸ hr1))
   clear hbg hr1 hf' hg1 hok herr HBV c1 f1 hw1b hqs hfs hlt1
   unfold ptr PqP at HAc
   go_wp2_with fail
   refine HAc.out.mono ?_
   rintro rr w2 ⟨q, cs, i6, e6, a6, rfl, hpv, hrq, hfr2, hi1b, hi2, hsz, hm⟩
   have hi1 : i1 ≤ i6 := by omega
   have hfr : Fr (fun k => k = gr) w1 w2 := HFS.out.trans hfr2 (fun _ _ h => h)
   have hpvs := hsz1
   obtain ⟨kq, cl, tq, lv, aq, nm, ks⟩ := q
   have hpv0 := hpv
   unfold PvW at hpv
   obtain ⟨ko, kc, vs0, rfl, -⟩ := hpv
   unfold ptC at hpv0 ⊢
   have hlen : acc.length ≤ 2 * L.length := by
    have h0 : szL acc + acc.length ≤ 2 * (i1 - i) := by simpa using HJ1.out.sz
    have := HJ1.out.lt
    omega
   have hstn : AqS L f d r (acc ++ [Pt.mk kq cl tq lv aq nm ks]) i6 e6 a6 := by
    cases r2 with
    | ok p j => obtain ⟨h1, h2, h3, h4⟩ := hm; subst h2 h3 h4; exact HOK.out _ _ (by rw [h1])
    | err x y => obtain ⟨h1, h2, h3⟩ := hm; subst h1 h2; exact HER.out _ _ _ _ rfl h3
   have hszn : szL (acc ++ [Pt.mk kq cl tq lv aq nm ks]) + (acc ++ [Pt.mk kq cl tq lv aq nm ks]).length ≤ 2 * (i6 - i) + (if e6 = 0 then 0 else 2) := by
    have h0 : szL acc + acc.length ≤ 2 * (i1 - i) := by simpa using HJ1.out.sz
    have hii := HJ1.out.ii
    rw [szL_app, List.length_append]
    have e1 : szL [Pt.mk kq cl tq lv aq nm ks] = (Pt.mk kq cl tq lv aq nm ks).sz := by simp [szL]
    rw [e1]
    cases r2 with
    | ok p j =>
     obtain ⟨h1, h2, h3, h4⟩ := hm
     have := HPS.out p j rfl
     rw [← h1, ← h2] at this
     simp only [List.length_singleton]
     split <;> omega
    | err x y =>
     obtain ⟨h1, h2, h3⟩ := hm
     rw [if_neg (by omega)]
     simp only [List.length_singleton]
     omega
   have HSTN := Lib.hid hstn; have HSZN := Lib.hid hszn; have HPV := Lib.hid (PvW.fr (H := fun k => w1.heap.size ≤ k) (Fr.refl (fun _ => False) _) (fun _ _ e => e) (fun k hk => by omega) _ _ hpv0)
   have HRQ := Lib.hid (hrq.base HJ1.out.q.lt (Nat.le_trans HJ1.out.q.le hfr.size))
   have HFR := Lib.hid hfr; have HI1 := Lib.hid hi1; have HI2 := Lib.hid hi2; have HLEN := Lib.hid hlen
   have HONE : Hid (∀ u ∈ (#[.int .i64 kq, .int .u64 (clsW cl 0), .int .u64 (clsW cl 1), .int .u64 (clsW cl 2), .int .u64 (clsW cl 3), .string (tx tq), .int .i64 0, .int .i64 lv, .slice none 0 0, .int .i64 aq, .string (tx nm), .slice ko ks.length kc] : Array Value).toList, u.oneCell' = true) := fun u hu => hpv0.one u hu
   have HOWN : Hid ((w2.alloc (.cells #[.int .i64 kq, .int .u64 (clsW cl 0), .int .u64 (clsW cl 1), .int .u64 (clsW cl 2), .int .u64 (clsW cl 3), .string (tx tq), .int .i64 0, .int .i64 lv, .slice none 0 0, .int .i64 aq, .string (tx nm), .slice ko ks.length kc] 122)).ownsRow (g2 + 1) 122 12 u3 acc.length (vs.flatMap Array.toList)) := (owns_fr HJ1.out.own hfr (fun k hk e => by have := HJ1.out.own.lt k hk; have := HGB.out; have := HBW.out; omega)).alloc _
   have HSZ3 : Hid (g2 + 1 ≤ (w2.alloc (.cells #[.int .i64 kq, .int .u64 (clsW cl 0), .int .u64 (clsW cl 1), .int .u64 (clsW cl 2), .int .u64 (clsW cl 3), .string (tx tq), .int .i64 0, .int .i64 lv, .slice none 0 0, .int .i64 aq, .string (tx nm), .slice ko ks.length kc] 122)).heap.size) := by have := HJ1.out.z.lt; have := hfr.size; unfold Hid; rw [World.size_alloc]; omega
   have HN2 : Hid (acc.length ≤ 200000) := by have := HLL.out; unfold Hid; omega
   have HR4 := Lib.hid (hrow.new w2 #[.int .i64 kq, .int .u64 (clsW cl 0), .int .u64 (clsW cl 1), .int .u64 (clsW cl 2), .int .u64 (clsW cl 3), .string (tx tq), .int .i64 0, .int .i64 lv, .slice none 0 0, .int .i64 aq, .string (tx nm), .slice ko ks.length kc] 122)
   clear hstn hszn hpv0 hrq hfr hfr2 hi1 hi1b hi2 hlen hm hsz HAc hsz1 hpvs
   go_upto_region 5 with (fail)
   obtain ⟨w3, hw3⟩ : ∃ x, w2.alloc (.cells #[.int .i64 kq, .int .u64 (clsW cl 0), .int .u64 (clsW cl 1), .int .u64 (clsW cl 2), .int .u64 (clsW cl 3), .string (tx tq), .int .i64 0, .int .i64 lv, .slice none 0 0, .int .i64 aq, .string (tx nm), .slice ko ks.length kc] 122) = x := ⟨_, rfl⟩
   have hs3 : w3.heap.size = w2.heap.size + 1 := by rw [← hw3, World.size_alloc]
   rw [hw3] at HOWN HSZ3 HR4 ⊢
   have HW3 := Lib.hid hw3; have HS3 := Lib.hid hs3
   clear hw3 hs3
   go_wp2_with (first | (refine load_partQ rfl (.tmp 4) rfl w2.heap.size rfl #[.int .i64 kq, .int .u64 (clsW cl 0), .int .u64 (clsW cl 1), .int .u64 (clsW cl 2), .int .u64 (clsW cl 3), .string (tx tq), .int .i64 0, .int .i64 lv, .slice none 0 0, .int .i64 aq, .string (tx nm), .slice ko ks.length kc] HR4.out rfl ?_) | (at_builtin; refine app_partQ rfl (.tmp 19) (.tmp 21) rfl (g2 + 1) u3 acc.length _ rfl HOWN.out #[.int .i64 kq, .int .u64 (clsW cl 0), .int .u64 (clsW cl 1), .int .u64 (clsW cl 2), .int .u64 (clsW cl 3), .string (tx tq), .int .i64 0, .int .i64 lv, .slice none 0 0, .int .i64 aq, .string (tx nm), .slice ko ks.length kc] rfl HONE.out rfl HN2.out HSZ3.out ?_; intro v' w8 ho hgr hbk; have HO8 := Lib.hid ho; have HG8 := Lib.hid hgr; have HB8 := Lib.hid hbk; clear ho hgr hbk))
   have HJN : Hid (AqJ L B gr d f i r g2 w (acc ++ [Pt.mk kq cl tq lv aq nm ks]) v' (vs ++ [#[.int .i64 kq, .int .u64 (clsW cl 0), .int .u64 (clsW cl 1), .int .u64 (clsW cl 2), .int .u64 (clsW cl 3), .string (tx tq), .int .i64 0, .int .i64 lv, .slice none 0 0, .int .i64 aq, .string (tx nm), .slice ko ks.length kc]]) i6 e6 a6 w8) :=
    HJ1.out.next HG2.out HBW.out HGB.out HFR.out HRQ.out HPV.out HSTN.out HI1.out HI2.out HSZN.out HO8.out (by rw [HW3.out]; exact HG8.out) (fun k hk => (HB8.out k hk).imp id (fun h => by have := HS3.out; omega))
   have hlv : lenV u3 = acc.length := by obtain ⟨ao, cap, rfl, _⟩ := Sv.of_owns HJ1.out.own; rfl
   have hlv2 : lenV v' = acc.length + 1 := by obtain ⟨ao, cap, rfl, _⟩ := Sv.of_owns HO8.out; rfl
   have HLV := Lib.hid hlv; have HLV2 := Lib.hid hlv2
   clear hlv hlv2
   go_roundw
   case rel => exact ⟨_, v', _, _, _, _, rfl, HJN.out⟩
   case measure => rw [HLV.out, HLV2.out]; have := HLEN.out; omega
  | false =>
   have hdn := HJ1.out.st.done (fun he => by have := HBV.out; rw [he] at this; simpa using this)
   have hlv : lenV u3 = acc.length := by obtain ⟨ao, cap, rfl, _⟩ := Sv.of_owns HJ1.out.own; rfl
   obtain ⟨ao, cap, rfl, hsv⟩ := Sv.of_owns HJ1.out.own
   have hbd := hsv.bound
   have HSV := Lib.hid hsv
   have hne : acc ≠ [] := by rcases hdn with h | h <;> exact h.1
   have HM : Hid (match (generalizing := false) r with | .ok q j => grp 7 acc = q ∧ i1 = j ∧ e1 = 0 ∧ a1 = 0 | .err x y => e1 = x ∧ a1 = y ∧ x ≠ 0) := by
    rcases hdn with ⟨-, h1, h2, h3⟩ | ⟨-, h1, h2⟩
    ·rw [h3]; exact ⟨rfl, rfl, h1, h2⟩
    ·rw [h2]; exact ⟨rfl, rfl, h1⟩
   have hs0 := HJ1.out.sz
   have hs1 : szL acc + acc.length ≤ 2 * (i1 - i) + 2 := by split at hs0 <;> omega
   clear hs0 hdn hlv
   match acc, hne with
   | [p], _ =>
    obtain ⟨cs, hv0, hpv⟩ := HJ1.out.pts.at 0 (by simp)
    obtain ⟨vr, rfl⟩ : ∃ vr, vs = cs :: vr := by cases vs with
     | nil => simp at hv0
     | cons x y => exact ⟨y, by simp at hv0; rw [hv0]⟩
    obtain ⟨kq, cl, tq, lv, aq, nm, ks⟩ := p
    have hpv0 := hpv
    simp only [List.getElem_cons_zero] at hpv hpv0
    unfold PvW at hpv
    obtain ⟨ko, kc, vs0, rfl, -⟩ := hpv
    unfold ptC at hpv0 hsv
    obtain ⟨pa, rfl, -⟩ := hsv.cell 0 (by simp [List.flatMap_cons])
    have HCC : Hid (∀ j u, (#[.int .i64 kq, .int .u64 (clsW cl 0), .int .u64 (clsW cl 1), .int .u64 (clsW cl 2), .int .u64 (clsW cl 3), .string (tx tq), .int .i64 0, .int .i64 lv, .slice none 0 0, .int .i64 aq, .string (tx nm), .slice ko ks.length kc] : Array Value).toList[j]? = some u → w1.cell? (pa.add j) = some u) := fun j u hj => by
     have hjl : j < 12 := by have := (List.getElem?_eq_some_iff.1 hj).1; simpa using this
     obtain ⟨p2, h2, h3⟩ := hsv.cell j (by simp [List.flatMap_cons]; omega)
     cases h2
     rw [h3, List.flatMap_cons, List.getElem?_append_left (by simpa using hjl)]
     exact hj
    have HPV := Lib.hid hpv0
    have HONE : Hid ((#[.int .i64 kq, .int .u64 (clsW cl 0), .int .u64 (clsW cl 1), .int .u64 (clsW cl 2), .int .u64 (clsW cl 3), .string (tx tq), .int .i64 0, .int .i64 lv, .slice none 0 0, .int .i64 aq, .string (tx nm), .slice ko ks.length kc] : Array Value).all (·.oneCell') = true) := by unfold Hid; simp [Value.oneCell']
    have HS1 : Hid ((Pt.mk kq cl tq lv aq nm ks).sz ≤ 2 * (i1 - i) + 1) := by simp [szL] at hs1; unfold Hid; omega
    clear hpv0 hsv hs1 hv0 hne
    go_wp2_with (first | (refine wpList_load_part rfl 122 (.tmp 27) rfl pa rfl #[.int .i64 kq, .int .u64 (clsW cl 0), .int .u64 (clsW cl 1), .int .u64 (clsW cl 2), .int .u64 (clsW cl 3), .string (tx tq), .int .i64 0, .int .i64 lv, .slice none 0 0, .int .i64 aq, .string (tx nm), .slice ko ks.length kc] _ HCC.out Tryz.underlying122 rfl pq_info ?_) | (refine store_partQ rfl (.tmp 2) (.tmp 28) rfl g2 #[.int .i64 kq, .int .u64 (clsW cl 0), .int .u64 (clsW cl 1), .int .u64 (clsW cl 2), .int .u64 (clsW cl 3), .string (tx tq), .int .i64 0, .int .i64 lv, .slice none 0 0, .int .i64 aq, .string (tx nm), .slice ko ks.length kc] pt0C rfl rfl HJ1.out.z rfl rfl HONE.out ?_))
    refine bodyPost_ret (results_partQ rfl _ _ g2 _ _ rfl HJ1.out.z rfl) rfl ?_
    exact HJ1.out.fin HG2.out HBW.out (Fr.refl _ _) HJ1.out.q (PvW.fr (Fr.refl (fun _ => False) _) (fun _ _ e => e) (fun k hk => ⟨hk.1, hk.2.1⟩) _ _ HPV.out) HJ1.out.ii HJ1.out.lt HS1.out HM.out
   | .mk kq cl tq lv aq nm ks :: q :: rest, _ =>
    obtain ⟨cs, hv0, hpv⟩ := HJ1.out.pts.at 0 (by simp)
    have hvs : ∃ vr, vs = cs :: vr := by cases vs with
     | nil => simp at hv0
     | cons x y => exact ⟨y, by simp at hv0; rw [hv0]⟩
    obtain ⟨vr, hvr⟩ := hvs
    simp only [List.getElem_cons_zero] at hpv
    unfold PvW at hpv
    obtain ⟨ko, kc, vs0, hcs, -⟩ := hpv
    have hl := HJ1.out.own.1
    obtain ⟨pa, rfl, -⟩ := hsv.cell 0 (by rw [hl]; simp)
    have hc9 : w1.cell? ⟨pa.block, pa.off + 9, none⟩ = some (.int .i64 aq) := by
     obtain ⟨p2, h2, h3⟩ := hsv.cell 9 (by rw [hl]; simp; omega)
     cases h2
     rw [show pa.add 9 = ⟨pa.block, pa.off + 9, none⟩ by unfold Addr.add; simp] at h3
     rw [h3, hvr, List.flatMap_cons, hcs]
     rfl
    have hpb : g2 + 1 ≤ pa.block := (HJ1.out.own.lt pa.block rfl).1
    have HPV : Hid (PvW w1 (fun k => B ≤ k ∧ k ≠ g2) (grp 7 (.mk kq cl tq lv aq nm ks :: q :: rest)) #[.int .i64 7, .int .u64 0, .int .u64 0, .int .u64 0, .int .u64 0, .string ⟨#[]⟩, .int .i64 0, .int .i64 0, .slice none 0 0, .int .i64 aq, .string ⟨#[]⟩, .slice (some pa) (Pt.mk kq cl tq lv aq nm ks :: q :: rest).length cap]) := by
     show PvW w1 _ (.mk 7 [] [] 0 aq [] (.mk kq cl tq lv aq nm ks :: q :: rest)) _
     unfold PvW
     exact ⟨some pa, cap, vs, rfl, HSV.out, fun x hx _ => by cases hx; have := HBW.out; omega, PvsW.fr (Fr.refl (fun _ => False) _) (fun _ _ e => e) (fun k hk => ⟨hk.1, hk.2.1⟩) _ _ HJ1.out.pts⟩
    have HS1 : Hid ((grp 7 (.mk kq cl tq lv aq nm ks :: q :: rest)).sz ≤ 2 * (i1 - i) + 1) := by
     show 1 + szL (.mk kq cl tq lv aq nm ks :: q :: rest) ≤ _
     simp only [List.length_cons] at hs1
     omega
    obtain ⟨n, hn⟩ : ∃ n, (Pt.mk kq cl tq lv aq nm ks :: q :: rest).length = n := ⟨_, rfl⟩
    have hn2 : 2 ≤ n := by rw [← hn]; simp
    have hb0 : ((n : Int) == 0) = false := by simp; omega
    have hb1 : ((n : Int) == 1) = false := by simp; omega
    have hn0 : (0 : Int) < n := by omega
    have HONE : Hid ((#[.int .i64 7, .int .u64 0, .int .u64 0, .int .u64 0, .int .u64 0, .string ⟨#[]⟩, .int .i64 0, .int .i64 0, .slice none 0 0, .int .i64 aq, .string ⟨#[]⟩, .slice (some pa) n cap] : Array Value).all (·.oneCell') = true) := by unfold Hid; simp [Value.oneCell']
    rw [hn] at HPV hbd ⊢
    clear hsv hs1 hv0 hne hvr hcs hl hpb hn hn2
    go_wp2_with (refine store_partQ rfl (.tmp 2) (.tmp 35) rfl g2 #[.int .i64 7, .int .u64 0, .int .u64 0, .int .u64 0, .int .u64 0, .string ⟨#[]⟩, .int .i64 0, .int .i64 0, .slice none 0 0, .int .i64 aq, .string ⟨#[]⟩, .slice (some pa) n cap] pt0C rfl rfl HJ1.out.z rfl rfl HONE.out ?_)
    refine bodyPost_ret (results_partQ rfl _ _ g2 _ _ rfl HJ1.out.z rfl) rfl ?_
    exact HJ1.out.fin HG2.out HBW.out (Fr.refl _ _) HJ1.out.q HPV.out HJ1.out.ii HJ1.out.lt HS1.out HM.out
end Go.Proofs.YthfefbmkgebmkaaGreatDoor
namespace Go.Proofs.YthfefbmkgebmkaaGreatDoor
open Go.RowKit
set_option maxRecDepth 100000
set_option maxHeartbeats 8000000

/-- The signs behind a part: what the document's loop keeps. -/
def SufS (L : List Wd) (r : Rs Pt) (p : Pt) (i e a : Nat) : Prop :=
 (e = 0 ∧ a = 0 ∧ ∃ n, L.length ≤ i + n ∧ r = .ok (sufF L n p i).1 (sufF L n p i).2) ∨ (e ≠ 0 ∧ r = .err e a)
/-- The kind that a sign behind makes. -/
def sufK (L : List Wd) (i : Nat) : Nat := if hereW L i [63] = true then 10 else if hereW L i [43] = true then 9 else 8
theorem here_one {L : List Wd} {i : Nat} {s t : List UInt8} (h : hereW L i s = true) (hne : s ≠ t) : hereW L i t = false := by
 cases h2 : hereW L i t with
 | false => rfl
 | true => exact absurd ((here_kind h).2.symm.trans (here_kind h2).2) hne
theorem sufF_step {L : List Wd} {i : Nat} (n : Nat) (p : Pt) (hh : (hereW L i [42] || (hereW L i [43] || hereW L i [63])) = true) : sufF L (n + 1) p i = sufF L n (ovr (sufK L i) (wdAt L i).at_ p) (i + 1) := by
 show (if hereW L i [42] then sufF L n (ovr 8 (wdAt L i).at_ p) (i + 1)
  else if hereW L i [43] then sufF L n (ovr 9 (wdAt L i).at_ p) (i + 1)
  else if hereW L i [63] then sufF L n (ovr 10 (wdAt L i).at_ p) (i + 1)
  else (p, i)) = _
 unfold sufK
 by_cases h1 : hereW L i [42] = true
 ·rw [if_pos h1, here_one h1 (t := [63]) (by decide), here_one h1 (t := [43]) (by decide)]
  rw [if_neg (by decide), if_neg (by decide)]
 ·rw [if_neg h1]
  by_cases h2 : hereW L i [43] = true
  ·rw [if_pos h2, if_pos h2, here_one h2 (t := [63]) (by decide), if_neg (by decide)]
  ·rw [if_neg h2]
   have h3 : hereW L i [63] = true := by
    simp only [Bool.or_eq_true] at hh
    rcases hh with h | h | h
    ·exact absurd h h1
    ·exact absurd h h2
    ·exact h
   rw [if_pos h3, if_pos h3]
theorem SufS.more {L : List Wd} {r : Rs Pt} {p : Pt} {i a : Nat} (h : SufS L r p i 0 a) (hi : i < L.length) (hh : (hereW L i [42] || (hereW L i [43] || hereW L i [63])) = true) : SufS L r (ovr (sufK L i) (wdAt L i).at_ p) (i + 1) 0 0 := by
 rcases h with ⟨-, -, n, hn, hr⟩ | ⟨h, -⟩
 ·cases n with
  | zero => omega
  | succ n => exact .inl ⟨rfl, rfl, n, by omega, by rw [hr, sufF_step n p hh]⟩
 ·exact absurd rfl h
theorem SufS.done {L : List Wd} {r : Rs Pt} {p : Pt} {i e a : Nat} (h : SufS L r p i e a) (hh : e = 0 → (hereW L i [42] || (hereW L i [43] || hereW L i [63])) = false) : match (generalizing := false) r with | .ok q j => p = q ∧ i = j ∧ e = 0 ∧ a = 0 | .err x y => e = x ∧ a = y ∧ x ≠ 0 := by
 rcases h with ⟨he, ha, n, hn, hr⟩ | ⟨he, hr⟩
 ·have h0 := hh he
  simp only [Bool.or_eq_false_iff] at h0
  obtain ⟨h1, h2, h3⟩ := h0
  have hs : sufF L n p i = (p, i) := by
   cases n with
   | zero => rfl
   | succ n => unfold sufF; rw [h1, h2, h3]; rfl
  rw [hs] at hr
  subst hr
  exact ⟨rfl, rfl, he, ha⟩
 ·subst hr; exact ⟨rfl, rfl, he⟩
/-- An item begins with a sign ahead, or is a part with signs behind it. -/
theorem item_cases {L : List Wd} {f i d : Nat} {r : Rs Pt} (h : prs L (f + 1) .item [] i d = some r) :
  (∃ K r', ((hereW L i [33] = true ∧ K = 11) ∨ (hereW L i [33] = false ∧ hereW L i [38] = true ∧ K = 12)) ∧ prs L f .item [] (i + 1) d = some r' ∧ (∀ q j, r' = .ok q j → r = .ok (ovr K (wdAt L i).at_ q) j) ∧ (∀ x y, r' = .err x y → r = .err x y)) ∨
  (hereW L i [33] = false ∧ hereW L i [38] = false ∧ ∃ r', prs L f .prim [] i d = some r' ∧ (∀ q j, r' = .ok q j → SufS L r q j 0 0) ∧ (∀ (q : Pt) (j x y : Nat), r' = .err x y → x ≠ 0 → SufS L r q j x y)) := by
 simp only [prs] at h
 by_cases h1 : hereW L i [33] = true
 ·rw [if_pos h1] at h
  refine .inl ⟨11, ?_⟩
  cases hq : prs L f .item [] (i + 1) d with
  | none => rw [hq] at h; cases h
  | some r' =>
   rw [hq] at h
   refine ⟨r', .inl ⟨h1, rfl⟩, rfl, fun q j e => ?_, fun x y e => ?_⟩ <;> subst e <;> exact (Option.some.inj h).symm
 ·rw [if_neg h1] at h
  have h1' : hereW L i [33] = false := by simpa using h1
  by_cases h2 : hereW L i [38] = true
  ·rw [if_pos h2] at h
   refine .inl ⟨12, ?_⟩
   cases hq : prs L f .item [] (i + 1) d with
   | none => rw [hq] at h; cases h
   | some r' =>
    rw [hq] at h
    refine ⟨r', .inr ⟨h1', h2, rfl⟩, rfl, fun q j e => ?_, fun x y e => ?_⟩ <;> subst e <;> exact (Option.some.inj h).symm
  ·rw [if_neg h2] at h
   have h2' : hereW L i [38] = false := by simpa using h2
   refine .inr ⟨h1', h2', ?_⟩
   cases hq : prs L f .prim [] i d with
   | none => rw [hq] at h; cases h
   | some r' =>
    rw [hq] at h
    refine ⟨r', rfl, fun q j e => ?_, fun q j x y e hx => ?_⟩
    ·subst e; exact .inl ⟨rfl, rfl, L.length, by omega, (Option.some.inj h).symm⟩
    ·subst e; exact .inr ⟨hx, (Option.some.inj h).symm⟩
/-- A part about a part: its kid lies in a row of one, newly made. -/
theorem pv_over {w1 w2 : World} {F H : Nat → Prop} {p : Pt} {cs : Array Value} (k a : Nat) (hp : PvW w1 F p cs) (hF : ∀ k, F k → H k) (g : Nat) (ty : TypeId) (hg : hrow w2 g cs ty) (hb : Below w1.heap.size w1 w2) (hH : H g) :
  PvW w2 H (ovr k a p) (ptC k [] [] 0 a [] (some ⟨g, 0, none⟩) 1 1) := by
 unfold ovr PvW
 refine ⟨some ⟨g, 0, none⟩, 1, [cs], rfl, ?_, fun x hx _ => by cases hx; exact hH, ?_⟩
 ·have := Sv.of_hrow hg 1 12 (by unfold maxLen; omega) (by rw [hp.size])
  simpa using this
 ·unfold PvsW
  refine ⟨cs, [], rfl, PvW.fr (G := fun _ => False) (Fr.of_below hb) (fun _ _ e => e) hF _ _ hp, ?_⟩
  unfold PvsW; rfl
end Go.Proofs.YthfefbmkgebmkaaGreatDoor
