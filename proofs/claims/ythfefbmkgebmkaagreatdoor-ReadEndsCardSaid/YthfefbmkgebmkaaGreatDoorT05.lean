/- Walks and plain laws: Ql. -/
import Derived.Test.YthfefbmkgebmkaaGreatDoorT03
import Derived.Test.YthfefbmkgebmkaaGreatDoorT04
import Derived.Test.YthfefbmkgebmkaaGreatDoorM10
namespace Go.Proofs.YthfefbmkgebmkaaGreatDoor
open Go.RowKit
set_option maxRecDepth 100000
set_option maxHeartbeats 16000000

theorem RqW.pos {L : List Wd} {B gr i : Nat} {d : Int} {e a : Nat} {w : World} (h : RqW L B gr i d e a w) : posOf w gr = i := by
 obtain ⟨ao, cap, h1, _, _⟩ := h.row
 have h2 := h1.cell 1
 unfold posOf
 rw [h2]
 simp
theorem ErS.part {L : List Wd} {B gr i i0 : Nat} {d : Int} {e a g2 : Nat} {w wr : World} {r : Rs Pt} {p : Pt} {cs : Array Value} (h : ErS L B gr i d e a g2 w wr) (hg2 : w.heap.size = g2) (hB : B ≤ g2) (hp : PvW wr (fun k => B ≤ k ∧ k ≠ g2) p cs) (hii : i0 ≤ i) (hlt : i < L.length) (hsz : p.sz ≤ 2 * (i - i0) + 1)
  (hr : match (generalizing := false) r with | .ok q j => p = q ∧ i = j ∧ e = 0 ∧ a = 0 | .err x y => e = x ∧ a = y ∧ x ≠ 0) : PqP L B gr i0 d r w (.returned (.agg cs)) (wr.setRow g2 cs) := by
 have hf := Fr.setRow wr g2 cs
 exact ⟨p, cs, i, e, a, rfl, PvW.fr hf (fun k hk e => hk.2 e) (fun k hk => hk.1) p cs hp, (h.fin hg2 hB cs).1, (h.fin hg2 hB cs).2, hii, hlt, hsz, hr⟩
theorem ErS.call {L : List Wd} {B gr i i' : Nat} {d d' : Int} {e a e' a' g2 : Nat} {w wr w' : World} (h : ErS L B gr i d e a g2 w wr) (hne : g2 ≠ gr) (hf : Fr (fun k => k = gr) wr w') (hq : RqW L B gr i' d' e' a' w') : ErS L B gr i' d' e' a' g2 w w' :=
 ⟨h.z.fr hf hne, hq, h.fr.trans hf (fun _ _ h => h)⟩
/-- An item with signs behind it, while they are taken. -/
structure ItJ (L : List Wd) (B gr : Nat) (d i0 : Nat) (r : Rs Pt) (g2 g6 : Nat) (w : World) (p : Pt) (cs : Array Value) (i e a : Nat) (wr : World) : Prop where
 st : SufS L r p i e a
 s : ErS L B gr i d e a g2 w wr
 x : hrow wr g6 cs 122
 pts : PvW wr (fun k => B ≤ k ∧ k ≠ g2 ∧ k ≠ g6) p cs
 lt : i < L.length
 ii : i0 ≤ i
 sz : p.sz ≤ 2 * (i - i0) + 1
 g : g2 < g6
section
variable {L : List Wd} {B gr d i0 : Nat} {r : Rs Pt} {g2 g6 : Nat} {w : World} {p : Pt} {cs : Array Value} {i e a : Nat} {wr w' : World}
theorem ItJ.below (h : ItJ L B gr d i0 r g2 g6 w p cs i e a wr) (hb : Below wr.heap.size wr w') : ItJ L B gr d i0 r g2 g6 w p cs i e a w' :=
 ⟨h.st, h.s.below hb, h.x.below hb, h.pts.below hb, h.lt, h.ii, h.sz, h.g⟩
theorem ItJ.next {v v2 : World} (h : ItJ L B gr d i0 r g2 g6 w p cs i 0 a v) (hw2 : w.heap.size = g2) (hB2 : B ≤ g2) (hgB : gr < B) (hlt : i + 1 < L.length) (hh : (hereW L i [42] || (hereW L i [43] || hereW L i [63])) = true)
  (hb : Below v.heap.size v v2) (gk : Nat) (hk : hrow v2 gk cs 122) (hgk : v.heap.size ≤ gk) (cn : Array Value) (hcn : cn = ptC (sufK L i) [] [] 0 (wdAt L i).at_ [] (some ⟨gk, 0, none⟩) 1 1) :
  ItJ L B gr d i0 r g2 g6 w (ovr (sufK L i) (wdAt L i).at_ p) cn (i + 1) 0 0 ((v2.setRow g6 cn).setCell ⟨gr, 1, none⟩ (.int .i64 ((i : Int) + 1))) := by
 have ha : a = 0 := by
  rcases h.st with h | h
  ·exact h.2.1
  ·exact absurd rfl h.1
 subst ha
 have hz := h.s.z.lt; have hx := h.x.lt; have hg := h.g
 have hf := Fr.setRow v2 g6 cn
 have h3 : hrow (v2.setRow g6 cn) g6 cn 122 := setRow_heap _ _ _ _ _ _ (h.x.below hb)
 have hq3 : RqW L B gr i d 0 0 (v2.setRow g6 cn) := (h.s.q.below hb).fr hf (fun k e => by omega)
 obtain ⟨hq4, hf4⟩ := hq3.set (i' := i + 1) (d' := d) (e' := 0) (a' := 0) 1 (.int .i64 ((i : Int) + 1)) (fun y => by simp)
 refine ⟨h.st.more h.lt hh, ⟨((h.s.z.below hb).fr hf (fun e => by omega)).fr hf4 (fun e => by omega), hq4, ?_⟩, h3.fr hf4 (fun e => by omega), ?_, hlt, by have := h.ii; omega, ?_, hg⟩
 ·refine ((h.s.below hb).fr.trans hf (fun k hk e => by omega)).trans hf4 (fun _ _ h => h)
 ·have hpo := pv_over (sufK L i) (wdAt L i).at_ h.pts (fun _ h => h) gk _ hk hb ⟨by omega, by omega, by omega⟩
  rw [← hcn] at hpo
  exact PvW.fr hf4 (fun k hk e => by have := hk.1; have e' : k = gr := e; omega) (fun _ h => h) _ _ (PvW.fr hf (fun k hk e => hk.2.2 e) (fun _ h => h) _ _ hpo)
 ·have := h.sz; have := h.ii
  have e1 : (ovr (sufK L i) (wdAt L i).at_ p).sz = 1 + p.sz := by show 1 + szL [p] = _; simp [szL]
  omega
end
theorem qitem_step (L : List Wd) (hW : WsOk L) (hL : L.length ≤ 50000) (gr f : Nat) (hI : PqC L gr 92 .item f) (hP : PqC L gr 111 .prim f) : PqC L gr 92 .item (f + 1) := by
 intro B i d w r hr h hi hd
 have HIt := Lib.hid hI; have HPr := Lib.hid hP; have HD := Lib.hid hd; have HWs := Lib.hid hW; have HLL := Lib.hid hL; have HI := Lib.hid hi
 have hbw := h.le
 have hgB := h.lt
 have hbl := (Below.refl w.heap.size w).alloc (Nat.le_refl _) (.cells pt0C 122)
 obtain ⟨w0, hw0⟩ : ∃ x, w.alloc (.cells pt0C 122) = x := ⟨_, rfl⟩
 obtain ⟨g2, hg2⟩ : ∃ g, w.heap.size = g := ⟨_, rfl⟩
 have HJ0 : Hid (ErS L B gr i d 0 0 g2 w w0) := by rw [← hw0]; exact ⟨by rw [← hg2]; exact hrow.new w _ _, h.below hbl, Fr.of_below (F := fun k => k = gr) hbl⟩
 have HW0 := Lib.hid hw0; have HG2 := Lib.hid hg2; have HBW : Hid (B ≤ g2) := by unfold Hid; omega
 have HGB := Lib.hid hgB
 have HCS := Lib.hid (item_cases hr)
 obtain ⟨ao, cap, p, hrw, rfl, hc, hna⟩ := HJ0.out.q.at hi
 have hiI : (i : Int) < L.length := by omega
 have hLI : (i : Int) + 1 ≤ 50000 := by omega
 obtain ⟨x, hx⟩ : ∃ x, wdAt L i = x := ⟨_, rfl⟩
 have HX := Lib.hid hx
 rw [hx] at hc
 unfold wdD wdA at hc
 have c0 : w0.cell? ⟨gr, 0, none⟩ = some (.slice (some p) L.length cap) := hrw.cell 0
 have c1 : w0.cell? ⟨gr, 1, none⟩ = some (.int .i64 i) := hrw.cell 1
 have n1 : w0.cell? ⟨(p.add (i * 9)).block, (p.add (i * 9)).off + 1, none⟩ = some (.int .i64 x.at_) := by
  have := hc 1 _ rfl
  rwa [add_off _ _ _ (by decide)] at this
 clear hr h hi hd hI hP hW hL hbw hgB hbl hw0 hg2 hrw hc hna hx
 unfold ptr
 go_enter Tryz.func92, Tryz.ntmps92
 go_upto_region 1 with (fail)
 unfold pt0C at HW0
 rw [HW0.out, HG2.out]
 refine wp_region_quiet_lit (by kernel_rfl) (by kernel_rfl) ?_
 repeat (go_big_quiet_step (fail))
 refine wpQuiet_nil ?_
 intro _ hw'
 obtain ⟨nq, hw''⟩ := hw'
 subst hw''
 have HJ1 := Lib.hid (HJ0.out.below (below_drewN (Below.refl _ _) nq))
 clear HJ0 c0 c1 n1 HW0
 generalize w0.drewN nq = w1 at HJ1 ⊢
 obtain ⟨b1, hb1⟩ : ∃ b, hereW L i [33] = b := ⟨_, rfl⟩
 have G1 := Lib.hid (qhere_any L B gr i d 0 0 w1 HJ1.out.q HI.out [33])
 rw [hb1] at G1
 have HBB1 := Lib.hid hb1
 unfold ptr at G1
 clear hb1
 go_wp2_with fail
 refine G1.out.mono ?_
 rintro rr w2 ⟨rfl, hb⟩
 have HJ2 := Lib.hid (HJ1.out.below hb)
 clear hb G1 HJ1
 cases b1 with
 | true =>
  have hcs : ∃ r', prs L f .item [] (i + 1) d = some r' ∧ (∀ q j, r' = .ok q j → r = .ok (ovr 11 x.at_ q) j) ∧ (∀ y z, r' = .err y z → r = .err y z) := by
   rcases HCS.out with ⟨K, r', h1, h2, h3, h4⟩ | ⟨h1, h2, -⟩
   ·have hK : K = 11 := by exact h1.elim (fun h => h.2) (fun h => absurd (HBB1.out.symm.trans h.1) (by decide))
    subst hK
    rw [HX.out] at h3
    exact ⟨r', h2, h3, h4⟩
   ·exact absurd (HBB1.out.symm.trans h1) (by decide)
  obtain ⟨r1, hr1, hok, herr⟩ := hcs
  have hlt1 : i + 1 < L.length := HWs.out.after HI.out HBB1.out
  have c1 : w2.cell? ⟨gr, 1, none⟩ = some (.int .i64 i) := by obtain ⟨x1, x2, h1, _, _⟩ := HJ2.out.q.row; exact h1.cell 1
  have f1 : w2.frozen? ⟨gr, 1, none⟩ = false := by obtain ⟨x1, x2, h1, _, _⟩ := HJ2.out.q.row; exact h1.frozen 1
  obtain ⟨hqs, hfs⟩ := HJ2.out.q.set (i' := i + 1) (d' := d) (e' := 0) (a' := 0) 1 (.int .i64 ((i : Int) + 1)) (fun y => by simp)
  have HNE : Hid (g2 ≠ gr) := by have := HBW.out; have := HGB.out; unfold Hid; omega
  have HJ4 := Lib.hid (HJ2.out.call HNE.out hfs hqs)
  have HOK := Lib.hid hok; have HER := Lib.hid herr; have HLT1 := Lib.hid hlt1; have HR1 := Lib.hid hr1
  clear hqs hfs hok herr hlt1 hr1 HJ2
  go_upto_region 4 with (fail)
  generalize w2.setCell ⟨gr, 1, none⟩ (.int .i64 ((i : Int) + 1)) = w4 at HJ4 ⊢
  clear c1 f1
  have hg1 : gr < w4.heap.size := by have := HJ4.out.q.lt; have := HJ4.out.q.le; omega
  have HAc := Lib.hid (HIt.out w4.heap.size (i + 1) d w4 r1 HR1.out (HJ4.out.q.base hg1 (Nat.le_refl _)) HLT1.out HD.out)
  unfold ptr PqP at HAc
  clear hg1
  go_wp2_with fail
  refine HAc.out.mono ?_
  rintro rr w5 ⟨q, cs, i6, e6, a6, rfl, hpv, hrq, hfr, hi1, hi2, hsz, hm⟩
  obtain ⟨kq, cl, tq, lv, aq, nm, ks⟩ := q
  have hpv0 := hpv
  unfold PvW at hpv
  obtain ⟨ko, kc, vs0, rfl, -⟩ := hpv
  unfold ptC at hpv0 ⊢
  have HJ5 := Lib.hid (HJ4.out.call HNE.out hfr (hrq.base HJ4.out.q.lt (Nat.le_trans HJ4.out.q.le hfr.size)))
  have HS4 : Hid (g2 < w4.heap.size) := HJ4.out.z.lt
  have HSZ : Hid ((ovr 11 x.at_ (Pt.mk kq cl tq lv aq nm ks)).sz ≤ 2 * (i6 - i) + 1) := by
   have e1 : (ovr 11 x.at_ (Pt.mk kq cl tq lv aq nm ks)).sz = 1 + (Pt.mk kq cl tq lv aq nm ks).sz := by show 1 + szL [_] = _; simp [szL]
   unfold Hid; omega
  have HII : Hid (i ≤ i6) := by unfold Hid; omega
  have HLT := Lib.hid hi2
  have HM : Hid (match (generalizing := false) r with | .ok q j => ovr 11 x.at_ (Pt.mk kq cl tq lv aq nm ks) = q ∧ i6 = j ∧ e6 = 0 ∧ a6 = 0 | .err x y => e6 = x ∧ a6 = y ∧ x ≠ 0) := by
   cases r1 with
   | ok p j => obtain ⟨h1, h2, h3, h4⟩ := hm; rw [HOK.out _ _ rfl]; exact ⟨by rw [h1], h2, h3, h4⟩
   | err y z => obtain ⟨h1, h2, h3⟩ := hm; rw [HER.out _ _ rfl]; exact ⟨h1, h2, h3⟩
  have HPV := Lib.hid hpv0
  have HS5 : Hid (w4.heap.size ≤ w5.heap.size) := hfr.size
  clear hpv0 hrq hfr hi1 hi2 hsz hm HAc HJ4
  have HB5 := Lib.hid ((Below.refl w5.heap.size w5).alloc (Nat.le_refl _) (.cells #[.int .i64 kq, .int .u64 (clsW cl 0), .int .u64 (clsW cl 1), .int .u64 (clsW cl 2), .int .u64 (clsW cl 3), .string (tx tq), .int .i64 0, .int .i64 lv, .slice none 0 0, .int .i64 aq, .string (tx nm), .slice ko ks.length kc] 122))
  have HR4 := Lib.hid (hrow.new w5 #[.int .i64 kq, .int .u64 (clsW cl 0), .int .u64 (clsW cl 1), .int .u64 (clsW cl 2), .int .u64 (clsW cl 3), .string (tx tq), .int .i64 0, .int .i64 lv, .slice none 0 0, .int .i64 aq, .string (tx nm), .slice ko ks.length kc] 122)
  have HS6 : Hid ((w5.alloc (.cells #[.int .i64 kq, .int .u64 (clsW cl 0), .int .u64 (clsW cl 1), .int .u64 (clsW cl 2), .int .u64 (clsW cl 3), .string (tx tq), .int .i64 0, .int .i64 lv, .slice none 0 0, .int .i64 aq, .string (tx nm), .slice ko ks.length kc] 122)).heap.size = w5.heap.size + 1) := World.size_alloc _ _
  go_upto_region 5 with (fail)
  generalize w5.alloc (.cells #[.int .i64 kq, .int .u64 (clsW cl 0), .int .u64 (clsW cl 1), .int .u64 (clsW cl 2), .int .u64 (clsW cl 3), .string (tx tq), .int .i64 0, .int .i64 lv, .slice none 0 0, .int .i64 aq, .string (tx nm), .slice ko ks.length kc] 122) = w6 at HB5 HR4 HS6 ⊢
  have HJ7 := Lib.hid (HJ5.out.below (HB5.out.alloc HB5.out.size (.cells #[.int .i64 kq, .int .u64 (clsW cl 0), .int .u64 (clsW cl 1), .int .u64 (clsW cl 2), .int .u64 (clsW cl 3), .string (tx tq), .int .i64 0, .int .i64 lv, .slice none 0 0, .int .i64 aq, .string (tx nm), .slice ko ks.length kc] 122)))
  have HR7 := Lib.hid (hrow.new w6 #[.int .i64 kq, .int .u64 (clsW cl 0), .int .u64 (clsW cl 1), .int .u64 (clsW cl 2), .int .u64 (clsW cl 3), .string (tx tq), .int .i64 0, .int .i64 lv, .slice none 0 0, .int .i64 aq, .string (tx nm), .slice ko ks.length kc] 122)
  have HPW : Hid (PvW (w6.alloc (.cells #[.int .i64 kq, .int .u64 (clsW cl 0), .int .u64 (clsW cl 1), .int .u64 (clsW cl 2), .int .u64 (clsW cl 3), .string (tx tq), .int .i64 0, .int .i64 lv, .slice none 0 0, .int .i64 aq, .string (tx nm), .slice ko ks.length kc] 122)) (fun k => B ≤ k ∧ k ≠ g2) (ovr 11 x.at_ (Pt.mk kq cl tq lv aq nm ks)) #[.int .i64 11, .int .u64 0, .int .u64 0, .int .u64 0, .int .u64 0, .string ⟨#[]⟩, .int .i64 0, .int .i64 0, .slice none 0 0, .int .i64 x.at_, .string ⟨#[]⟩, .slice (some ⟨w6.heap.size, 0, none⟩) 1 1]) :=
   pv_over (H := fun k => B ≤ k ∧ k ≠ g2) 11 x.at_ HPV.out (fun k hk => by have := HS4.out; have := HBW.out; omega) w6.heap.size _ HR7.out (HB5.out.alloc HB5.out.size (.cells #[.int .i64 kq, .int .u64 (clsW cl 0), .int .u64 (clsW cl 1), .int .u64 (clsW cl 2), .int .u64 (clsW cl 3), .string (tx tq), .int .i64 0, .int .i64 lv, .slice none 0 0, .int .i64 aq, .string (tx nm), .slice ko ks.length kc] 122)) (by have := HS4.out; have := HBW.out; have := HS6.out; have := HS5.out; omega)
  have HONE : Hid ((#[.int .i64 11, .int .u64 0, .int .u64 0, .int .u64 0, .int .u64 0, .string ⟨#[]⟩, .int .i64 0, .int .i64 0, .slice none 0 0, .int .i64 x.at_, .string ⟨#[]⟩, .slice (some ⟨w6.heap.size, 0, none⟩) 1 1] : Array Value).all (·.oneCell') = true) := by unfold Hid; simp [Value.oneCell']
  clear HJ5 HPV
  go_wp2_with (first | (refine load_partQ rfl (.tmp 4) rfl w5.heap.size rfl #[.int .i64 kq, .int .u64 (clsW cl 0), .int .u64 (clsW cl 1), .int .u64 (clsW cl 2), .int .u64 (clsW cl 3), .string (tx tq), .int .i64 0, .int .i64 lv, .slice none 0 0, .int .i64 aq, .string (tx nm), .slice ko ks.length kc] HR4.out rfl ?_) | (refine store_partQ rfl (.tmp 2) (.tmp 35) rfl g2 #[.int .i64 11, .int .u64 0, .int .u64 0, .int .u64 0, .int .u64 0, .string ⟨#[]⟩, .int .i64 0, .int .i64 0, .slice none 0 0, .int .i64 x.at_, .string ⟨#[]⟩, .slice (some ⟨w6.heap.size, 0, none⟩) 1 1] pt0C rfl rfl HJ7.out.z rfl rfl HONE.out ?_))
  refine bodyPost_ret (results_partQ rfl _ _ g2 _ _ rfl HJ7.out.z rfl) rfl ?_
  exact HJ7.out.part HG2.out HBW.out HPW.out HII.out HLT.out HSZ.out HM.out
 | false =>
 obtain ⟨b2, hb2⟩ : ∃ b, hereW L i [38] = b := ⟨_, rfl⟩
 have G2 := Lib.hid (qhere_any L B gr i d 0 0 w2 HJ2.out.q HI.out [38])
 rw [hb2] at G2
 have HBB2 := Lib.hid hb2
 unfold ptr at G2
 clear hb2
 go_wp2_with fail
 refine G2.out.mono ?_
 rintro rr w3 ⟨rfl, hb⟩
 have HJ3 := Lib.hid (HJ2.out.below hb)
 clear hb G2 HJ2
 cases b2 with
 | true =>
  have hcs : ∃ r', prs L f .item [] (i + 1) d = some r' ∧ (∀ q j, r' = .ok q j → r = .ok (ovr 12 x.at_ q) j) ∧ (∀ y z, r' = .err y z → r = .err y z) := by
   rcases HCS.out with ⟨K, r', h1, h2, h3, h4⟩ | ⟨h1, h2, -⟩
   ·have hK : K = 12 := by exact h1.elim (fun h => absurd (HBB1.out.symm.trans h.1) (by decide)) (fun h => h.2.2)
    subst hK
    rw [HX.out] at h3
    exact ⟨r', h2, h3, h4⟩
   ·exact absurd (HBB2.out.symm.trans h2) (by decide)
  obtain ⟨r1, hr1, hok, herr⟩ := hcs
  have hlt1 : i + 1 < L.length := HWs.out.after HI.out HBB2.out
  have c1 : w3.cell? ⟨gr, 1, none⟩ = some (.int .i64 i) := by obtain ⟨x1, x2, h1, _, _⟩ := HJ3.out.q.row; exact h1.cell 1
  have f1 : w3.frozen? ⟨gr, 1, none⟩ = false := by obtain ⟨x1, x2, h1, _, _⟩ := HJ3.out.q.row; exact h1.frozen 1
  obtain ⟨hqs, hfs⟩ := HJ3.out.q.set (i' := i + 1) (d' := d) (e' := 0) (a' := 0) 1 (.int .i64 ((i : Int) + 1)) (fun y => by simp)
  have HNE : Hid (g2 ≠ gr) := by have := HBW.out; have := HGB.out; unfold Hid; omega
  have HJ4 := Lib.hid (HJ3.out.call HNE.out hfs hqs)
  have HOK := Lib.hid hok; have HER := Lib.hid herr; have HLT1 := Lib.hid hlt1; have HR1 := Lib.hid hr1
  clear hqs hfs hok herr hlt1 hr1 HJ3
  go_upto_region 8 with (fail)
  generalize w3.setCell ⟨gr, 1, none⟩ (.int .i64 ((i : Int) + 1)) = w4 at HJ4 ⊢
  clear c1 f1
  have hg1 : gr < w4.heap.size := by have := HJ4.out.q.lt; have := HJ4.out.q.le; omega
  have HAc := Lib.hid (HIt.out w4.heap.size (i + 1) d w4 r1 HR1.out (HJ4.out.q.base hg1 (Nat.le_refl _)) HLT1.out HD.out)
  unfold ptr PqP at HAc
  clear hg1
  go_wp2_with fail
  refine HAc.out.mono ?_
  rintro rr w5 ⟨q, cs, i6, e6, a6, rfl, hpv, hrq, hfr, hi1, hi2, hsz, hm⟩
  obtain ⟨kq, cl, tq, lv, aq, nm, ks⟩ := q
  have hpv0 := hpv
  unfold PvW at hpv
  obtain ⟨ko, kc, vs0, rfl, -⟩ := hpv
  unfold ptC at hpv0 ⊢
  have HJ5 := Lib.hid (HJ4.out.call HNE.out hfr (hrq.base HJ4.out.q.lt (Nat.le_trans HJ4.out.q.le hfr.size)))
  have HS4 : Hid (g2 < w4.heap.size) := HJ4.out.z.lt
  have HSZ : Hid ((ovr 12 x.at_ (Pt.mk kq cl tq lv aq nm ks)).sz ≤ 2 * (i6 - i) + 1) := by
   have e1 : (ovr 12 x.at_ (Pt.mk kq cl tq lv aq nm ks)).sz = 1 + (Pt.mk kq cl tq lv aq nm ks).sz := by show 1 + szL [_] = _; simp [szL]
   unfold Hid; omega
  have HII : Hid (i ≤ i6) := by unfold Hid; omega
  have HLT := Lib.hid hi2
  have HM : Hid (match (generalizing := false) r with | .ok q j => ovr 12 x.at_ (Pt.mk kq cl tq lv aq nm ks) = q ∧ i6 = j ∧ e6 = 0 ∧ a6 = 0 | .err x y => e6 = x ∧ a6 = y ∧ x ≠ 0) := by
   cases r1 with
   | ok p j => obtain ⟨h1, h2, h3, h4⟩ := hm; rw [HOK.out _ _ rfl]; exact ⟨by rw [h1], h2, h3, h4⟩
   | err y z => obtain ⟨h1, h2, h3⟩ := hm; rw [HER.out _ _ rfl]; exact ⟨h1, h2, h3⟩
  have HPV := Lib.hid hpv0
  have HS5 : Hid (w4.heap.size ≤ w5.heap.size) := hfr.size
  clear hpv0 hrq hfr hi1 hi2 hsz hm HAc HJ4
  have HB5 := Lib.hid ((Below.refl w5.heap.size w5).alloc (Nat.le_refl _) (.cells #[.int .i64 kq, .int .u64 (clsW cl 0), .int .u64 (clsW cl 1), .int .u64 (clsW cl 2), .int .u64 (clsW cl 3), .string (tx tq), .int .i64 0, .int .i64 lv, .slice none 0 0, .int .i64 aq, .string (tx nm), .slice ko ks.length kc] 122))
  have HR4 := Lib.hid (hrow.new w5 #[.int .i64 kq, .int .u64 (clsW cl 0), .int .u64 (clsW cl 1), .int .u64 (clsW cl 2), .int .u64 (clsW cl 3), .string (tx tq), .int .i64 0, .int .i64 lv, .slice none 0 0, .int .i64 aq, .string (tx nm), .slice ko ks.length kc] 122)
  have HS6 : Hid ((w5.alloc (.cells #[.int .i64 kq, .int .u64 (clsW cl 0), .int .u64 (clsW cl 1), .int .u64 (clsW cl 2), .int .u64 (clsW cl 3), .string (tx tq), .int .i64 0, .int .i64 lv, .slice none 0 0, .int .i64 aq, .string (tx nm), .slice ko ks.length kc] 122)).heap.size = w5.heap.size + 1) := World.size_alloc _ _
  go_upto_region 9 with (fail)
  generalize w5.alloc (.cells #[.int .i64 kq, .int .u64 (clsW cl 0), .int .u64 (clsW cl 1), .int .u64 (clsW cl 2), .int .u64 (clsW cl 3), .string (tx tq), .int .i64 0, .int .i64 lv, .slice none 0 0, .int .i64 aq, .string (tx nm), .slice ko ks.length kc] 122) = w6 at HB5 HR4 HS6 ⊢
  have HJ7 := Lib.hid (HJ5.out.below (HB5.out.alloc HB5.out.size (.cells #[.int .i64 kq, .int .u64 (clsW cl 0), .int .u64 (clsW cl 1), .int .u64 (clsW cl 2), .int .u64 (clsW cl 3), .string (tx tq), .int .i64 0, .int .i64 lv, .slice none 0 0, .int .i64 aq, .string (tx nm), .slice ko ks.length kc] 122)))
  have HR7 := Lib.hid (hrow.new w6 #[.int .i64 kq, .int .u64 (clsW cl 0), .int .u64 (clsW cl 1), .int .u64 (clsW cl 2), .int .u64 (clsW cl 3), .string (tx tq), .int .i64 0, .int .i64 lv, .slice none 0 0, .int .i64 aq, .string (tx nm), .slice ko ks.length kc] 122)
  have HPW : Hid (PvW (w6.alloc (.cells #[.int .i64 kq, .int .u64 (clsW cl 0), .int .u64 (clsW cl 1), .int .u64 (clsW cl 2), .int .u64 (clsW cl 3), .string (tx tq), .int .i64 0, .int .i64 lv, .slice none 0 0, .int .i64 aq, .string (tx nm), .slice ko ks.length kc] 122)) (fun k => B ≤ k ∧ k ≠ g2) (ovr 12 x.at_ (Pt.mk kq cl tq lv aq nm ks)) #[.int .i64 12, .int .u64 0, .int .u64 0, .int .u64 0, .int .u64 0, .string ⟨#[]⟩, .int .i64 0, .int .i64 0, .slice none 0 0, .int .i64 x.at_, .string ⟨#[]⟩, .slice (some ⟨w6.heap.size, 0, none⟩) 1 1]) :=
   pv_over (H := fun k => B ≤ k ∧ k ≠ g2) 12 x.at_ HPV.out (fun k hk => by have := HS4.out; have := HBW.out; omega) w6.heap.size _ HR7.out (HB5.out.alloc HB5.out.size (.cells #[.int .i64 kq, .int .u64 (clsW cl 0), .int .u64 (clsW cl 1), .int .u64 (clsW cl 2), .int .u64 (clsW cl 3), .string (tx tq), .int .i64 0, .int .i64 lv, .slice none 0 0, .int .i64 aq, .string (tx nm), .slice ko ks.length kc] 122)) (by have := HS4.out; have := HBW.out; have := HS6.out; have := HS5.out; omega)
  have HONE : Hid ((#[.int .i64 12, .int .u64 0, .int .u64 0, .int .u64 0, .int .u64 0, .string ⟨#[]⟩, .int .i64 0, .int .i64 0, .slice none 0 0, .int .i64 x.at_, .string ⟨#[]⟩, .slice (some ⟨w6.heap.size, 0, none⟩) 1 1] : Array Value).all (·.oneCell') = true) := by unfold Hid; simp [Value.oneCell']
  clear HJ5 HPV
  go_wp2_with (first | (refine load_partQ rfl (.tmp 5) rfl w5.heap.size rfl #[.int .i64 kq, .int .u64 (clsW cl 0), .int .u64 (clsW cl 1), .int .u64 (clsW cl 2), .int .u64 (clsW cl 3), .string (tx tq), .int .i64 0, .int .i64 lv, .slice none 0 0, .int .i64 aq, .string (tx nm), .slice ko ks.length kc] HR4.out rfl ?_) | (refine store_partQ rfl (.tmp 2) (.tmp 51) rfl g2 #[.int .i64 12, .int .u64 0, .int .u64 0, .int .u64 0, .int .u64 0, .string ⟨#[]⟩, .int .i64 0, .int .i64 0, .slice none 0 0, .int .i64 x.at_, .string ⟨#[]⟩, .slice (some ⟨w6.heap.size, 0, none⟩) 1 1] pt0C rfl rfl HJ7.out.z rfl rfl HONE.out ?_))
  refine bodyPost_ret (results_partQ rfl _ _ g2 _ _ rfl HJ7.out.z rfl) rfl ?_
  exact HJ7.out.part HG2.out HBW.out HPW.out HII.out HLT.out HSZ.out HM.out
 | false =>
  have hcs : ∃ r', prs L f .prim [] i d = some r' ∧ (∀ q j, r' = .ok q j → SufS L r q j 0 0) ∧ (∀ (q : Pt) (j y z : Nat), r' = .err y z → y ≠ 0 → SufS L r q j y z) := by
   rcases HCS.out with ⟨K, r', h1, -⟩ | ⟨-, -, h⟩
   ·rcases h1 with h1 | h1
    ·exact absurd (HBB1.out.symm.trans h1.1) (by decide)
    ·exact absurd (HBB2.out.symm.trans h1.2.1) (by decide)
   ·exact h
  obtain ⟨r1, hr1, hok, herr⟩ := hcs
  have hg1 : gr < w3.heap.size := by have := HJ3.out.q.lt; have := HJ3.out.q.le; omega
  have HNE : Hid (g2 ≠ gr) := by have := HBW.out; have := HGB.out; unfold Hid; omega
  have HAc := Lib.hid (HPr.out w3.heap.size i d w3 r1 hr1 (HJ3.out.q.base hg1 (Nat.le_refl _)) HI.out HD.out)
  have HOK := Lib.hid hok; have HER := Lib.hid herr
  unfold ptr PqP at HAc
  clear hg1 hok herr hr1
  go_wp2_with fail
  refine HAc.out.mono ?_
  rintro rr w5 ⟨q, cs, i6, e6, a6, rfl, hpv, hrq, hfr, hi1, hi2, hsz, hm⟩
  have hs3 := HJ3.out.z.lt
  obtain ⟨kq, cl, tq, lv, aq, nm, ks⟩ := q
  have hpv0 := hpv
  unfold PvW at hpv
  obtain ⟨ko, kc, vs0, rfl, -⟩ := hpv
  unfold ptC at hpv0 ⊢
  have hst : SufS L r (Pt.mk kq cl tq lv aq nm ks) i6 e6 a6 := by
   cases r1 with
   | ok p j => obtain ⟨h1, h2, h3, h4⟩ := hm; subst h2 h3 h4; exact HOK.out _ _ (by rw [h1])
   | err x y => obtain ⟨h1, h2, h3⟩ := hm; subst h1 h2; exact HER.out _ _ _ _ rfl h3
  have hs5 := hfr.size
  have hbl := (Below.refl w5.heap.size w5).alloc (Nat.le_refl _) (.cells #[.int .i64 kq, .int .u64 (clsW cl 0), .int .u64 (clsW cl 1), .int .u64 (clsW cl 2), .int .u64 (clsW cl 3), .string (tx tq), .int .i64 0, .int .i64 lv, .slice none 0 0, .int .i64 aq, .string (tx nm), .slice ko ks.length kc] 122)
  have HIJ : Hid (ItJ L B gr d i r g2 w5.heap.size w (Pt.mk kq cl tq lv aq nm ks) #[.int .i64 kq, .int .u64 (clsW cl 0), .int .u64 (clsW cl 1), .int .u64 (clsW cl 2), .int .u64 (clsW cl 3), .string (tx tq), .int .i64 0, .int .i64 lv, .slice none 0 0, .int .i64 aq, .string (tx nm), .slice ko ks.length kc] i6 e6 a6 (w5.alloc (.cells #[.int .i64 kq, .int .u64 (clsW cl 0), .int .u64 (clsW cl 1), .int .u64 (clsW cl 2), .int .u64 (clsW cl 3), .string (tx tq), .int .i64 0, .int .i64 lv, .slice none 0 0, .int .i64 aq, .string (tx nm), .slice ko ks.length kc] 122))) := by
   refine ⟨hst, (HJ3.out.call HNE.out hfr (hrq.base HJ3.out.q.lt (Nat.le_trans HJ3.out.q.le hs5))).below hbl, hrow.new w5 _ _, ?_, hi2, hi1, hsz, by omega⟩
   exact (PvW.fr (H := fun k => B ≤ k ∧ k ≠ g2 ∧ k ≠ w5.heap.size) (Fr.refl (fun _ => False) _) (fun _ _ e => e) (fun k hk => by have := hk.1; have := hk.2; have := HBW.out; omega) _ _ (PvW.bound _ _ hpv0)).below hbl
  clear hpv0 hrq hfr hi1 hi2 hsz hm HAc HJ3 hst hbl hs3 hs5
  go_upto_region 11 with (fail)
  generalize w5.alloc (.cells #[.int .i64 kq, .int .u64 (clsW cl 0), .int .u64 (clsW cl 1), .int .u64 (clsW cl 2), .int .u64 (clsW cl 3), .string (tx tq), .int .i64 0, .int .i64 lv, .slice none 0 0, .int .i64 aq, .string (tx nm), .slice ko ks.length kc] 122) = w6 at HIJ ⊢
  generalize w5.heap.size = g6 at HIJ ⊢
  go_loopw [7, 8] (fun _ _ wr => ∃ (p : Pt) (cs : Array Value) (i' e' a' : Nat), Hid (ItJ L B gr d i r g2 g6 w p cs i' e' a' wr)) (fun _ _ wr => L.length - posOf wr gr)
  case atStart => exact ⟨_, _, _, _, _, HIJ.out⟩
  case round =>
   clear HIJ
   obtain ⟨p1, cs1, i1, e1, a1, HJ⟩ := hrel
   have HHe := Lib.hid (fun t v (hv : Below wr.heap.size wr v) => qhere_any L B gr i1 d e1 a1 v (HJ.out.below hv).s.q HJ.out.lt t)
   obtain ⟨b1, hb1⟩ : ∃ b, (decide (e1 = 0) && hereW L i1 [42]) = b := ⟨_, rfl⟩
   obtain ⟨b2, hb2⟩ : ∃ b, (decide (e1 = 0) && hereW L i1 [43]) = b := ⟨_, rfl⟩
   obtain ⟨b3, hb3⟩ : ∃ b, (decide (e1 = 0) && hereW L i1 [63]) = b := ⟨_, rfl⟩
   have G1 := Lib.hid (HHe.out [42]); have G2 := Lib.hid (HHe.out [43]); have G3 := Lib.hid (HHe.out [63])
   rw [hb1] at G1
   rw [hb2] at G2
   rw [hb3] at G3
   have HB1 := Lib.hid hb1; have HB2 := Lib.hid hb2; have HB3 := Lib.hid hb3
   unfold ptr at G1 G2 G3
   clear HHe hb1 hb2 hb3
   have H0 : Hid (Below wr.heap.size wr wr) := Below.refl _ _
   cases b1 with
   | true =>
    have hp1 := HB1.out
    simp only [Bool.and_eq_true, decide_eq_true_eq] at hp1
    have hb2f : b2 = false := by rw [← HB2.out, here_one hp1.2 (t := [43]) (by decide), Bool.and_false]
    have hb3f : b3 = false := by rw [← HB3.out, here_one hp1.2 (t := [63]) (by decide), Bool.and_false]
    subst hb2f hb3f
    clear hp1
    have hpos : posOf wr gr = i1 := HJ.out.s.q.pos
    go_wp2_with fail
    refine (G1.out _ H0.out).mono ?_
    rintro rr v1 ⟨rfl, hb⟩
    have H1 := Lib.hid (H0.out.trans (hb.mono H0.out.size))
    clear hb
    go_wp2_with fail
    refine (G2.out _ H1.out).mono ?_
    rintro rr v2 ⟨rfl, hb⟩
    have H2 := Lib.hid (H1.out.trans (hb.mono H1.out.size))
    clear hb
    go_wp2_with fail
    refine (G3.out _ H2.out).mono ?_
    rintro rr v3 ⟨rfl, hb⟩
    have H3 := Lib.hid (H2.out.trans (hb.mono H2.out.size))
    clear hb
    have HJ1 := Lib.hid (HJ.out.below H3.out)
    clear HJ
    have he1 : e1 = 0 := by have := HB1.out; simp only [Bool.and_eq_true, decide_eq_true_eq] at this; exact this.1
    have hbx : hereW L i1 [42] = true := by have := HB1.out; simp only [Bool.and_eq_true, decide_eq_true_eq] at this; exact this.2
    subst he1
    have ha1 : a1 = 0 := HJ1.out.st.elim (fun h => h.2.1) (fun h => absurd rfl h.1)
    subst ha1
    have HK : Hid (sufK L i1 = 8) := by
     unfold Hid sufK
     rw [here_one hbx (t := [63]) (by decide), here_one hbx (t := [43]) (by decide)]; rfl
    have HHH : Hid ((hereW L i1 [42] || (hereW L i1 [43] || hereW L i1 [63])) = true) := by unfold Hid; rw [hbx]; simp
    have HLT1 := Lib.hid (HWs.out.after HJ1.out.lt hbx)
    have HPO : Hid (posOf wr gr = i1) := hpos
    have hp1 := HJ1.out.pts
    obtain ⟨kq, cl, tq, lv, aq, nm, ks⟩ := p1
    have hp2 := hp1
    unfold PvW at hp2
    obtain ⟨ko, kc, vs0, rfl, -⟩ := hp2
    unfold ptC at HJ1
    clear hp1 hbx hpos G1 G2 G3
    -- the inner part, taken
    go_upto_region 18 with (refine load_partQ rfl (.tmp 6) rfl g6 rfl #[.int .i64 kq, .int .u64 (clsW cl 0), .int .u64 (clsW cl 1), .int .u64 (clsW cl 2), .int .u64 (clsW cl 3), .string (tx tq), .int .i64 0, .int .i64 lv, .slice none 0 0, .int .i64 aq, .string (tx nm), .slice ko ks.length kc] HJ1.out.x rfl ?_)
    obtain ⟨vb, hvb⟩ : ∃ y, v3.alloc (.cells #[.int .i64 kq, .int .u64 (clsW cl 0), .int .u64 (clsW cl 1), .int .u64 (clsW cl 2), .int .u64 (clsW cl 3), .string (tx tq), .int .i64 0, .int .i64 lv, .slice none 0 0, .int .i64 aq, .string (tx nm), .slice ko ks.length kc] 122) = y := ⟨_, rfl⟩
    have hbl := (Below.refl v3.heap.size v3).alloc (Nat.le_refl _) (.cells #[.int .i64 kq, .int .u64 (clsW cl 0), .int .u64 (clsW cl 1), .int .u64 (clsW cl 2), .int .u64 (clsW cl 3), .string (tx tq), .int .i64 0, .int .i64 lv, .slice none 0 0, .int .i64 aq, .string (tx nm), .slice ko ks.length kc] 122)
    have HX8 := Lib.hid (hrow.new v3 #[.int .i64 kq, .int .u64 (clsW cl 0), .int .u64 (clsW cl 1), .int .u64 (clsW cl 2), .int .u64 (clsW cl 3), .string (tx tq), .int .i64 0, .int .i64 lv, .slice none 0 0, .int .i64 aq, .string (tx nm), .slice ko ks.length kc] 122)
    rw [hvb] at hbl HX8 ⊢
    have HJ2 := Lib.hid (HJ1.out.below hbl)
    clear hvb hbl HJ1
    generalize v3.heap.size = g8 at HX8 ⊢
    obtain ⟨ao, cap, pw, hrw, rfl, hc, hna⟩ := HJ2.out.s.q.at HJ2.out.lt
    have hiI : (i1 : Int) < L.length := by have := HJ2.out.lt; omega
    have hLI : (i1 : Int) + 1 ≤ 50000 := by have := HJ2.out.lt; have := HLL.out; omega
    obtain ⟨xw, hxw⟩ : ∃ x, wdAt L i1 = x := ⟨_, rfl⟩
    have HXW := Lib.hid hxw
    rw [hxw] at hc
    unfold wdD wdA at hc
    have HC := Lib.hid hc; have HRW := Lib.hid hrw
    clear hc hrw hna hxw
    have c0 : ∀ y : Later vb, y.val.cell? ⟨gr, 0, none⟩ = some (.slice (some pw) L.length cap) := fun y => (HRW.out.below y.ok).cell 0
    have c1 : ∀ y : Later vb, y.val.cell? ⟨gr, 1, none⟩ = some (.int .i64 i1) := fun y => (HRW.out.below y.ok).cell 1
    have n1 : ∀ y : Later vb, y.val.cell? ⟨(pw.add (i1 * 9)).block, (pw.add (i1 * 9)).off + 1, none⟩ = some (.int .i64 xw.at_) := fun y => by
     have := HC.out 1 _ rfl
     rw [add_off _ _ _ (by decide)] at this
     exact (y.ok.cell (World.block_lt_of_cell? vb _ this)).trans this
    have HP8 := Lib.hid (later_all (fun y : Later vb => run_loadVar_row (P := Tryz.prog) y.val g8 _ _ _ _ _ (HX8.out.below y.ok).h Tryz.underlying122 rfl pq_info))
    refine wp_region_noPanic ?_
    refine wp_region_T (fun z => ∃ y : Later vb, z = y.val) [0, 1, 2, 3, 4, 5, 6, 7, 8, 9, 10, 11, 12, 13, 14] 15 2 rfl (by kernel_rfl) ?_
    refine wpAnyT_reads (f := 1) [0, 1, 2, 3, 4, 5, 6, 7, 8, 9, 10, 11, 12, 13] (by kernel_rfl) (by kernel_rfl) ⟨⟨vb.drew, (Below.refl _ _).drew⟩, rfl⟩ (fun _ _ _ _ h => h) ?_
    simp only [pickOps, List.getD_cons_zero, List.getD_cons_succ]
    repeat (first
     | (refine wpRead_load rfl 122 (.tmp 8) rfl ⟨g8, 0, none⟩ rfl _ HP8.out ?_; simp only [Act.put, List.setIfInBounds_toArray, List.set_cons_zero, List.set_cons_succ])
     | (refine wpRead_cons (v := ?_) rfl ?_ ?_; rotate_left; (· (intro z hz; obtain ⟨y, rfl⟩ := hz; have f0 := c0 y; have f1 := c1 y; have f2 := n1 y; go_simp; try with_reducible rfl)); simp only [Act.put, List.setIfInBounds_toArray, List.set_cons_zero, List.set_cons_succ]))
    refine wpRead_nil ?_
    refine wpAnyT_one 14 (by kernel_rfl) (by kernel_rfl) rfl ?_
    simp only [List.getD_cons_zero, List.getD_cons_succ]
    go_wp2_with fail
    refine ⟨⟨⟨_, ((Below.refl vb.heap.size vb).drew).alloc (Nat.le_refl _) _⟩, rfl⟩, ?_⟩
    refine wpAnyT_tail [15, 16] (by kernel_rfl) (by kernel_rfl) (by kernel_rfl) ?_
    simp only [pickOps, List.getD_cons_zero, List.getD_cons_succ]
    have HBV := Lib.hid (((Below.refl vb.heap.size vb).alloc (Nat.le_refl _) (.cells #[.int .i64 kq, .int .u64 (clsW cl 0), .int .u64 (clsW cl 1), .int .u64 (clsW cl 2), .int .u64 (clsW cl 3), .string (tx tq), .int .i64 0, .int .i64 lv, .slice none 0 0, .int .i64 aq, .string (tx nm), .slice ko ks.length kc] 122)).drew)
    have HRV := Lib.hid (show hrow (vb.alloc (.cells #[.int .i64 kq, .int .u64 (clsW cl 0), .int .u64 (clsW cl 1), .int .u64 (clsW cl 2), .int .u64 (clsW cl 3), .string (tx tq), .int .i64 0, .int .i64 lv, .slice none 0 0, .int .i64 aq, .string (tx nm), .slice ko ks.length kc] 122)).drew vb.heap.size #[.int .i64 kq, .int .u64 (clsW cl 0), .int .u64 (clsW cl 1), .int .u64 (clsW cl 2), .int .u64 (clsW cl 3), .string (tx tq), .int .i64 0, .int .i64 lv, .slice none 0 0, .int .i64 aq, .string (tx nm), .slice ko ks.length kc] 122 from hrow.new vb _ _)
    have HXV := Lib.hid (HJ2.out.x.below HBV.out)
    have HONE : Hid ((#[.int .i64 8, .int .u64 0, .int .u64 0, .int .u64 0, .int .u64 0, .string ⟨#[]⟩, .int .i64 0, .int .i64 0, .slice none 0 0, .int .i64 xw.at_, .string ⟨#[]⟩, .slice (some ⟨vb.heap.size, 0, none⟩) 1 1] : Array Value).all (·.oneCell') = true) := by unfold Hid; simp [Value.oneCell']
    go_wp2_with (refine store_partQ rfl (.tmp 6) (.tmp 84) rfl g6 #[.int .i64 8, .int .u64 0, .int .u64 0, .int .u64 0, .int .u64 0, .string ⟨#[]⟩, .int .i64 0, .int .i64 0, .slice none 0 0, .int .i64 xw.at_, .string ⟨#[]⟩, .slice (some ⟨vb.heap.size, 0, none⟩) 1 1] #[.int .i64 kq, .int .u64 (clsW cl 0), .int .u64 (clsW cl 1), .int .u64 (clsW cl 2), .int .u64 (clsW cl 3), .string (tx tq), .int .i64 0, .int .i64 lv, .slice none 0 0, .int .i64 aq, .string (tx nm), .slice ko ks.length kc] rfl rfl HXV.out rfl rfl HONE.out ?_)
    refine noPanic_normal ?_
    have HN := Lib.hid (HJ2.out.next HG2.out HBW.out HGB.out HLT1.out HHH.out HBV.out vb.heap.size HRV.out (Nat.le_refl _) #[.int .i64 8, .int .u64 0, .int .u64 0, .int .u64 0, .int .u64 0, .string ⟨#[]⟩, .int .i64 0, .int .i64 0, .slice none 0 0, .int .i64 xw.at_, .string ⟨#[]⟩, .slice (some ⟨vb.heap.size, 0, none⟩) 1 1] (by rw [HK.out, HXW.out]; rfl))
    have HQ5 : Hid (RqW L B gr i1 d 0 0 (((vb.alloc (.cells #[.int .i64 kq, .int .u64 (clsW cl 0), .int .u64 (clsW cl 1), .int .u64 (clsW cl 2), .int .u64 (clsW cl 3), .string (tx tq), .int .i64 0, .int .i64 lv, .slice none 0 0, .int .i64 aq, .string (tx nm), .slice ko ks.length kc] 122)).drew).setRow g6 #[.int .i64 8, .int .u64 0, .int .u64 0, .int .u64 0, .int .u64 0, .string ⟨#[]⟩, .int .i64 0, .int .i64 0, .slice none 0 0, .int .i64 xw.at_, .string ⟨#[]⟩, .slice (some ⟨vb.heap.size, 0, none⟩) 1 1])) := (HJ2.out.s.q.below HBV.out).fr (Fr.setRow _ _ _) (fun k e => by have := HJ2.out.g; have := HBW.out; omega)
    clear c0 c1 n1 HP8 HC HRW HXV HRV
    generalize ((vb.alloc (.cells #[.int .i64 kq, .int .u64 (clsW cl 0), .int .u64 (clsW cl 1), .int .u64 (clsW cl 2), .int .u64 (clsW cl 3), .string (tx tq), .int .i64 0, .int .i64 lv, .slice none 0 0, .int .i64 aq, .string (tx nm), .slice ko ks.length kc] 122)).drew).setRow g6 #[.int .i64 8, .int .u64 0, .int .u64 0, .int .u64 0, .int .u64 0, .string ⟨#[]⟩, .int .i64 0, .int .i64 0, .slice none 0 0, .int .i64 xw.at_, .string ⟨#[]⟩, .slice (some ⟨vb.heap.size, 0, none⟩) 1 1] = v9 at HN HQ5 ⊢
    have c1 : v9.cell? ⟨gr, 1, none⟩ = some (.int .i64 i1) := by obtain ⟨x1, x2, h1, _, _⟩ := HQ5.out.row; exact h1.cell 1
    have f1 : v9.frozen? ⟨gr, 1, none⟩ = false := by obtain ⟨x1, x2, h1, _, _⟩ := HQ5.out.row; exact h1.frozen 1
    go_wp2_with fail
    go_roundw
    case rel => exact ⟨_, _, _, _, _, HN.out⟩
    case measure => rw [HPO.out, HN.out.s.q.pos]; have := HJ2.out.lt; omega
   | false =>
   cases b2 with
   | true =>
    have hp1 := HB2.out
    simp only [Bool.and_eq_true, decide_eq_true_eq] at hp1
    have hb3f : b3 = false := by rw [← HB3.out, here_one hp1.2 (t := [63]) (by decide), Bool.and_false]
    subst hb3f
    clear hp1
    have hpos : posOf wr gr = i1 := HJ.out.s.q.pos
    go_wp2_with fail
    refine (G1.out _ H0.out).mono ?_
    rintro rr v1 ⟨rfl, hb⟩
    have H1 := Lib.hid (H0.out.trans (hb.mono H0.out.size))
    clear hb
    go_wp2_with fail
    refine (G2.out _ H1.out).mono ?_
    rintro rr v2 ⟨rfl, hb⟩
    have H2 := Lib.hid (H1.out.trans (hb.mono H1.out.size))
    clear hb
    go_wp2_with fail
    refine (G2.out _ H2.out).mono ?_
    rintro rr v3 ⟨rfl, hb⟩
    have H3 := Lib.hid (H2.out.trans (hb.mono H2.out.size))
    clear hb
    go_wp2_with fail
    refine (G3.out _ H3.out).mono ?_
    rintro rr v4 ⟨rfl, hb⟩
    have H4 := Lib.hid (H3.out.trans (hb.mono H3.out.size))
    clear hb
    have HJ1 := Lib.hid (HJ.out.below H4.out)
    clear HJ
    have he1 : e1 = 0 := by have := HB2.out; simp only [Bool.and_eq_true, decide_eq_true_eq] at this; exact this.1
    have hbx : hereW L i1 [43] = true := by have := HB2.out; simp only [Bool.and_eq_true, decide_eq_true_eq] at this; exact this.2
    subst he1
    have ha1 : a1 = 0 := HJ1.out.st.elim (fun h => h.2.1) (fun h => absurd rfl h.1)
    subst ha1
    have HK : Hid (sufK L i1 = 9) := by
     unfold Hid sufK
     rw [here_one hbx (t := [63]) (by decide), hbx]; rfl
    have HHH : Hid ((hereW L i1 [42] || (hereW L i1 [43] || hereW L i1 [63])) = true) := by unfold Hid; rw [hbx]; simp
    have HLT1 := Lib.hid (HWs.out.after HJ1.out.lt hbx)
    have HPO : Hid (posOf wr gr = i1) := hpos
    have hp1 := HJ1.out.pts
    obtain ⟨kq, cl, tq, lv, aq, nm, ks⟩ := p1
    have hp2 := hp1
    unfold PvW at hp2
    obtain ⟨ko, kc, vs0, rfl, -⟩ := hp2
    unfold ptC at HJ1
    clear hp1 hbx hpos G1 G2 G3
    -- the inner part, taken
    go_upto_region 18 with (refine load_partQ rfl (.tmp 6) rfl g6 rfl #[.int .i64 kq, .int .u64 (clsW cl 0), .int .u64 (clsW cl 1), .int .u64 (clsW cl 2), .int .u64 (clsW cl 3), .string (tx tq), .int .i64 0, .int .i64 lv, .slice none 0 0, .int .i64 aq, .string (tx nm), .slice ko ks.length kc] HJ1.out.x rfl ?_)
    obtain ⟨vb, hvb⟩ : ∃ y, v4.alloc (.cells #[.int .i64 kq, .int .u64 (clsW cl 0), .int .u64 (clsW cl 1), .int .u64 (clsW cl 2), .int .u64 (clsW cl 3), .string (tx tq), .int .i64 0, .int .i64 lv, .slice none 0 0, .int .i64 aq, .string (tx nm), .slice ko ks.length kc] 122) = y := ⟨_, rfl⟩
    have hbl := (Below.refl v4.heap.size v4).alloc (Nat.le_refl _) (.cells #[.int .i64 kq, .int .u64 (clsW cl 0), .int .u64 (clsW cl 1), .int .u64 (clsW cl 2), .int .u64 (clsW cl 3), .string (tx tq), .int .i64 0, .int .i64 lv, .slice none 0 0, .int .i64 aq, .string (tx nm), .slice ko ks.length kc] 122)
    have HX8 := Lib.hid (hrow.new v4 #[.int .i64 kq, .int .u64 (clsW cl 0), .int .u64 (clsW cl 1), .int .u64 (clsW cl 2), .int .u64 (clsW cl 3), .string (tx tq), .int .i64 0, .int .i64 lv, .slice none 0 0, .int .i64 aq, .string (tx nm), .slice ko ks.length kc] 122)
    rw [hvb] at hbl HX8 ⊢
    have HJ2 := Lib.hid (HJ1.out.below hbl)
    clear hvb hbl HJ1
    generalize v4.heap.size = g8 at HX8 ⊢
    obtain ⟨ao, cap, pw, hrw, rfl, hc, hna⟩ := HJ2.out.s.q.at HJ2.out.lt
    have hiI : (i1 : Int) < L.length := by have := HJ2.out.lt; omega
    have hLI : (i1 : Int) + 1 ≤ 50000 := by have := HJ2.out.lt; have := HLL.out; omega
    obtain ⟨xw, hxw⟩ : ∃ x, wdAt L i1 = x := ⟨_, rfl⟩
    have HXW := Lib.hid hxw
    rw [hxw] at hc
    unfold wdD wdA at hc
    have HC := Lib.hid hc; have HRW := Lib.hid hrw
    clear hc hrw hna hxw
    have c0 : ∀ y : Later vb, y.val.cell? ⟨gr, 0, none⟩ = some (.slice (some pw) L.length cap) := fun y => (HRW.out.below y.ok).cell 0
    have c1 : ∀ y : Later vb, y.val.cell? ⟨gr, 1, none⟩ = some (.int .i64 i1) := fun y => (HRW.out.below y.ok).cell 1
    have n1 : ∀ y : Later vb, y.val.cell? ⟨(pw.add (i1 * 9)).block, (pw.add (i1 * 9)).off + 1, none⟩ = some (.int .i64 xw.at_) := fun y => by
     have := HC.out 1 _ rfl
     rw [add_off _ _ _ (by decide)] at this
     exact (y.ok.cell (World.block_lt_of_cell? vb _ this)).trans this
    have HP8 := Lib.hid (later_all (fun y : Later vb => run_loadVar_row (P := Tryz.prog) y.val g8 _ _ _ _ _ (HX8.out.below y.ok).h Tryz.underlying122 rfl pq_info))
    refine wp_region_noPanic ?_
    refine wp_region_T (fun z => ∃ y : Later vb, z = y.val) [0, 1, 2, 3, 4, 5, 6, 7, 8, 9, 10, 11, 12, 13, 14] 15 2 rfl (by kernel_rfl) ?_
    refine wpAnyT_reads (f := 1) [0, 1, 2, 3, 4, 5, 6, 7, 8, 9, 10, 11, 12, 13] (by kernel_rfl) (by kernel_rfl) ⟨⟨vb.drew, (Below.refl _ _).drew⟩, rfl⟩ (fun _ _ _ _ h => h) ?_
    simp only [pickOps, List.getD_cons_zero, List.getD_cons_succ]
    repeat (first
     | (refine wpRead_load rfl 122 (.tmp 8) rfl ⟨g8, 0, none⟩ rfl _ HP8.out ?_; simp only [Act.put, List.setIfInBounds_toArray, List.set_cons_zero, List.set_cons_succ])
     | (refine wpRead_cons (v := ?_) rfl ?_ ?_; rotate_left; (· (intro z hz; obtain ⟨y, rfl⟩ := hz; have f0 := c0 y; have f1 := c1 y; have f2 := n1 y; go_simp; try with_reducible rfl)); simp only [Act.put, List.setIfInBounds_toArray, List.set_cons_zero, List.set_cons_succ]))
    refine wpRead_nil ?_
    refine wpAnyT_one 14 (by kernel_rfl) (by kernel_rfl) rfl ?_
    simp only [List.getD_cons_zero, List.getD_cons_succ]
    go_wp2_with fail
    refine ⟨⟨⟨_, ((Below.refl vb.heap.size vb).drew).alloc (Nat.le_refl _) _⟩, rfl⟩, ?_⟩
    refine wpAnyT_tail [15, 16] (by kernel_rfl) (by kernel_rfl) (by kernel_rfl) ?_
    simp only [pickOps, List.getD_cons_zero, List.getD_cons_succ]
    have HBV := Lib.hid (((Below.refl vb.heap.size vb).alloc (Nat.le_refl _) (.cells #[.int .i64 kq, .int .u64 (clsW cl 0), .int .u64 (clsW cl 1), .int .u64 (clsW cl 2), .int .u64 (clsW cl 3), .string (tx tq), .int .i64 0, .int .i64 lv, .slice none 0 0, .int .i64 aq, .string (tx nm), .slice ko ks.length kc] 122)).drew)
    have HRV := Lib.hid (show hrow (vb.alloc (.cells #[.int .i64 kq, .int .u64 (clsW cl 0), .int .u64 (clsW cl 1), .int .u64 (clsW cl 2), .int .u64 (clsW cl 3), .string (tx tq), .int .i64 0, .int .i64 lv, .slice none 0 0, .int .i64 aq, .string (tx nm), .slice ko ks.length kc] 122)).drew vb.heap.size #[.int .i64 kq, .int .u64 (clsW cl 0), .int .u64 (clsW cl 1), .int .u64 (clsW cl 2), .int .u64 (clsW cl 3), .string (tx tq), .int .i64 0, .int .i64 lv, .slice none 0 0, .int .i64 aq, .string (tx nm), .slice ko ks.length kc] 122 from hrow.new vb _ _)
    have HXV := Lib.hid (HJ2.out.x.below HBV.out)
    have HONE : Hid ((#[.int .i64 9, .int .u64 0, .int .u64 0, .int .u64 0, .int .u64 0, .string ⟨#[]⟩, .int .i64 0, .int .i64 0, .slice none 0 0, .int .i64 xw.at_, .string ⟨#[]⟩, .slice (some ⟨vb.heap.size, 0, none⟩) 1 1] : Array Value).all (·.oneCell') = true) := by unfold Hid; simp [Value.oneCell']
    go_wp2_with (refine store_partQ rfl (.tmp 6) (.tmp 84) rfl g6 #[.int .i64 9, .int .u64 0, .int .u64 0, .int .u64 0, .int .u64 0, .string ⟨#[]⟩, .int .i64 0, .int .i64 0, .slice none 0 0, .int .i64 xw.at_, .string ⟨#[]⟩, .slice (some ⟨vb.heap.size, 0, none⟩) 1 1] #[.int .i64 kq, .int .u64 (clsW cl 0), .int .u64 (clsW cl 1), .int .u64 (clsW cl 2), .int .u64 (clsW cl 3), .string (tx tq), .int .i64 0, .int .i64 lv, .slice none 0 0, .int .i64 aq, .string (tx nm), .slice ko ks.length kc] rfl rfl HXV.out rfl rfl HONE.out ?_)
    refine noPanic_normal ?_
    have HN := Lib.hid (HJ2.out.next HG2.out HBW.out HGB.out HLT1.out HHH.out HBV.out vb.heap.size HRV.out (Nat.le_refl _) #[.int .i64 9, .int .u64 0, .int .u64 0, .int .u64 0, .int .u64 0, .string ⟨#[]⟩, .int .i64 0, .int .i64 0, .slice none 0 0, .int .i64 xw.at_, .string ⟨#[]⟩, .slice (some ⟨vb.heap.size, 0, none⟩) 1 1] (by rw [HK.out, HXW.out]; rfl))
    have HQ5 : Hid (RqW L B gr i1 d 0 0 (((vb.alloc (.cells #[.int .i64 kq, .int .u64 (clsW cl 0), .int .u64 (clsW cl 1), .int .u64 (clsW cl 2), .int .u64 (clsW cl 3), .string (tx tq), .int .i64 0, .int .i64 lv, .slice none 0 0, .int .i64 aq, .string (tx nm), .slice ko ks.length kc] 122)).drew).setRow g6 #[.int .i64 9, .int .u64 0, .int .u64 0, .int .u64 0, .int .u64 0, .string ⟨#[]⟩, .int .i64 0, .int .i64 0, .slice none 0 0, .int .i64 xw.at_, .string ⟨#[]⟩, .slice (some ⟨vb.heap.size, 0, none⟩) 1 1])) := (HJ2.out.s.q.below HBV.out).fr (Fr.setRow _ _ _) (fun k e => by have := HJ2.out.g; have := HBW.out; omega)
    clear c0 c1 n1 HP8 HC HRW HXV HRV
    generalize ((vb.alloc (.cells #[.int .i64 kq, .int .u64 (clsW cl 0), .int .u64 (clsW cl 1), .int .u64 (clsW cl 2), .int .u64 (clsW cl 3), .string (tx tq), .int .i64 0, .int .i64 lv, .slice none 0 0, .int .i64 aq, .string (tx nm), .slice ko ks.length kc] 122)).drew).setRow g6 #[.int .i64 9, .int .u64 0, .int .u64 0, .int .u64 0, .int .u64 0, .string ⟨#[]⟩, .int .i64 0, .int .i64 0, .slice none 0 0, .int .i64 xw.at_, .string ⟨#[]⟩, .slice (some ⟨vb.heap.size, 0, none⟩) 1 1] = v9 at HN HQ5 ⊢
    have c1 : v9.cell? ⟨gr, 1, none⟩ = some (.int .i64 i1) := by obtain ⟨x1, x2, h1, _, _⟩ := HQ5.out.row; exact h1.cell 1
    have f1 : v9.frozen? ⟨gr, 1, none⟩ = false := by obtain ⟨x1, x2, h1, _, _⟩ := HQ5.out.row; exact h1.frozen 1
    go_wp2_with fail
    go_roundw
    case rel => exact ⟨_, _, _, _, _, HN.out⟩
    case measure => rw [HPO.out, HN.out.s.q.pos]; have := HJ2.out.lt; omega
   | false =>
   cases b3 with
   | true =>
    have hpos : posOf wr gr = i1 := HJ.out.s.q.pos
    go_wp2_with fail
    refine (G1.out _ H0.out).mono ?_
    rintro rr v1 ⟨rfl, hb⟩
    have H1 := Lib.hid (H0.out.trans (hb.mono H0.out.size))
    clear hb
    go_wp2_with fail
    refine (G2.out _ H1.out).mono ?_
    rintro rr v2 ⟨rfl, hb⟩
    have H2 := Lib.hid (H1.out.trans (hb.mono H1.out.size))
    clear hb
    go_wp2_with fail
    refine (G3.out _ H2.out).mono ?_
    rintro rr v3 ⟨rfl, hb⟩
    have H3 := Lib.hid (H2.out.trans (hb.mono H2.out.size))
    clear hb
    go_wp2_with fail
    refine (G2.out _ H3.out).mono ?_
    rintro rr v4 ⟨rfl, hb⟩
    have H4 := Lib.hid (H3.out.trans (hb.mono H3.out.size))
    clear hb
    go_wp2_with fail
    refine (G3.out _ H4.out).mono ?_
    rintro rr v5 ⟨rfl, hb⟩
    have H5 := Lib.hid (H4.out.trans (hb.mono H4.out.size))
    clear hb
    have HJ1 := Lib.hid (HJ.out.below H5.out)
    clear HJ
    have he1 : e1 = 0 := by have := HB3.out; simp only [Bool.and_eq_true, decide_eq_true_eq] at this; exact this.1
    have hbx : hereW L i1 [63] = true := by have := HB3.out; simp only [Bool.and_eq_true, decide_eq_true_eq] at this; exact this.2
    subst he1
    have ha1 : a1 = 0 := HJ1.out.st.elim (fun h => h.2.1) (fun h => absurd rfl h.1)
    subst ha1
    have HK : Hid (sufK L i1 = 10) := by
     unfold Hid sufK
     rw [hbx]; rfl
    have HHH : Hid ((hereW L i1 [42] || (hereW L i1 [43] || hereW L i1 [63])) = true) := by unfold Hid; rw [hbx]; simp
    have HLT1 := Lib.hid (HWs.out.after HJ1.out.lt hbx)
    have HPO : Hid (posOf wr gr = i1) := hpos
    have hp1 := HJ1.out.pts
    obtain ⟨kq, cl, tq, lv, aq, nm, ks⟩ := p1
    have hp2 := hp1
    unfold PvW at hp2
    obtain ⟨ko, kc, vs0, rfl, -⟩ := hp2
    unfold ptC at HJ1
    clear hp1 hbx hpos G1 G2 G3
    -- the inner part, taken
    go_upto_region 18 with (refine load_partQ rfl (.tmp 6) rfl g6 rfl #[.int .i64 kq, .int .u64 (clsW cl 0), .int .u64 (clsW cl 1), .int .u64 (clsW cl 2), .int .u64 (clsW cl 3), .string (tx tq), .int .i64 0, .int .i64 lv, .slice none 0 0, .int .i64 aq, .string (tx nm), .slice ko ks.length kc] HJ1.out.x rfl ?_)
    obtain ⟨vb, hvb⟩ : ∃ y, v5.alloc (.cells #[.int .i64 kq, .int .u64 (clsW cl 0), .int .u64 (clsW cl 1), .int .u64 (clsW cl 2), .int .u64 (clsW cl 3), .string (tx tq), .int .i64 0, .int .i64 lv, .slice none 0 0, .int .i64 aq, .string (tx nm), .slice ko ks.length kc] 122) = y := ⟨_, rfl⟩
    have hbl := (Below.refl v5.heap.size v5).alloc (Nat.le_refl _) (.cells #[.int .i64 kq, .int .u64 (clsW cl 0), .int .u64 (clsW cl 1), .int .u64 (clsW cl 2), .int .u64 (clsW cl 3), .string (tx tq), .int .i64 0, .int .i64 lv, .slice none 0 0, .int .i64 aq, .string (tx nm), .slice ko ks.length kc] 122)
    have HX8 := Lib.hid (hrow.new v5 #[.int .i64 kq, .int .u64 (clsW cl 0), .int .u64 (clsW cl 1), .int .u64 (clsW cl 2), .int .u64 (clsW cl 3), .string (tx tq), .int .i64 0, .int .i64 lv, .slice none 0 0, .int .i64 aq, .string (tx nm), .slice ko ks.length kc] 122)
    rw [hvb] at hbl HX8 ⊢
    have HJ2 := Lib.hid (HJ1.out.below hbl)
    clear hvb hbl HJ1
    generalize v5.heap.size = g8 at HX8 ⊢
    obtain ⟨ao, cap, pw, hrw, rfl, hc, hna⟩ := HJ2.out.s.q.at HJ2.out.lt
    have hiI : (i1 : Int) < L.length := by have := HJ2.out.lt; omega
    have hLI : (i1 : Int) + 1 ≤ 50000 := by have := HJ2.out.lt; have := HLL.out; omega
    obtain ⟨xw, hxw⟩ : ∃ x, wdAt L i1 = x := ⟨_, rfl⟩
    have HXW := Lib.hid hxw
    rw [hxw] at hc
    unfold wdD wdA at hc
    have HC := Lib.hid hc; have HRW := Lib.hid hrw
    clear hc hrw hna hxw
    have c0 : ∀ y : Later vb, y.val.cell? ⟨gr, 0, none⟩ = some (.slice (some pw) L.length cap) := fun y => (HRW.out.below y.ok).cell 0
    have c1 : ∀ y : Later vb, y.val.cell? ⟨gr, 1, none⟩ = some (.int .i64 i1) := fun y => (HRW.out.below y.ok).cell 1
    have n1 : ∀ y : Later vb, y.val.cell? ⟨(pw.add (i1 * 9)).block, (pw.add (i1 * 9)).off + 1, none⟩ = some (.int .i64 xw.at_) := fun y => by
     have := HC.out 1 _ rfl
     rw [add_off _ _ _ (by decide)] at this
     exact (y.ok.cell (World.block_lt_of_cell? vb _ this)).trans this
    have HP8 := Lib.hid (later_all (fun y : Later vb => run_loadVar_row (P := Tryz.prog) y.val g8 _ _ _ _ _ (HX8.out.below y.ok).h Tryz.underlying122 rfl pq_info))
    refine wp_region_noPanic ?_
    refine wp_region_T (fun z => ∃ y : Later vb, z = y.val) [0, 1, 2, 3, 4, 5, 6, 7, 8, 9, 10, 11, 12, 13, 14] 15 2 rfl (by kernel_rfl) ?_
    refine wpAnyT_reads (f := 1) [0, 1, 2, 3, 4, 5, 6, 7, 8, 9, 10, 11, 12, 13] (by kernel_rfl) (by kernel_rfl) ⟨⟨vb.drew, (Below.refl _ _).drew⟩, rfl⟩ (fun _ _ _ _ h => h) ?_
    simp only [pickOps, List.getD_cons_zero, List.getD_cons_succ]
    repeat (first
     | (refine wpRead_load rfl 122 (.tmp 8) rfl ⟨g8, 0, none⟩ rfl _ HP8.out ?_; simp only [Act.put, List.setIfInBounds_toArray, List.set_cons_zero, List.set_cons_succ])
     | (refine wpRead_cons (v := ?_) rfl ?_ ?_; rotate_left; (· (intro z hz; obtain ⟨y, rfl⟩ := hz; have f0 := c0 y; have f1 := c1 y; have f2 := n1 y; go_simp; try with_reducible rfl)); simp only [Act.put, List.setIfInBounds_toArray, List.set_cons_zero, List.set_cons_succ]))
    refine wpRead_nil ?_
    refine wpAnyT_one 14 (by kernel_rfl) (by kernel_rfl) rfl ?_
    simp only [List.getD_cons_zero, List.getD_cons_succ]
    go_wp2_with fail
    refine ⟨⟨⟨_, ((Below.refl vb.heap.size vb).drew).alloc (Nat.le_refl _) _⟩, rfl⟩, ?_⟩
    refine wpAnyT_tail [15, 16] (by kernel_rfl) (by kernel_rfl) (by kernel_rfl) ?_
    simp only [pickOps, List.getD_cons_zero, List.getD_cons_succ]
    have HBV := Lib.hid (((Below.refl vb.heap.size vb).alloc (Nat.le_refl _) (.cells #[.int .i64 kq, .int .u64 (clsW cl 0), .int .u64 (clsW cl 1), .int .u64 (clsW cl 2), .int .u64 (clsW cl 3), .string (tx tq), .int .i64 0, .int .i64 lv, .slice none 0 0, .int .i64 aq, .string (tx nm), .slice ko ks.length kc] 122)).drew)
    have HRV := Lib.hid (show hrow (vb.alloc (.cells #[.int .i64 kq, .int .u64 (clsW cl 0), .int .u64 (clsW cl 1), .int .u64 (clsW cl 2), .int .u64 (clsW cl 3), .string (tx tq), .int .i64 0, .int .i64 lv, .slice none 0 0, .int .i64 aq, .string (tx nm), .slice ko ks.length kc] 122)).drew vb.heap.size #[.int .i64 kq, .int .u64 (clsW cl 0), .int .u64 (clsW cl 1), .int .u64 (clsW cl 2), .int .u64 (clsW cl 3), .string (tx tq), .int .i64 0, .int .i64 lv, .slice none 0 0, .int .i64 aq, .string (tx nm), .slice ko ks.length kc] 122 from hrow.new vb _ _)
    have HXV := Lib.hid (HJ2.out.x.below HBV.out)
    have HONE : Hid ((#[.int .i64 10, .int .u64 0, .int .u64 0, .int .u64 0, .int .u64 0, .string ⟨#[]⟩, .int .i64 0, .int .i64 0, .slice none 0 0, .int .i64 xw.at_, .string ⟨#[]⟩, .slice (some ⟨vb.heap.size, 0, none⟩) 1 1] : Array Value).all (·.oneCell') = true) := by unfold Hid; simp [Value.oneCell']
    go_wp2_with (refine store_partQ rfl (.tmp 6) (.tmp 84) rfl g6 #[.int .i64 10, .int .u64 0, .int .u64 0, .int .u64 0, .int .u64 0, .string ⟨#[]⟩, .int .i64 0, .int .i64 0, .slice none 0 0, .int .i64 xw.at_, .string ⟨#[]⟩, .slice (some ⟨vb.heap.size, 0, none⟩) 1 1] #[.int .i64 kq, .int .u64 (clsW cl 0), .int .u64 (clsW cl 1), .int .u64 (clsW cl 2), .int .u64 (clsW cl 3), .string (tx tq), .int .i64 0, .int .i64 lv, .slice none 0 0, .int .i64 aq, .string (tx nm), .slice ko ks.length kc] rfl rfl HXV.out rfl rfl HONE.out ?_)
    refine noPanic_normal ?_
    have HN := Lib.hid (HJ2.out.next HG2.out HBW.out HGB.out HLT1.out HHH.out HBV.out vb.heap.size HRV.out (Nat.le_refl _) #[.int .i64 10, .int .u64 0, .int .u64 0, .int .u64 0, .int .u64 0, .string ⟨#[]⟩, .int .i64 0, .int .i64 0, .slice none 0 0, .int .i64 xw.at_, .string ⟨#[]⟩, .slice (some ⟨vb.heap.size, 0, none⟩) 1 1] (by rw [HK.out, HXW.out]; rfl))
    have HQ5 : Hid (RqW L B gr i1 d 0 0 (((vb.alloc (.cells #[.int .i64 kq, .int .u64 (clsW cl 0), .int .u64 (clsW cl 1), .int .u64 (clsW cl 2), .int .u64 (clsW cl 3), .string (tx tq), .int .i64 0, .int .i64 lv, .slice none 0 0, .int .i64 aq, .string (tx nm), .slice ko ks.length kc] 122)).drew).setRow g6 #[.int .i64 10, .int .u64 0, .int .u64 0, .int .u64 0, .int .u64 0, .string ⟨#[]⟩, .int .i64 0, .int .i64 0, .slice none 0 0, .int .i64 xw.at_, .string ⟨#[]⟩, .slice (some ⟨vb.heap.size, 0, none⟩) 1 1])) := (HJ2.out.s.q.below HBV.out).fr (Fr.setRow _ _ _) (fun k e => by have := HJ2.out.g; have := HBW.out; omega)
    clear c0 c1 n1 HP8 HC HRW HXV HRV
    generalize ((vb.alloc (.cells #[.int .i64 kq, .int .u64 (clsW cl 0), .int .u64 (clsW cl 1), .int .u64 (clsW cl 2), .int .u64 (clsW cl 3), .string (tx tq), .int .i64 0, .int .i64 lv, .slice none 0 0, .int .i64 aq, .string (tx nm), .slice ko ks.length kc] 122)).drew).setRow g6 #[.int .i64 10, .int .u64 0, .int .u64 0, .int .u64 0, .int .u64 0, .string ⟨#[]⟩, .int .i64 0, .int .i64 0, .slice none 0 0, .int .i64 xw.at_, .string ⟨#[]⟩, .slice (some ⟨vb.heap.size, 0, none⟩) 1 1] = v9 at HN HQ5 ⊢
    have c1 : v9.cell? ⟨gr, 1, none⟩ = some (.int .i64 i1) := by obtain ⟨x1, x2, h1, _, _⟩ := HQ5.out.row; exact h1.cell 1
    have f1 : v9.frozen? ⟨gr, 1, none⟩ = false := by obtain ⟨x1, x2, h1, _, _⟩ := HQ5.out.row; exact h1.frozen 1
    go_wp2_with fail
    go_roundw
    case rel => exact ⟨_, _, _, _, _, HN.out⟩
    case measure => rw [HPO.out, HN.out.s.q.pos]; have := HJ2.out.lt; omega
   | false =>
    go_wp2_with fail
    refine (G1.out _ H0.out).mono ?_
    rintro rr v1 ⟨rfl, hb⟩
    have H1 := Lib.hid (H0.out.trans (hb.mono H0.out.size))
    clear hb
    go_wp2_with fail
    refine (G2.out _ H1.out).mono ?_
    rintro rr v2 ⟨rfl, hb⟩
    have H2 := Lib.hid (H1.out.trans (hb.mono H1.out.size))
    clear hb
    go_wp2_with fail
    refine (G3.out _ H2.out).mono ?_
    rintro rr v3 ⟨rfl, hb⟩
    have H3 := Lib.hid (H2.out.trans (hb.mono H2.out.size))
    clear hb
    have HJ1 := Lib.hid (HJ.out.below H3.out)
    clear HJ
    have hdn := HJ1.out.st.done (fun he => by
     have h1 := HB1.out; have h2 := HB2.out; have h3 := HB3.out
     subst he
     simp only [decide_true, Bool.true_and] at h1 h2 h3
     rw [h1, h2, h3]; rfl)
    have HM := Lib.hid hdn
    have hp1 := HJ1.out.pts
    obtain ⟨kq, cl, tq, lv, aq, nm, ks⟩ := p1
    have hp2 := hp1
    unfold PvW at hp2
    obtain ⟨ko, kc, vs0, rfl, -⟩ := hp2
    unfold ptC at HJ1
    clear hp1 hdn G1 G2 G3
    have HONE : Hid ((#[.int .i64 kq, .int .u64 (clsW cl 0), .int .u64 (clsW cl 1), .int .u64 (clsW cl 2), .int .u64 (clsW cl 3), .string (tx tq), .int .i64 0, .int .i64 lv, .slice none 0 0, .int .i64 aq, .string (tx nm), .slice ko ks.length kc] : Array Value).all (·.oneCell') = true) := by unfold Hid; simp [Value.oneCell']
    go_wp2_with (first | (refine load_partQ rfl (.tmp 6) rfl g6 rfl #[.int .i64 kq, .int .u64 (clsW cl 0), .int .u64 (clsW cl 1), .int .u64 (clsW cl 2), .int .u64 (clsW cl 3), .string (tx tq), .int .i64 0, .int .i64 lv, .slice none 0 0, .int .i64 aq, .string (tx nm), .slice ko ks.length kc] HJ1.out.x rfl ?_) | (refine store_partQ rfl (.tmp 2) (.tmp 92) rfl g2 #[.int .i64 kq, .int .u64 (clsW cl 0), .int .u64 (clsW cl 1), .int .u64 (clsW cl 2), .int .u64 (clsW cl 3), .string (tx tq), .int .i64 0, .int .i64 lv, .slice none 0 0, .int .i64 aq, .string (tx nm), .slice ko ks.length kc] pt0C rfl rfl HJ1.out.s.z rfl rfl HONE.out ?_))
    refine bodyPost_ret (results_partQ rfl _ _ g2 _ _ rfl HJ1.out.s.z rfl) rfl ?_
    exact HJ1.out.s.part HG2.out HBW.out (PvW.fr (H := fun k => B ≤ k ∧ k ≠ g2) (Fr.refl (fun _ => False) _) (fun _ _ e => e) (fun k hk => ⟨hk.1, hk.2.1⟩) _ _ HJ1.out.pts) HJ1.out.ii HJ1.out.lt HJ1.out.sz HM.out
end Go.Proofs.YthfefbmkgebmkaaGreatDoor
