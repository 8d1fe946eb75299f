/- Walks: words: the function that is ranged over. -/
import Derived.Test.YtnfkcdnkmcifbaaDoorVb
namespace Go.Proofs.YtnfkcdnkmcifbaaDoor
open Go.RowKit Go.Shelf
attribute [local go_sem] Oper.semAt_some
set_option maxRecDepth 100000
set_option maxHeartbeats 1000000

theorem cell_lt {W : World} {k o : Nat} {v : Value} (h : W.cell? ⟨k, o, none⟩ = some v) : k < W.heap.size := by
 obtain ⟨cs, t, fr, hh⟩ := cell_cells h
 exact (Array.getElem?_eq_some_iff.1 hh).1
theorem BoxOk.below {b n₀ : Nat} {W W' : World} (h : BoxOk b n₀ W) (hb : Below W.heap.size W W') : BoxOk b n₀ W' := by
 obtain ⟨ao, n, c, h1, h2⟩ := h
 exact ⟨ao, n, c, (hb.cell (p := ⟨b, 0, none⟩) (cell_lt h1)).trans h1, fun a ha => ⟨(h2 a ha).1, Nat.lt_of_lt_of_le (h2 a ha).2 hb.size⟩⟩
def enW (x : Wd × Bool) : Array Value := #[.agg (wdD x.1), .bool x.2]
theorem grown_of {W W' : World} (h : Below W.heap.size W W') : W.grownBy W' none := ⟨h.os, h.tape, h.output, h.size, fun k hk _ => h.block k hk⟩
theorem each1_stops (s : ByteArray) (hs : s.size ≤ 1000000) (b B n₀ n : Nat) (H : Nat → Prop) (hH : H B) (w : World) (hc : w.cell? ⟨B, 0, none⟩ = some (.string s)) (hn : n₀ ≤ w.heap.size) (hb : BoxOk b n₀ w) (hn1 : 1 ≤ n) (hBn : B < n₀) :
  SeqStopsK Fence.wide n Tryd.prog 20 #[.pointer (some ⟨B, 0, none⟩)] enW (KpW b n₀ H) (fun xs => xs = yieldsOf s.data.toList) (fun pre => pre <+: yieldsOf s.data.toList) (yieldsOf s.data.toList).length w := fun l J Jx W hW hJ hJx hY h0 => by
 have HC := Lib.hid hc
 have HS := Lib.hid hs
 have HJ := Lib.hid hJ; have HJx := Lib.hid hJx; have HY := Lib.hid hY; have H0 := Lib.hid h0; have HW := Lib.hid hW; have HN := Lib.hid hn; have HBx := Lib.hid hb
 clear hc hs hJ hJx hY h0 hW hn hb
 refine callsIn_of_wp Tryd.func20 rfl trivial ?_ rfl
 simp only [Tryd.ntmps20, List.size_toArray, List.length_cons, List.length_nil, Nat.reduceAdd, Nat.reduceSub, Array.replicate_succ, Array.replicate_zero, List.push_toArray, List.append_toArray, List.nil_append, List.cons_append]
 gi_wp2
 gi_loopw [3] (fun p wr => ∃ (k f : Nat) (pre : List (Wd × Bool)), p = .int .i64 k ∧ k ≤ s.size ∧ Hid (s.size < f + k ∧ yieldsOf s.data.toList = pre ++ yieldsF s.data.toList f k ∧ J pre wr ∧ BoxOk b n₀ wr ∧ W.heap.size ≤ wr.heap.size) ∧ Hid (wr.cell? ⟨B, 0, none⟩ = some (.string s)))
  (fun p _ => s.size + 1 - (intOf p).toNat)
 case atStart =>
  have hWc : W.cell? ⟨B, 0, none⟩ = some (.string s) := (HW.out.cell (p := ⟨B, 0, none⟩) (cell_lt HC.out)).trans HC.out
  exact ⟨0, s.size + 1, [], by go_num, Nat.zero_le _, ⟨by omega, by rw [← ba_len]; rfl, H0.out, HBx.out.below HW.out, Nat.le_refl _⟩, hWc⟩
 case round =>
  obtain ⟨k, f, pre, rfl, hk, HI, HCr⟩ := hrel
  have hcr := HCr.out
  have HNx := Lib.hid (fun x => next_any s k x HS.out hk)
  cases hq : nextW s.data.toList k with
  | none =>
   rw [hq] at HNx
   unfold nxV wd0 wdA at HNx
   have HSk := Lib.hid (fun x => skip_in s k x HS.out hk)
   have HK := Lib.hid hk; clear hk
   have HQ := Lib.hid hq; clear hq
   gi_wp2
   refine ⟨trivial, (callsIn_wide.2 (HNx.out _)).mono ?_⟩
   rintro e x ⟨rfl, hb⟩
   have HB1 := Lib.hid hb
   have hbA := hb.alloc hb.size (.cells #[.int .i64 0, .int .i64 0, .int .i64 0, .string ⟨#[]⟩, .int .i64 0, .int .u64 0, .int .u64 0, .int .u64 0, .int .u64 0] 33)
   have hcA : (x.alloc (.cells #[.int .i64 0, .int .i64 0, .int .i64 0, .string ⟨#[]⟩, .int .i64 0, .int .u64 0, .int .u64 0, .int .u64 0, .int .u64 0] 33)).cell? ⟨B, 0, none⟩ = some (.string s) := (hbA.cell (p := ⟨B, 0, none⟩) (cell_lt HCr.out)).trans HCr.out
   have HBA := Lib.hid hbA; clear hb hbA hcr
   gi_wp2
   refine ⟨trivial, (callsIn_wide.2 (HSk.out _)).mono ?_⟩
   rintro e y ⟨rfl, hb2⟩
   have HR := Lib.hid ((hrow.new x _ 33).below hb2)
   have hbY := HBA.out.trans (hb2.mono HBA.out.size)
   have hgx : wr.heap.size ≤ x.heap.size := HB1.out.size
   have HYB := Lib.hid hbY
   clear hcA hb2 hbY HBA HB1
   generalize x.heap.size = g4 at *
   obtain ⟨_, w1, _⟩ := HR.out.c9
   obtain ⟨_, f1, _⟩ := HR.out.f9
   have HR2 := Lib.hid (HR.out.setCell 1 (.int .i64 ((k : Int) + (skp false (s.data.toList.drop k) : Nat))))
   have HB2 := Lib.hid (HYB.out.setCell (p := ⟨g4, 1, none⟩) hgx (.int .i64 ((k : Int) + (skp false (s.data.toList.drop k) : Nat))))
   generalize hz : y.setCell ⟨g4, 1, none⟩ (.int .i64 ((k : Int) + (skp false (s.data.toList.drop k) : Nat))) = z at HR2 HB2
   have HZ := Lib.hid hz
   obtain ⟨c0, c1, c2, c3, c4, c5, c6, c7, c8⟩ := HR2.out.c9
   have hcz : z.cell? ⟨B, 0, none⟩ = some (.string s) := (HB2.out.cell (p := ⟨B, 0, none⟩) (cell_lt HCr.out)).trans HCr.out
   have HYS : Hid (yieldsOf s.data.toList = pre ++ [(badW (k + skp false (s.data.toList.drop k)), false)]) := by
    unfold Hid
    rw [HI.out.2.1, yields_none (by rw [ba_len]; exact HI.out.1) (by rw [ba_len]; exact HK.out) HQ.out]
   obtain ⟨fn, tmps, assign, body, hy, hR⟩ := HY.out pre (badW (k + skp false (s.data.toList.drop k)), false) z (HJ.out pre wr z none HI.out.2.2.1 (grown_of HB2.out) (by simp)) (by rw [HYS.out]; simp)
   have hy2 : (Instr.yield l #[.agg #[.int .i64 0, .int .i64 ((k : Int) + (skp false (s.data.toList.drop k) : Nat)), .int .i64 0, .string ⟨#[]⟩, .int .i64 0, .int .u64 0, .int .u64 0, .int .u64 0, .int .u64 0], .bool false]).run Tryd.prog z = .ok (.round l fn tmps assign body) z := hy
   have HRo := Lib.hid hR
   clear hR hy
   clear HSk HNx HYB
   gi_wp2
   refine HRo.out.mono ?_
   rintro e W' (⟨rfl, hJ', hk⟩ | ⟨rfl, hJx'⟩)
   ·clear hk
    have HJ' := Lib.hid hJ'; clear hJ'
    gi_wp2
    refine bodyPost_ret (results_none rfl _ _ _) rfl ?_
    exact ⟨⟨_, rfl⟩, .inl ⟨_, HYS.out.symm, HJ'.out⟩⟩
   ·have HJ' := Lib.hid hJx'; clear hJx'
    gi_wp2
    refine bodyPost_ret (results_none rfl _ _ _) rfl ?_
    exact ⟨⟨_, rfl⟩, .inr ⟨_, ⟨[], by rw [List.append_nil]; exact HYS.out.symm⟩, HJ'.out⟩⟩
  | some d =>
   rw [hq] at HNx
   unfold nxV wdD wdA at HNx
   have HK := Lib.hid hk; clear hk
   have HQ := Lib.hid hq; clear hq
   gi_wp2
   refine ⟨trivial, (callsIn_wide.2 (HNx.out _)).mono ?_⟩
   rintro e x ⟨rfl, hb⟩
   have hgx : wr.heap.size ≤ x.heap.size := hb.size
   have HB2 := Lib.hid (hb.alloc hb.size (.cells #[.int .i64 d.kind, .int .i64 d.at_, .int .i64 d.nx, .string (tx d.tx), .int .i64 d.lv, .int .u64 (clsW d.cl 0), .int .u64 (clsW d.cl 1), .int .u64 (clsW d.cl 2), .int .u64 (clsW d.cl 3)] 33))
   have HR2 := Lib.hid (hrow.new x #[.int .i64 d.kind, .int .i64 d.at_, .int .i64 d.nx, .string (tx d.tx), .int .i64 d.lv, .int .u64 (clsW d.cl 0), .int .u64 (clsW d.cl 1), .int .u64 (clsW d.cl 2), .int .u64 (clsW d.cl 3)] 33)
   clear hb hcr HNx
   generalize hz : x.alloc (.cells #[.int .i64 d.kind, .int .i64 d.at_, .int .i64 d.nx, .string (tx d.tx), .int .i64 d.lv, .int .u64 (clsW d.cl 0), .int .u64 (clsW d.cl 1), .int .u64 (clsW d.cl 2), .int .u64 (clsW d.cl 3)] 33) = z at HR2 HB2
   obtain ⟨c0, c1, c2, c3, c4, c5, c6, c7, c8⟩ := HR2.out.c9
   have hcz : z.cell? ⟨B, 0, none⟩ = some (.string s) := (HB2.out.cell (p := ⟨B, 0, none⟩) (cell_lt HCr.out)).trans HCr.out
   have HYL : Hid (pre.length < (yieldsOf s.data.toList).length ∧ (pre ++ [(d, true)]) <+: yieldsOf s.data.toList) := by
    unfold Hid
    rw [HI.out.2.1]
    have hlt : s.data.toList.length < f + k := by rw [ba_len]; exact HI.out.1
    have hkl : k ≤ s.data.toList.length := by rw [ba_len]; exact HK.out
    by_cases hc : d.kind = 1
    ·rw [yields_end hlt hkl HQ.out hc]; simp
    ·obtain ⟨gf, e, _⟩ := yields_more hlt hkl HQ.out hc
     rw [e]; exact ⟨by simp, ⟨yieldsF s.data.toList gf d.nx, by simp⟩⟩
   obtain ⟨fn, tmps, assign, body, hy, hR⟩ := HY.out pre (d, true) z (HJ.out pre wr z none HI.out.2.2.1 (grown_of HB2.out) (by simp)) HYL.out.1
   have hy2 : (Instr.yield l #[.agg #[.int .i64 d.kind, .int .i64 d.at_, .int .i64 d.nx, .string (tx d.tx), .int .i64 d.lv, .int .u64 (clsW d.cl 0), .int .u64 (clsW d.cl 1), .int .u64 (clsW d.cl 2), .int .u64 (clsW d.cl 3)], .bool true]).run Tryd.prog z = .ok (.round l fn tmps assign body) z := hy
   have HRo := Lib.hid hR
   clear hR hy
   have HBz := Lib.hid (HI.out.2.2.2.1.below HB2.out)
   have HNr : Hid (¬ RowAt b z x.heap.size) := fun ⟨a, q, c, h1, h2⟩ => by
    obtain ⟨ao, q', c', e1, e2⟩ := HI.out.2.2.2.1
    have e3 := (HB2.out.cell (p := ⟨b, 0, none⟩) (cell_lt e1)).trans e1
    rw [h1] at e3
    cases e3
    have := (e2 a rfl).2
    omega
   have HNB : Hid (¬ RowAt b z B) := fun ⟨a, q, c, h1, h2⟩ => by
    obtain ⟨ao, q', c', e1, e2⟩ := HI.out.2.2.2.1
    have e3 := (HB2.out.cell (p := ⟨b, 0, none⟩) (cell_lt e1)).trans e1
    rw [h1] at e3
    cases e3
    have := (e2 a rfl).1
    omega
   have HG : Hid (n₀ ≤ x.heap.size) := by have h1 := HN.out; have h2 := HW.out.size; have h3 := HI.out.2.2.2.2; unfold Hid; omega
   have HZw : Hid (W.heap.size ≤ z.heap.size) := Nat.le_trans HI.out.2.2.2.2 HB2.out.size
   gi_wp2
   generalize x.heap.size = g4 at *
   refine HRo.out.mono ?_
   rintro e W' (⟨rfl, hJ', hkp⟩ | ⟨rfl, hJx'⟩)
   ·obtain ⟨kp1, kp2, _, kp4⟩ := hkp HBz.out
    have HR3 := Lib.hid (show hrow W' g4 _ 33 from (kp4 g4 _ _ _ HR2.out.h (.inr HG.out) HNr.out).trans HR2.out)
    have HJ' := Lib.hid hJ'
    have hcB : W'.cell? ⟨B, 0, none⟩ = some (.string s) := by
     obtain ⟨cs, ty, fr, hh⟩ := cell_cells hcz
     have e := kp4 B cs ty fr hh (.inl hH) HNB.out
     have : W'.cell? ⟨B, 0, none⟩ = z.cell? ⟨B, 0, none⟩ := by unfold World.cell?; simp only [e]
     exact this.trans hcz
    have HCB := Lib.hid hcB
    have HBW := Lib.hid kp1
    have HSW := Lib.hid (Nat.le_trans HZw.out kp2)
    clear hJ' hkp kp1 kp2 kp4 hcz hy2 hz c0 c1 c2 c3 c4 c5 c6 c7 c8 hcB
    obtain ⟨d0, _, d2, _⟩ := HR3.out.c9
    by_cases hc : d.kind = 1
    ·have hcI : (((d.kind : Nat) : Int) == 1) = true := by rw [hc]; rfl
     have HYS : Hid (pre ++ [(d, true)] = yieldsOf s.data.toList) := by
      unfold Hid
      rw [HI.out.2.1, yields_end (by rw [ba_len]; exact HI.out.1) (by rw [ba_len]; exact HK.out) HQ.out hc]
     clear hc
     gi_wp2
     refine bodyPost_ret (results_none rfl _ _ _) rfl ?_
     exact ⟨⟨_, rfl⟩, .inl ⟨_, HYS.out, HJ'.out⟩⟩
    ·have hcI : (((d.kind : Nat) : Int) == 1) = false := by simp; omega
     obtain ⟨gf, e1, e2, e3, e4⟩ := yields_more (by rw [ba_len]; exact HI.out.1) (by rw [ba_len]; exact HK.out) HQ.out hc
     rw [ba_len] at e3 e4
     have HY1 : Hid (yieldsOf s.data.toList = pre ++ [(d, true)] ++ yieldsF s.data.toList gf d.nx) := by
      unfold Hid
      rw [HI.out.2.1, e1]; simp
     have HE2 := Lib.hid e2; have HE3 := Lib.hid e3; have HE4 := Lib.hid e4
     clear hc e1 e2 e3 e4
     gi_wp2
     go_roundw
     case rel => exact ⟨d.nx, gf, pre ++ [(d, true)], by go_num, HE3.out, ⟨HE4.out, HY1.out, HJ'.out, HBW.out, HSW.out⟩, HCB.out⟩
     case measure => have h1 := HE2.out; have h2 := HE3.out; simp [intOf]; omega
   ·have HJ' := Lib.hid hJx'; clear hJx'
    gi_wp2
    refine bodyPost_ret (results_none rfl _ _ _) rfl ?_
    exact ⟨⟨_, rfl⟩, .inr ⟨_, HYL.out.2, HJ'.out⟩⟩
end Go.Proofs.YtnfkcdnkmcifbaaDoor
