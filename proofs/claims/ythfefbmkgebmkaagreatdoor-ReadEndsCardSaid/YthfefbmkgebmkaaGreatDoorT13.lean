/- Walks and plain laws: Qr Qs. -/
import Derived.Test.YthfefbmkgebmkaaGreatDoorT10
import Derived.Test.YthfefbmkgebmkaaGreatDoorT12
import Derived.Test.YthfefbmkgebmkaaGreatDoorT11
import Derived.Test.YthfefbmkgebmkaaGreatDoorM17
namespace Go.Proofs.YthfefbmkgebmkaaGreatDoor
open Go.RowKit
set_option maxRecDepth 100000
set_option maxHeartbeats 16000000

/-- A row that was written on. -/
theorem RowT.store {w : World} {τ : Nat → Nat} {g : Nat} {e : TypeId} {size : Nat} {v : Value} {n : Nat} {xs : List Value} (h : RowT w τ g e size v n xs) (b o : Nat) (u : Value) : ∃ xs', RowT (w.setCell ⟨b, o, none⟩ u) τ g e size v n xs' := by
 by_cases hv : v.ownBlock = some b
 ·obtain ⟨ao, cap, rfl, hs⟩ := h.sv
  rcases h.1.2 with ⟨h1, h0⟩ | ⟨g', c, cur, h1, _⟩
  ·cases h1; cases hv
  ·cases h1
   have hb : g' = b := by simpa [Value.ownBlock] using hv
   subst hb
   exact ⟨_, (h.1.stored o u).1, h.2⟩
 ·exact ⟨xs, owns_fr h.1 (Fr.setCell w ⟨b, o, none⟩ u) (fun k hk e => hv (by have e' : k = b := e; subst e'; exact hk)), h.2⟩
/-- A tree that is written on: its rows are as long as they were, its nodes are as they were. -/
structure VwI (w0 : World) (τ : Nat → Nat) (g7 : Nat) (c7 : Array Value) (no bo co : Option Addr) (nc bc cc : Nat) (NK : List Nk) (wr : World) : Prop where
 obj : hrow wr g7 c7 30
 t3 : RowT wr τ 3 41 9 (.slice no NK.length nc) NK.length (NK.flatMap ndc)
 t5 : ∃ xs, RowT wr τ 5 3 1 (.slice bo NK.length bc) NK.length xs
 t6 : ∃ xs, RowT wr τ 6 9 1 (.slice co NK.length cc) NK.length xs
 kid : ∀ i (h : i < NK.length), ∃ xs, RowT wr τ (7 + i) 3 1 (.slice NK[i].2.1 NK[i].1.kids.length NK[i].2.2) NK[i].1.kids.length xs
 fr : Fr (fun k => τ k ≠ 0) w0 wr
 z : τ g7 = 0
section
variable {w0 wr : World} {τ : Nat → Nat} {g7 : Nat} {c7 : Array Value} {no bo co : Option Addr} {nc bc cc : Nat} {NK : List Nk}
theorem VwI.put (h : VwI w0 τ g7 c7 no bo co nc bc cc NK wr) (b o : Nat) (u : Value) (ht : 5 ≤ τ b) : VwI w0 τ g7 c7 no bo co nc bc cc NK (wr.setCell ⟨b, o, none⟩ u) where
 obj := h.obj.fr (Fr.setCell wr ⟨b, o, none⟩ u) (fun e => by have e' : g7 = b := e; have := h.z; subst e'; omega)
 t3 := h.t3.keep (Fr.setCell wr ⟨b, o, none⟩ u) (fun k _ hk e => by have e' : k = b := e; subst e'; omega) (fun _ _ => rfl)
 t5 := by obtain ⟨xs, hx⟩ := h.t5; exact hx.store b o u
 t6 := by obtain ⟨xs, hx⟩ := h.t6; exact hx.store b o u
 kid := fun i hi => by obtain ⟨xs, hx⟩ := h.kid i hi; exact hx.store b o u
 fr := h.fr.trans (Fr.setCell wr ⟨b, o, none⟩ u) (fun k _ e => by have e' : k = b := e; subst e'; omega)
 z := h.z
/-- A row's cell: where it lies, that it is there, and may be written. -/
theorem row_at {t : Nat} {e : TypeId} {v : Value} {n : Nat} {xs : List Value} (h : RowT wr τ t e 1 v n xs) {k : Nat} (hk : k < n) : ∃ b c u, v = .slice (some ⟨b, 0, none⟩) n c ∧ τ b = t ∧ wr.cell? ⟨b, k, none⟩ = some u ∧ wr.frozen? ⟨b, k, none⟩ = false := by
 obtain ⟨ao, cap, rfl, hs⟩ := h.sv
 rcases h.1.2 with ⟨h1, h0⟩ | ⟨b, c, cur, h1, _⟩
 ·omega
 ·cases h1
  have hl := hs.len
  obtain ⟨a, ha, hc⟩ := hs.cell k (by omega)
  cases ha
  have hk2 : k < xs.length := by omega
  rw [List.getElem?_eq_getElem hk2] at hc
  refine ⟨b, cap, xs[k], rfl, h.2 b rfl, ?_, owns_frozen h.1 k⟩
  rw [← hc]
  congr 1
  unfold Addr.add; simp
theorem VwI.node (h : VwI w0 τ g7 c7 no bo co nc bc cc NK wr) {i : Nat} (hi : i < NK.length) {kl : Nat} (hkl : (NK[i]'hi).1.kids.length = kl) : ∃ (b : Nat) (ka : Option Addr) (kc : Nat), no = some ⟨b, 0, none⟩ ∧ wr.cell? ⟨b, i * 9 + 8, none⟩ = some (.slice ka kl kc) ∧ kl ≤ kc ∧ kc ≤ maxLen ∧ ∃ xs, RowT wr τ (7 + i) 3 1 (.slice ka kl kc) kl xs := by
 subst hkl
 rcases h.t3.1.2 with ⟨h1, h0⟩ | ⟨b, c, cur, h1, _⟩
 ·omega
 ·cases h1
  obtain ⟨xs, hr⟩ := h.kid i hi
  obtain ⟨ao, cap, e, hs⟩ := hr.sv
  cases e
  refine ⟨b, _, _, rfl, ?_, hs.le, hs.cm, xs, hr⟩
  have hx : (NK.flatMap ndc)[i * 9 + 8]? = some (.slice NK[i].2.1 NK[i].1.kids.length NK[i].2.2) := by
   rw [fl_at ndc_len NK i hi 8 (by decide)]; rfl
  have := h.t3.1.cells (g := b) rfl _ _ hx
  have e : (⟨b, 0, none⟩ : Addr).add (i * 9 + 8) = ⟨b, i * 9 + 8, none⟩ := by unfold Addr.add; split <;> simp_all
  rwa [e] at this
end
theorem limV_two (l : List Nat) : ∃ x y : Int, limV l = #[.int .i64 x, .int .i64 y] := by
 cases l with
 | nil => exact ⟨0, 0, rfl⟩
 | cons a l => exact ⟨3, _, rfl⟩
/-- What is known of whatever was read. -/
theorem readT_all {l : List UInt8} {R : List Rr} {N : List Rn} {e a : Nat} (h : readT l = ((R, N), e, a)) : KidsUp N ∧ ∀ r ∈ R, r.body < N.length := by
 by_cases he : e = 0
 ·subst he
  obtain ⟨-, -, h1, h2, -⟩ := preorder h
  exact ⟨h1, h2⟩
 ·obtain ⟨h1, -⟩ := readT_err h he
  cases h1
  exact ⟨fun n hn => by simp at hn, fun r hr => by simp at hr⟩
theorem rreads_any (s : ByteArray) (w : World) (hs : s.size ≤ 16384) : Calls Tryz.prog 13 #[.string s] w fun e w' => e = .returned (.bool true) ∧ Below w.heap.size w w' := by
 have HT := Lib.hid (fun x => text_walk s x hs)
 have HU := Lib.hid (fun x => rtext_walk s x hs)
 have hnb := readT_nb (l := s.data.toList)
 have hsl : s.data.toList.length = s.size := ba_len s
 have HSL : Hid (s.data.toList.length ≤ 1000000) := by unfold Hid; omega
 obtain ⟨⟨⟨R, N⟩, e0, a0⟩, hrt⟩ : ∃ y, readT s.data.toList = y := ⟨_, rfl⟩
 rw [hrt, hsl] at hnb
 simp only [] at hnb
 obtain ⟨hku, hbd⟩ := readT_all hrt
 have HRT := Lib.hid hrt; have HKU := Lib.hid hku; have HBD := Lib.hid hbd; have HLF := Lib.hid (readT_lf hrt)
 have HNN : Hid (N.length ≤ 40000) := by unfold Hid; omega
 have HRN : Hid (R.length ≤ 40000) := by unfold Hid; omega
 obtain ⟨m1, m2, hlv⟩ := limV_two (limA R N)
 have HLV := Lib.hid hlv
 clear hrt hnb hsl hku hbd hlv hs
 go_enter Tryz.func13, Tryz.ntmps13
 go_wp2_with fail
 refine (HT.out _).mono ?_
 intro e x h
 obtain ⟨ro1, no1, ao1, bo1, co1, rc1, nc1, ac1, bc1, cc1, NK1, rfl, hG, hRA, hNA, hNM, hb⟩ := TxtP.tree h HRT.out HSL.out
 obtain ⟨g, hg⟩ : ∃ g, x.heap.size = g := ⟨_, rfl⟩
 obtain ⟨z, hz, z1, z2, zb⟩ := two_blocks x g hg #[.slice ro1 R.length rc1, .slice no1 N.length nc1, .slice ao1 R.length ac1, .slice bo1 N.length bc1, .slice co1 N.length cc1] #[.int .i64 e0, .int .i64 a0] 30 33
 have HX1 : Hid (TrX 30 g ro1 no1 ao1 bo1 co1 rc1 nc1 ac1 bc1 cc1 NK1 R N z) := ⟨z1, hG.below zb, hRA.below zb, hNA.below zb, hNM.below zb⟩
 have HD1 := Lib.hid z2
 have HB1 := Lib.hid (hb.trans (zb.mono hb.size))
 have HZ := Lib.hid hz; have HG0 := Lib.hid hg
 clear hG hRA hNA hNM hb hz hg z1 z2 zb h
 go_upto_region 2 with (fail)
 rw [HZ.out, HG0.out]
 clear HZ HG0
 go_wp2_with fail
 refine (HU.out _).mono ?_
 intro e x2 h
 obtain ⟨ro2, no2, ao2, bo2, co2, rc2, nc2, ac2, bc2, cc2, NK2, rfl, hG, hRA, hNA, hNM, hb⟩ := TxtP.tree h HRT.out HSL.out
 obtain ⟨g5, hg⟩ : ∃ g, x2.heap.size = g := ⟨_, rfl⟩
 obtain ⟨y, hz, z1, z2, zb⟩ := two_blocks x2 g5 hg #[.slice ro2 R.length rc2, .slice no2 N.length nc2, .slice ao2 R.length ac2, .slice bo2 N.length bc2, .slice co2 N.length cc2] #[.int .i64 e0, .int .i64 a0] 78 33
 have HX2 : Hid (TrX 78 g5 ro2 no2 ao2 bo2 co2 rc2 nc2 ac2 bc2 cc2 NK2 R N y) := ⟨z1, hG.below zb, hRA.below zb, hNA.below zb, hNM.below zb⟩
 have HD2 := Lib.hid z2
 have hbb := hb.trans (zb.mono hb.size)
 have HX1b := Lib.hid (HX1.out.below hbb)
 have HD1b := Lib.hid (HD1.out.below hbb)
 have HB2 := Lib.hid (HB1.out.trans (hbb.mono HB1.out.size))
 have HZ := Lib.hid hz; have HG0 := Lib.hid hg
 clear hG hRA hNA hNM hb hz hg z1 z2 zb h hbb HX1 HD1 HB1 HU
 go_upto_region 3 with (fail)
 rw [HZ.out, HG0.out]
 clear HZ HG0
 have HP3 := Lib.hid (later_all (fun v : Later y => tree_ld (HX1b.out.tr.below v.ok)))
 have HP5 := Lib.hid (later_all (fun v : Later y => treeq_ld (HX2.out.tr.below v.ok)))
 have HP4 := Lib.hid (later_all (fun v : Later y => diag_ld (HD1b.out.below v.ok)))
 have HP6 := Lib.hid (later_all (fun v : Later y => diag_ld (HD2.out.below v.ok)))
 have HSm : Hid (∀ v : Later y, Calls Tryz.prog 29 #[.agg #[.slice ro1 R.length rc1, .slice no1 N.length nc1, .slice ao1 R.length ac1, .slice bo1 N.length bc1, .slice co1 N.length cc1], .agg #[.slice ro2 R.length rc2, .slice no2 N.length nc2, .slice ao2 R.length ac2, .slice bo2 N.length bc2, .slice co2 N.length cc2]] v.val fun r w' => r = .returned (.bool true) ∧ ∃ u : Later y, w' = u.val) := fun v => by
  have h1 := HX1b.out.below v.ok; have h2 := HX2.out.below v.ok
  exact Calls.later (same_any v.val _ _ _ _ _ _ _ _ _ _ NK1 _ _ _ _ _ _ _ _ _ _ NK2 R N h1.gr h1.ra h1.na h1.nm h2.gr h2.ra h2.na h2.nm)
 have HL1 : Hid (∀ v : Later y, Calls Tryz.prog 30 #[.agg #[.slice ro1 R.length rc1, .slice no1 N.length nc1, .slice ao1 R.length ac1, .slice bo1 N.length bc1, .slice co1 N.length cc1]] v.val fun r w' => r = .returned (.agg #[.int .i64 m1, .int .i64 m2]) ∧ ∃ u : Later y, w' = u.val) := fun v => by
  have h1 := HX1b.out.below v.ok
  rw [← HLV.out]
  exact Calls.later (limits_any v.val _ _ _ _ _ _ _ _ _ _ NK1 R N h1.gr h1.ra h1.na h1.nm HKU.out HBD.out HNN.out HRN.out)
 have HL2 : Hid (∀ v : Later y, Calls Tryz.prog 31 #[.agg #[.slice ro2 R.length rc2, .slice no2 N.length nc2, .slice ao2 R.length ac2, .slice bo2 N.length bc2, .slice co2 N.length cc2]] v.val fun r w' => r = .returned (.agg #[.int .i64 m1, .int .i64 m2]) ∧ ∃ u : Later y, w' = u.val) := fun v => by
  have h2 := HX2.out.below v.ok
  rw [← HLV.out]
  exact Calls.later (rlimits_any v.val _ _ _ _ _ _ _ _ _ _ NK2 R N h2.gr h2.ra h2.na h2.nm HKU.out HLF.out HBD.out HNN.out HRN.out)
 refine wp_region_later (by kernel_rfl) (by kernel_rfl) ?_
 repeat (first
  | go_big_quiet_step (first
   | (go_at_call 29; with_reducible exact HSm.out _)
   | (go_at_call 30; with_reducible exact HL1.out _)
   | (go_at_call 31; with_reducible exact HL2.out _))
  | (refine wpQuiet_load_part rfl 30 (.tmp 3) rfl ⟨g, 0, none⟩ rfl _ HP3.out ?_; simp only [Act.put, List.setIfInBounds_toArray, List.set_cons_succ, List.set_cons_zero])
  | (refine wpQuiet_load_part rfl 78 (.tmp 5) rfl ⟨g5, 0, none⟩ rfl _ HP5.out ?_; simp only [Act.put, List.setIfInBounds_toArray, List.set_cons_succ, List.set_cons_zero])
  | (refine wpQuiet_load_part rfl 33 (.tmp 4) rfl ⟨g + 1, 0, none⟩ rfl _ HP4.out ?_; simp only [Act.put, List.setIfInBounds_toArray, List.set_cons_succ, List.set_cons_zero])
  | (refine wpQuiet_load_part rfl 33 (.tmp 6) rfl ⟨g5 + 1, 0, none⟩ rfl _ HP6.out ?_; simp only [Act.put, List.setIfInBounds_toArray, List.set_cons_succ, List.set_cons_zero]))
 refine wpQuiet_nil ?_
 intro w5 hw5
 obtain ⟨v, rfl⟩ := hw5
 have HX1c := Lib.hid (HX1b.out.below v.ok)
 have HX2c := Lib.hid (HX2.out.below v.ok)
 have HB3 := Lib.hid (HB2.out.trans (v.ok.mono HB2.out.size))
 clear HP3 HP4 HP5 HP6 HSm HL1 HL2 HX1b HX2 HD1b HD2 HB2
 generalize v.val = y1 at *
 clear v
 go_wp2_with fail
 refine (HT.out _).mono ?_
 intro e x3 h
 obtain ⟨v1, v2, v3, v4, v5, he, ⟨τ, NK, hTr, hNK, hfresh⟩, hb⟩ := h
 rw [HRT.out] at he hTr hNK
 simp only [] at he hTr hNK
 subst he
 have hl : NK.length = N.length := by have := congrArg List.length hNK; simpa using this
 obtain ⟨ro3, rc3, rfl, s1⟩ := hTr.t2.sv
 obtain ⟨no3, nc3, rfl, s2⟩ := hTr.t3.sv
 obtain ⟨ao3, ac3, rfl, s3⟩ := hTr.t4.sv
 obtain ⟨bo3, bc3, rfl, s4⟩ := hTr.t5.sv
 obtain ⟨co3, cc3, rfl, s5⟩ := hTr.t6.sv
 simp only [List.length_map, ← hl] at hTr
 obtain ⟨g7, hg⟩ : ∃ g, x3.heap.size = g := ⟨_, rfl⟩
 obtain ⟨z, hz, z1, z2, zb⟩ := two_blocks x3 g7 hg #[.slice ro3 R.length rc3, .slice no3 NK.length nc3, .slice ao3 R.length ac3, .slice bo3 N.length bc3, .slice co3 N.length cc3] #[.int .i64 e0, .int .i64 a0] 30 33
 have htz : τ g7 = 0 := hTr.new g7 (by omega)
 have hTz := hTr.below zb
 have HV0 : Hid (VwI z τ g7 #[.slice ro3 R.length rc3, .slice no3 NK.length nc3, .slice ao3 R.length ac3, .slice bo3 N.length bc3, .slice co3 N.length cc3] no3 bo3 co3 nc3 bc3 cc3 NK z) := ⟨z1, hTz.t3, ⟨_, by have h := hTz.t5; rw [List.length_map, ← hl] at h; exact h⟩, ⟨_, by have h := hTz.t6; rw [List.length_map, ← hl] at h; exact h⟩, fun i hi => ⟨_, hTz.kid i hi⟩, Fr.refl _ _, htz⟩
 have hbb := hb.trans (zb.mono hb.size)
 have HBY := Lib.hid hbb
 have HB3s := Lib.hid HB3.out.size
 have HB4 := Lib.hid (HB3.out.trans (hbb.mono HB3.out.size))
 have HFR : Hid (∀ k, τ k ≠ 0 → y1.heap.size ≤ k) := hfresh
 have HLO : Hid (g < y1.heap.size ∧ g5 < y1.heap.size) := ⟨HX1c.out.tr.lt, HX2c.out.tr.lt⟩
 have HYS : Hid (y1.heap.size ≤ z.heap.size) := hbb.size
 have HZ := Lib.hid hz; have HG0 := Lib.hid hg
 have hlm : (e0 : Int) = e0 := rfl
 have HLN := Lib.hid hl
 have HBN := Lib.hid s2.bound; have HNK2 : Hid (NK.length ≤ 40000) := by have := HNN.out; unfold Hid; omega
 clear hb hz hg z1 z2 zb hbb hTr hTz hNK hl s1 s2 s3 s4 s5 htz hfresh HT HB3
 go_upto_region 6 with (fail)
 rw [HZ.out, HG0.out]
 clear HZ HG0
 go_wp2_with fail
 go_loopw [9, 10] (fun v9 _ wr => ∃ i : Nat, i ≤ NK.length ∧ v9 = .int .i64 i ∧ Hid (VwI z τ g7 #[.slice ro3 R.length rc3, .slice no3 NK.length nc3, .slice ao3 R.length ac3, .slice bo3 N.length bc3, .slice co3 N.length cc3] no3 bo3 co3 nc3 bc3 cc3 NK wr)) (fun v9 _ _ => NK.length - (intOf v9).toNat)
 case atStart => exact ⟨0, Nat.zero_le _, by go_num, HV0.out⟩
 case round =>
  clear HV0
  obtain ⟨i, hi, rfl, HV⟩ := hrel
  have k1 : wr.cell? ⟨g7, 1, none⟩ = some (.slice no3 NK.length nc3) := HV.out.obj.cell 1
  by_cases hlt : i < NK.length
  ·have hltI : (i : Int) < NK.length := by omega
   have hltN : (i : Int) < N.length := by have := HLN.out; omega
   have HLT := Lib.hid hlt
   have hbn := HBN.out
   obtain ⟨kl, hkl⟩ : ∃ n, NK[i].1.kids.length = n := ⟨_, rfl⟩
   have HKL := Lib.hid hkl
   clear hlt hkl
   go_wp2_with fail
   go_loopw [10] (fun v10 wq => ∃ k : Nat, k ≤ kl ∧ v10 = .int .i64 k ∧ Hid (VwI z τ g7 #[.slice ro3 R.length rc3, .slice no3 NK.length nc3, .slice ao3 R.length ac3, .slice bo3 N.length bc3, .slice co3 N.length cc3] no3 bo3 co3 nc3 bc3 cc3 NK wq)) (fun v10 _ => kl - (intOf v10).toNat)
   case atStart => exact ⟨0, Nat.zero_le _, by go_num, HV.out⟩
   case round =>
    clear HV k1
    obtain ⟨k, hk, rfl, HV⟩ := hrel
    have k1 := HV.out.obj.cell 1
    obtain ⟨b3, ka, kcc, rfl, k8, hk1, hk2, xs, hr⟩ := HV.out.node HLT.out HKL.out
    have HR7 := Lib.hid hr
    clear hr
    by_cases hkt : k < kl
    ·have hktI : (k : Int) < kl := by omega
     obtain ⟨bk, ck, u, hv, htk, kc, fk⟩ := row_at HR7.out hkt
     cases hv
     have HTK := Lib.hid htk
     unfold maxLen at hk2
     have HKT := Lib.hid hkt
     clear htk hkt
     go_wp2_with fail
     go_roundw
     case rel => exact ⟨k + 1, by have := HKT.out; omega, by go_num, HV.out.put bk k _ (by have := HTK.out; omega)⟩
     case measure => have := HKT.out; simp [intOf]; omega
    ·have hktI : ¬ (k : Int) < kl := by omega
     clear hkt hk1 hk2 HR7
     obtain ⟨xs5, hr5⟩ := HV.out.t5
     obtain ⟨xs6, hr6⟩ := HV.out.t6
     obtain ⟨b5, c5, u5, hv5, ht5, kc5, fk5⟩ := row_at hr5 HLT.out
     obtain ⟨b6, c6, u6, hv6, ht6, kc6, fk6⟩ := row_at hr6 HLT.out
     cases hv5
     cases hv6
     have hk3 := HV.out.obj.cell 3
     have hk4 := HV.out.obj.cell 4
     have h56 : b6 ≠ b5 := fun e => by subst e; omega
     have h75 : g7 ≠ b5 := fun e => by have := HV.out.z; subst e; omega
     have H5 := Lib.hid ht5; have H6 := Lib.hid ht6
     have HV2 := Lib.hid (HV.out.put b5 i (.int .i64 (-9)) (by omega))
     have k4b := HV2.out.obj.cell 4
     clear hr5 hr6 ht5 ht6
     go_wp2_with fail
     go_roundw
     case rel => exact ⟨i + 1, by have := HLT.out; omega, by go_num, HV2.out.put b6 i _ (by have := H6.out; omega)⟩
     case measure => have := HLT.out; simp [intOf]; omega
  ·have hltI : ¬ (i : Int) < NK.length := by omega
   clear hlt
   have hbz : Below y1.heap.size z wr := HV.out.fr.below HYS.out (fun k hk e => by have := HFR.out k e; omega)
   have HXA : Hid (TrX 30 g ro1 no1 ao1 bo1 co1 rc1 nc1 ac1 bc1 cc1 NK1 R N wr) := HX1c.out.below (HBY.out.trans hbz)
   have HXB : Hid (TrX 78 g5 ro2 no2 ao2 bo2 co2 rc2 nc2 ac2 bc2 cc2 NK2 R N wr) := HX2c.out.below (HBY.out.trans hbz)
   have HBE : Hid (Below w.heap.size w wr) := HB4.out.trans (HV.out.fr.below HB4.out.size (fun k hk e => by have := HFR.out k e; have := HB3s.out; omega))
   have p0 := HXA.out.tr.cell 0; have p1 := HXA.out.tr.cell 1; have p2 := HXA.out.tr.cell 2; have p3 := HXA.out.tr.cell 3; have p4 := HXA.out.tr.cell 4
   have q0 := HXB.out.tr.cell 0; have q1 := HXB.out.tr.cell 1; have q2 := HXB.out.tr.cell 2; have q3 := HXB.out.tr.cell 3; have q4 := HXB.out.tr.cell 4
   have HSm := Lib.hid (same_any wr _ _ _ _ _ _ _ _ _ _ NK1 _ _ _ _ _ _ _ _ _ _ NK2 R N HXA.out.gr HXA.out.ra HXA.out.na HXA.out.nm HXB.out.gr HXB.out.ra HXB.out.na HXB.out.nm)
   clear hbz HV
   go_wp2_with fail
   refine HSm.out.mono ?_
   rintro e x9 ⟨rfl, hb⟩
   have HB9 := Lib.hid (HBE.out.trans (hb.mono HBE.out.size))
   clear hb HSm HBE HXA HXB
   go_wp2_with fail
   go_ret
   exact ⟨rfl, HB9.out⟩
end Go.Proofs.YthfefbmkgebmkaaGreatDoor
namespace Go.Proofs.YthfefbmkgebmkaaGreatDoor
open Go.RowKit
set_option maxRecDepth 100000
set_option maxHeartbeats 16000000

theorem rtells_any (s : ByteArray) (w : World) : Calls Tryz.prog 5 #[.string s] w fun e w' => e = .returned (.bool true) ∧ Below w.heap.size w w' := by
 have HA := Lib.hid (fun x => rawake_any x)
 by_cases hs : 2000 < s.size
 ·have hsI : (2000 : Int) < s.size := by omega
  clear hs
  go_enter Tryz.func5, Tryz.ntmps5
  go_wp2_with fail
  refine (HA.out _).mono ?_
  rintro e x ⟨rfl, hb⟩
  have HB := Lib.hid hb
  clear hb HA
  go_wp2_with fail
  go_ret
  exact ⟨rfl, HB.out⟩
 ·have hsI : ¬ (2000 : Int) < s.size := by omega
  have HR := Lib.hid (rreads_any s w (by omega))
  clear hs
  go_enter Tryz.func5, Tryz.ntmps5
  go_wp2_with fail
  refine HR.out.mono ?_
  rintro e x ⟨rfl, hb⟩
  have HB := Lib.hid hb
  clear hb HR
  go_wp2_with fail
  refine (HA.out _).mono ?_
  rintro e y ⟨rfl, hb⟩
  have HB2 := Lib.hid (HB.out.trans (hb.mono HB.out.size))
  clear hb HA HB
  go_wp2_with fail
  go_ret
  exact ⟨rfl, HB2.out⟩
theorem lim_any (w : World) : Calls Tryz.prog 14 #[] w fun e w' => e = .returned (.bool true) ∧ Below w.heap.size w w' := by
 have HRd := Lib.hid rreads_any
 have B0 := Lib.hid (Below.refl w.heap.size w)
 go_enter Tryz.func14, Tryz.ntmps14
 go_wp2_with fail
 go_loopw [1, 2, 3, 4, 5] (fun v1 v2 v3 v4 v5 wr => ∃ (n : Nat) (a b c d : ByteArray), n ≤ 67 ∧ v1 = .string a ∧ v2 = .string b ∧ v3 = .string c ∧ v4 = .string d ∧ v5 = .int .i64 n ∧ Hid (a.size ≤ n) ∧ Hid (b.size ≤ n) ∧ Hid (c.size ≤ 2 * n) ∧ Hid (d.size ≤ 8 * n) ∧ Hid (Below w.heap.size w wr)) (fun _ _ _ _ v5 _ => 67 - (intOf v5).toNat)
 case atStart => exact ⟨0, ⟨#[]⟩, ⟨#[]⟩, ⟨#[]⟩, ⟨#[]⟩, by omega, rfl, rfl, rfl, rfl, by go_num, by unfold Hid; decide, by unfold Hid; decide, by unfold Hid; decide, by unfold Hid; decide, B0.out⟩
 case round =>
  clear B0
  obtain ⟨n, a, b, c, d, hn, rfl, rfl, rfl, rfl, rfl, HA, HB, HC, HD, B0⟩ := hrel
  by_cases hlt : n < 67
  ·have hltI : (n : Int) < 67 := by omega
   have HLT := Lib.hid hlt
   obtain ⟨r, hr, hr3⟩ : ∃ r : Nat, (n : Int).tmod 3 = r ∧ r < 3 := ⟨n % 3, by rw [Int.tmod_eq_emod_of_nonneg (by omega)]; omega, by omega⟩
   obtain ⟨t, ht, htz⟩ : ∃ t : ByteArray, (#[.string ⟨#[57, 56]⟩, .string ⟨#[57, 57]⟩, .string ⟨#[49, 48, 48]⟩] : Array Value)[r]? = some (.string t) ∧ t.size ≤ 3 := by
    have h : r = 0 ∨ r = 1 ∨ r = 2 := by omega
    rcases h with rfl | rfl | rfl <;> exact ⟨_, rfl, by decide⟩
   have k0 : (wr.alloc (.cells #[.string ⟨#[57, 56]⟩, .string ⟨#[57, 57]⟩, .string ⟨#[49, 48, 48]⟩] 9)).cell? ⟨wr.heap.size, r, none⟩ = some (.string t) := ((hrow.new wr _ _).cell r).trans ht
   have HTZ := Lib.hid htz
   have hr0 : (0 : Int) ≤ r := by omega
   have hr3I : (r : Int) < 3 := by omega
   have c1 : ¬ 9223372036854775807 < a.size + 6 := by have := HLT.out; have := HA.out; have := HB.out; have := HC.out; have := HD.out; have := HTZ.out; omega
   have c2 : ¬ 9223372036854775807 < a.size + 6 + a.size := by have := HLT.out; have := HA.out; have := HB.out; have := HC.out; have := HD.out; have := HTZ.out; omega
   have c3 : ¬ 9223372036854775807 < a.size + 6 + a.size + 4 := by have := HLT.out; have := HA.out; have := HB.out; have := HC.out; have := HD.out; have := HTZ.out; omega
   have c4 : ¬ 9223372036854775807 < a.size + 6 + a.size + 4 + t.size := by have := HLT.out; have := HA.out; have := HB.out; have := HC.out; have := HD.out; have := HTZ.out; omega
   have c5 : ¬ 9223372036854775807 < a.size + 6 + a.size + 4 + t.size + 1 := by have := HLT.out; have := HA.out; have := HB.out; have := HC.out; have := HD.out; have := HTZ.out; omega
   have c6 : ¬ 9223372036854775807 < 5 + a.size := by have := HLT.out; have := HA.out; have := HB.out; have := HC.out; have := HD.out; have := HTZ.out; omega
   have c7 : ¬ 9223372036854775807 < 5 + a.size + 7 := by have := HLT.out; have := HA.out; have := HB.out; have := HC.out; have := HD.out; have := HTZ.out; omega
   have c8 : ¬ 9223372036854775807 < 5 + b.size := by have := HLT.out; have := HA.out; have := HB.out; have := HC.out; have := HD.out; have := HTZ.out; omega
   have c9 : ¬ 9223372036854775807 < 5 + b.size + 2 := by have := HLT.out; have := HA.out; have := HB.out; have := HC.out; have := HD.out; have := HTZ.out; omega
   have c10 : ¬ 9223372036854775807 < 5 + c.size := by have := HLT.out; have := HA.out; have := HB.out; have := HC.out; have := HD.out; have := HTZ.out; omega
   have c11 : ¬ 9223372036854775807 < 5 + c.size + 2 := by have := HLT.out; have := HA.out; have := HB.out; have := HC.out; have := HD.out; have := HTZ.out; omega
   have c12 : ¬ 9223372036854775807 < d.size + 8 := by have := HLT.out; have := HA.out; have := HB.out; have := HC.out; have := HD.out; have := HTZ.out; omega
   have c13 : ¬ 9223372036854775807 < a.size + 1 := by have := HLT.out; have := HA.out; have := HB.out; have := HC.out; have := HD.out; have := HTZ.out; omega
   have c14 : ¬ 9223372036854775807 < b.size + 1 := by have := HLT.out; have := HA.out; have := HB.out; have := HC.out; have := HD.out; have := HTZ.out; omega
   have c15 : ¬ 9223372036854775807 < c.size + 2 := by have := HLT.out; have := HA.out; have := HB.out; have := HC.out; have := HD.out; have := HTZ.out; omega

   have B1 := Lib.hid (B0.out.alloc B0.out.size (.cells #[.string ⟨#[57, 56]⟩, .string ⟨#[57, 57]⟩, .string ⟨#[49, 48, 48]⟩] 9))
   clear hlt hr3 ht htz hn B0
   go_wp2_with fail
   refine (HRd.out _ _ (by simp only [ByteArray.size_append]; show a.size + 6 + a.size + 4 + t.size + 1 ≤ 16384; have := HLT.out; have := HA.out; have := HB.out; have := HC.out; have := HD.out; have := HTZ.out; omega)).mono ?_
   rintro e x2 ⟨rfl, hb⟩
   have B2 := Lib.hid (B1.out.trans (hb.mono B1.out.size))
   clear hb B1
   go_wp2_with fail
   refine (HRd.out _ _ (by simp only [ByteArray.size_append]; show 5 + a.size + 7 ≤ 16384; have := HLT.out; have := HA.out; have := HB.out; have := HC.out; have := HD.out; have := HTZ.out; omega)).mono ?_
   rintro e x3 ⟨rfl, hb⟩
   have B3 := Lib.hid (B2.out.trans (hb.mono B2.out.size))
   clear hb B2
   go_wp2_with fail
   refine (HRd.out _ _ (by simp only [ByteArray.size_append]; show 5 + b.size + 2 ≤ 16384; have := HLT.out; have := HA.out; have := HB.out; have := HC.out; have := HD.out; have := HTZ.out; omega)).mono ?_
   rintro e x4 ⟨rfl, hb⟩
   have B4 := Lib.hid (B3.out.trans (hb.mono B3.out.size))
   clear hb B3
   go_wp2_with fail
   refine (HRd.out _ _ (by simp only [ByteArray.size_append]; show 5 + c.size + 2 ≤ 16384; have := HLT.out; have := HA.out; have := HB.out; have := HC.out; have := HD.out; have := HTZ.out; omega)).mono ?_
   rintro e x5 ⟨rfl, hb⟩
   have B5 := Lib.hid (B4.out.trans (hb.mono B4.out.size))
   clear hb B4
   go_wp2_with fail
   refine (HRd.out _ _ (by simp only [ByteArray.size_append]; show d.size + 8 ≤ 16384; have := HLT.out; have := HA.out; have := HB.out; have := HC.out; have := HD.out; have := HTZ.out; omega)).mono ?_
   rintro e x6 ⟨rfl, hb⟩
   have B6 := Lib.hid (B5.out.trans (hb.mono B5.out.size))
   clear hb B5
   go_wp2_with fail
   go_roundw
   case rel => exact ⟨n + 1, _, _, _, _, by have := HLT.out; omega, rfl, rfl, rfl, rfl, by go_num, by unfold Hid; rw [ByteArray.size_append]; show a.size + 1 ≤ n + 1; have := HA.out; omega, by unfold Hid; rw [ByteArray.size_append]; show b.size + 1 ≤ n + 1; have := HB.out; omega, by unfold Hid; rw [ByteArray.size_append]; show c.size + 2 ≤ 2 * (n + 1); have := HC.out; omega, by unfold Hid; rw [ByteArray.size_append]; show d.size + 8 ≤ 8 * (n + 1); have := HD.out; omega, B6.out⟩
   case measure => have := HLT.out; simp [intOf]; omega
  ·have hltI : ¬ (n : Int) < 67 := by omega
   clear hlt hn HA HB HC HD
   go_wp2_with fail
   go_loopw [6, 7] (fun v6 v7 wr => ∃ (n : Nat) (a : ByteArray), n ≤ 67 ∧ v6 = .string a ∧ v7 = .int .i64 n ∧ Hid (a.size ≤ 2 * n) ∧ Hid (Below w.heap.size w wr)) (fun _ v7 _ => 67 - (intOf v7).toNat)
   case atStart => exact ⟨0, ⟨#[]⟩, by omega, rfl, by go_num, by unfold Hid; decide, B0.out⟩
   case round =>
    clear B0
    obtain ⟨n, a, hn, rfl, rfl, HA, B0⟩ := hrel
    by_cases hlt : n < 67
    ·have hltI : (n : Int) < 67 := by omega
     have HLT := Lib.hid hlt
     have c1 : ¬ 9223372036854775807 < 5 + a.size := by have := HLT.out; have := HA.out; omega
     have c2 : ¬ 9223372036854775807 < 5 + a.size + 2 := by have := HLT.out; have := HA.out; omega
     have c3 : ¬ 9223372036854775807 < a.size + 2 := by have := HLT.out; have := HA.out; omega
     by_cases hg : 61 < n
     ·have hgI : (61 : Int) < n := by omega
      clear hlt hn hg
      go_wp2_with fail
      refine (HRd.out _ _ (by simp only [ByteArray.size_append]; show 5 + a.size + 2 ≤ 16384; have := HLT.out; have := HA.out; omega)).mono ?_
      rintro e x1 ⟨rfl, hb⟩
      have B1 := Lib.hid (B0.out.trans (hb.mono B0.out.size))
      clear hb B0
      go_wp2_with fail
      go_roundw
      case rel => exact ⟨n + 1, _, by have := HLT.out; omega, rfl, by go_num, by unfold Hid; rw [ByteArray.size_append]; show a.size + 2 ≤ 2 * (n + 1); have := HA.out; omega, B1.out⟩
      case measure => have := HLT.out; simp [intOf]; omega
     ·have hgI : ¬ (61 : Int) < n := by omega
      clear hlt hn hg
      go_wp2_with fail
      go_roundw
      case rel => exact ⟨n + 1, _, by have := HLT.out; omega, rfl, by go_num, by unfold Hid; rw [ByteArray.size_append]; show a.size + 2 ≤ 2 * (n + 1); have := HA.out; omega, B0.out⟩
      case measure => have := HLT.out; simp [intOf]; omega
    ·have hltI : ¬ (n : Int) < 67 := by omega
     clear hlt hn HA
     go_wp2_with fail
     go_loopw [8, 9, 10] (fun v8 v9 _ wr => ∃ (n : Nat) (a : ByteArray), n ≤ 41 ∧ v8 = .string a ∧ v9 = .int .i64 n ∧ Hid (a.size ≤ 106 * n) ∧ Hid (Below w.heap.size w wr)) (fun _ v9 _ _ => 41 - (intOf v9).toNat)
     case atStart => exact ⟨0, ⟨#[]⟩, by omega, rfl, by go_num, by unfold Hid; decide, B0.out⟩
     case round =>
      clear B0
      obtain ⟨n, a, hn, rfl, rfl, HA, B0⟩ := hrel
      by_cases hlt : n < 41
      ·have hltI : (n : Int) < 41 := by omega
       have HLT := Lib.hid hlt

       have c1 : ¬ 9223372036854775807 < a.size + 9 := by have := HLT.out; have := HA.out; omega
       have c2 : ¬ 9223372036854775807 < a.size + 5 := by have := HLT.out; have := HA.out; omega
       by_cases hg : 39 < n
       ·have hgI : (39 : Int) < n := by omega
        clear hlt hn hg
        go_wp2_with fail
        refine (HRd.out _ _ (by have := HLT.out; have := HA.out; omega)).mono ?_
        rintro e x1 ⟨rfl, hb⟩
        have B1 := Lib.hid (B0.out.trans (hb.mono B0.out.size))
        clear hb B0
        go_wp2_with fail
        refine (HRd.out _ _ (by simp only [ByteArray.size_append]; show a.size + 9 ≤ 16384; have := HLT.out; have := HA.out; omega)).mono ?_
        rintro e x2 ⟨rfl, hb⟩
        have B2 := Lib.hid (B1.out.trans (hb.mono B1.out.size))
        clear hb B1
        go_wp2_with fail
        go_loopw [8, 10] (fun v8 v10 wq => ∃ (j : Nat) (m : ByteArray), j ≤ 50 ∧ v8 = .string m ∧ v10 = .int .i64 j ∧ Hid (m.size ≤ 106 * n + 5 + 2 * j) ∧ Hid (Below w.heap.size w wq)) (fun _ v10 _ => 50 - (intOf v10).toNat)
        case atStart => exact ⟨0, _, by omega, rfl, by go_num, by unfold Hid; rw [ByteArray.size_append]; show a.size + 5 ≤ 106 * n + 5 + 2 * 0; have := HA.out; omega, B2.out⟩
        case round =>
         clear B2
         obtain ⟨j, m, hj, rfl, rfl, HM, B9⟩ := hrel
         have HJ := Lib.hid hj
         have d1 : ¬ 9223372036854775807 < m.size + 2 := by have := HM.out; have := HLT.out; omega
         have d2 : ¬ 9223372036854775807 < m.size + 1 := by have := HM.out; have := HLT.out; omega
         by_cases hjt : j < 50
         ·have hjI : (j : Int) < 50 := by omega
          have HJT := Lib.hid hjt
          clear hjt hj
          go_wp2_with fail
          go_roundw
          case rel => exact ⟨j + 1, _, by have := HJT.out; omega, rfl, by go_num, by unfold Hid; rw [ByteArray.size_append]; show m.size + 2 ≤ 106 * n + 5 + 2 * (j + 1); have := HM.out; omega, B9.out⟩
          case measure => have := HJT.out; simp [intOf]; omega
         ·have hjI : ¬ (j : Int) < 50 := by omega
          clear hjt hj
          go_wp2_with fail
          go_roundw
          case rel => exact ⟨n + 1, _, by have := HLT.out; omega, rfl, by go_num, by unfold Hid; rw [ByteArray.size_append]; show m.size + 1 ≤ 106 * (n + 1); have := HM.out; have := HJ.out; omega, B9.out⟩
          case measure => have := HLT.out; simp [intOf]; omega
       ·have hgI : ¬ (39 : Int) < n := by omega
        clear hlt hn hg
        go_wp2_with fail
        go_loopw [8, 10] (fun v8 v10 wq => ∃ (j : Nat) (m : ByteArray), j ≤ 50 ∧ v8 = .string m ∧ v10 = .int .i64 j ∧ Hid (m.size ≤ 106 * n + 5 + 2 * j) ∧ Hid (Below w.heap.size w wq)) (fun _ v10 _ => 50 - (intOf v10).toNat)
        case atStart => exact ⟨0, _, by omega, rfl, by go_num, by unfold Hid; rw [ByteArray.size_append]; show a.size + 5 ≤ 106 * n + 5 + 2 * 0; have := HA.out; omega, B0.out⟩
        case round =>
         clear B0
         obtain ⟨j, m, hj, rfl, rfl, HM, B9⟩ := hrel
         have HJ := Lib.hid hj
         have d1 : ¬ 9223372036854775807 < m.size + 2 := by have := HM.out; have := HLT.out; omega
         have d2 : ¬ 9223372036854775807 < m.size + 1 := by have := HM.out; have := HLT.out; omega
         by_cases hjt : j < 50
         ·have hjI : (j : Int) < 50 := by omega
          have HJT := Lib.hid hjt
          clear hjt hj
          go_wp2_with fail
          go_roundw
          case rel => exact ⟨j + 1, _, by have := HJT.out; omega, rfl, by go_num, by unfold Hid; rw [ByteArray.size_append]; show m.size + 2 ≤ 106 * n + 5 + 2 * (j + 1); have := HM.out; omega, B9.out⟩
          case measure => have := HJT.out; simp [intOf]; omega
         ·have hjI : ¬ (j : Int) < 50 := by omega
          clear hjt hj
          go_wp2_with fail
          go_roundw
          case rel => exact ⟨n + 1, _, by have := HLT.out; omega, rfl, by go_num, by unfold Hid; rw [ByteArray.size_append]; show m.size + 1 ≤ 106 * (n + 1); have := HM.out; have := HJ.out; omega, B9.out⟩
          case measure => have := HLT.out; simp [intOf]; omega
      ·have hltI : ¬ (n : Int) < 41 := by omega
       clear hlt hn HA
       go_wp2_with fail
       go_ret
       exact ⟨rfl, B0.out⟩
theorem S33_size : (⟨#[65, 60, 45, 40, 98, 58, 49, 47, 34, 99, 34, 43, 91, 100, 93, 63, 41, 42, 38, 33, 46, 32, 40, 41, 59, 66, 60, 45, 65, 47, 40, 41, 59]⟩ : ByteArray).size = 33 := rfl
def someA : Array Value := #[.string ⟨#[65]⟩, .string ⟨#[58]⟩, .string ⟨#[49]⟩, .string ⟨#[60, 45]⟩, .string ⟨#[59]⟩, .string ⟨#[47]⟩, .string ⟨#[40]⟩, .string ⟨#[41]⟩, .string ⟨#[42]⟩, .string ⟨#[33]⟩, .string ⟨#[34]⟩, .string ⟨#[91]⟩, .string ⟨#[32]⟩, .string ⟨#[35]⟩, .string ⟨#[34, 120, 34]⟩, .string ⟨#[91, 121, 93]⟩, .string ⟨#[67, 58, 51]⟩]
theorem someA_at (i : Nat) (hi : i < 17) : ∃ h : ByteArray, someA[i]? = some (.string h) ∧ h.size ≤ 3 := by
 have : i = 0 ∨ i = 1 ∨ i = 2 ∨ i = 3 ∨ i = 4 ∨ i = 5 ∨ i = 6 ∨ i = 7 ∨ i = 8 ∨ i = 9 ∨ i = 10 ∨ i = 11 ∨ i = 12 ∨ i = 13 ∨ i = 14 ∨ i = 15 ∨ i = 16 := by omega
 rcases this with rfl | rfl | rfl | rfl | rfl | rfl | rfl | rfl | rfl | rfl | rfl | rfl | rfl | rfl | rfl | rfl | rfl <;> exact ⟨_, rfl, by decide⟩
theorem rends_any (w : World) : Calls Tryz.prog 6 #[] w fun e w' => e = .returned (.bool true) ∧ Below w.heap.size w w' := by
 have HRd := Lib.hid rreads_any
 have HLm := Lib.hid lim_any
 have HAw := Lib.hid rawake_any
 have B0 := Lib.hid ((Below.refl w.heap.size w).alloc (Nat.le_refl _) (.cells #[.string ⟨#[65]⟩, .string ⟨#[58]⟩, .string ⟨#[49]⟩, .string ⟨#[60, 45]⟩, .string ⟨#[59]⟩, .string ⟨#[47]⟩, .string ⟨#[40]⟩, .string ⟨#[41]⟩, .string ⟨#[42]⟩, .string ⟨#[33]⟩, .string ⟨#[34]⟩, .string ⟨#[91]⟩, .string ⟨#[32]⟩, .string ⟨#[35]⟩, .string ⟨#[34, 120, 34]⟩, .string ⟨#[91, 121, 93]⟩, .string ⟨#[67, 58, 51]⟩] 9))
 have R0 := Lib.hid (show hrow (w.alloc (.cells #[.string ⟨#[65]⟩, .string ⟨#[58]⟩, .string ⟨#[49]⟩, .string ⟨#[60, 45]⟩, .string ⟨#[59]⟩, .string ⟨#[47]⟩, .string ⟨#[40]⟩, .string ⟨#[41]⟩, .string ⟨#[42]⟩, .string ⟨#[33]⟩, .string ⟨#[34]⟩, .string ⟨#[91]⟩, .string ⟨#[32]⟩, .string ⟨#[35]⟩, .string ⟨#[34, 120, 34]⟩, .string ⟨#[91, 121, 93]⟩, .string ⟨#[67, 58, 51]⟩] 9)) w.heap.size someA 9 from hrow.new _ _ _)
 go_enter Tryz.func6, Tryz.ntmps6
 go_wp2_with fail
 generalize w.alloc (.cells #[.string ⟨#[65]⟩, .string ⟨#[58]⟩, .string ⟨#[49]⟩, .string ⟨#[60, 45]⟩, .string ⟨#[59]⟩, .string ⟨#[47]⟩, .string ⟨#[40]⟩, .string ⟨#[41]⟩, .string ⟨#[42]⟩, .string ⟨#[33]⟩, .string ⟨#[34]⟩, .string ⟨#[91]⟩, .string ⟨#[32]⟩, .string ⟨#[35]⟩, .string ⟨#[34, 120, 34]⟩, .string ⟨#[91, 121, 93]⟩, .string ⟨#[67, 58, 51]⟩] 9) = w0 at *
 generalize hS : (⟨#[65, 60, 45, 40, 98, 58, 49, 47, 34, 99, 34, 43, 91, 100, 93, 63, 41, 42, 38, 33, 46, 32, 40, 41, 59, 66, 60, 45, 65, 47, 40, 41, 59]⟩ : ByteArray) = S at *
 have hSz : S.size = 33 := by rw [← hS]; rfl
 have HS := Lib.hid hSz
 clear hS
 obtain ⟨gl, hgl⟩ : ∃ g, w.heap.size = g := ⟨_, rfl⟩
 rw [hgl] at R0 ⊢
 clear hgl
 go_loopw [3, 4] (fun v3 _ wr => ∃ i : Nat, i ≤ 34 ∧ v3 = .int .i64 i ∧ Hid (hrow wr gl someA 9) ∧ Hid (Below w.heap.size w wr)) (fun v3 _ _ => 34 - (intOf v3).toNat)
 case atStart => exact ⟨0, by omega, by go_num, R0.out, B0.out⟩
 case round =>
  clear R0 B0
  obtain ⟨i, hi, rfl, R0, B0⟩ := hrel
  by_cases hlt : i ≤ 33
  ·have hltI : (i : Int) ≤ 33 := by omega
   have hltS : (i : Int) ≤ S.size := by omega
   have HLT := Lib.hid hlt
   have hlt0 : (0 : Int) ≤ i := by omega
   have sl1 : ∀ wx, (Instr.slice 9 (.string S) none (some (.int .i64 i)) none).run Tryz.prog wx = .ok (.string (tx (S.data.toList.take i))) wx := to_run 9 Tryz.underlying9 S.data.toList i i rfl (by rw [ba_len]; omega)
   have sl2 : ∀ wx, (Instr.slice 9 (.string S) (some (.int .i64 i)) none none).run Tryz.prog wx = .ok (.string (tx (S.data.toList.drop i))) wx := from_run 9 Tryz.underlying9 S i i rfl (by omega)
   have HPz : Hid ((tx (S.data.toList.take i)).size ≤ 33) := by unfold Hid; rw [tx_size, List.length_take, ba_len]; omega
   have HQz : Hid ((tx (S.data.toList.drop i)).size ≤ 33) := by unfold Hid; rw [tx_size, List.length_drop, ba_len]; omega
   generalize tx (S.data.toList.take i) = P at *
   generalize tx (S.data.toList.drop i) = Q at *
   have HR1 := Lib.hid (HRd.out P wr (by have := HPz.out; omega))
   have HR2 := Lib.hid (fun x => HRd.out Q x (by have := HQz.out; omega))
   clear hlt hi
   go_wp2_with fail
   refine HR1.out.mono ?_
   rintro e x ⟨rfl, hb⟩
   have B1 := Lib.hid (B0.out.trans (hb.mono B0.out.size))
   have R1 := Lib.hid (R0.out.below hb)
   clear hb HR1 B0 R0
   go_wp2_with fail
   refine (HR2.out _).mono ?_
   rintro e y ⟨rfl, hb⟩
   have B2 := Lib.hid (B1.out.trans (hb.mono B1.out.size))
   have R2 := Lib.hid (R1.out.below hb)
   clear hb HR2 B1 R1
   go_wp2_with fail
   go_loopw [4] (fun v4 wq => ∃ j : Nat, j ≤ 17 ∧ v4 = .int .i64 j ∧ Hid (hrow wq gl someA 9) ∧ Hid (Below w.heap.size w wq)) (fun v4 _ => 17 - (intOf v4).toNat)
   case atStart => exact ⟨0, by omega, by go_num, R2.out, B2.out⟩
   case round =>
    clear R2 B2
    obtain ⟨j, hj, rfl, R3, B3⟩ := hrel
    by_cases hjl : j < 17
    ·have hjI : (j : Int) < 17 := by omega
     have hj0 : (0 : Int) ≤ j := by omega
     have HJL := Lib.hid hjl
     obtain ⟨t, ht, htz⟩ := someA_at j hjl
     have HTZ := Lib.hid htz
     have hs0 : ∀ v : Later wr, v.val.cell? ⟨gl, j, none⟩ = some (.string t) := fun v => ((R3.out.below v.ok).cell j).trans ht
     have hc1 : ¬ 9223372036854775807 < P.size + t.size := by have := HPz.out; have := HTZ.out; omega
     have hc2 : ¬ 9223372036854775807 < P.size + t.size + Q.size := by have := HPz.out; have := HTZ.out; have := HQz.out; omega
     have hc3 : ¬ 9223372036854775807 < P.size + 1 := by have := HPz.out; omega
     have hc4 : ¬ 9223372036854775807 < P.size + 1 + t.size := by have := HPz.out; have := HTZ.out; omega
     have hc5 : ¬ 9223372036854775807 < P.size + 1 + t.size + 1 := by have := HPz.out; have := HTZ.out; omega
     have hc6 : ¬ 9223372036854775807 < P.size + 1 + t.size + 1 + Q.size := by have := HPz.out; have := HTZ.out; have := HQz.out; omega
     have HCx : Hid (∀ v : Later wr, Calls Tryz.prog 13 #[.string (P ++ t ++ Q)] v.val fun e w' => e = .returned (.bool true) ∧ ∃ y : Later wr, w' = y.val) := fun v => Calls.later (HRd.out _ _ (by rw [ByteArray.size_append, ByteArray.size_append]; have := HPz.out; have := HTZ.out; have := HQz.out; omega))
     have HCy : Hid (∀ v : Later wr, Calls Tryz.prog 13 #[.string (P ++ ⟨#[32]⟩ ++ t ++ ⟨#[32]⟩ ++ Q)] v.val fun e w' => e = .returned (.bool true) ∧ ∃ y : Later wr, w' = y.val) := fun v => Calls.later (HRd.out _ _ (by rw [ByteArray.size_append, ByteArray.size_append, ByteArray.size_append, ByteArray.size_append]; show P.size + 1 + t.size + 1 + Q.size ≤ 16384; have := HPz.out; have := HTZ.out; have := HQz.out; omega))
     clear hjl hj ht htz
     go_wp2_with fail
     refine wp_region_later (by kernel_rfl) (by kernel_rfl) ?_
     repeat (go_big_quiet_step (first | (go_at_call 13; with_reducible exact HCx.out _) | (go_at_call 13; with_reducible exact HCy.out _)))
     refine wpQuiet_nil ?_
     intro w8 hw8
     obtain ⟨v, rfl⟩ := hw8
     have B4 := Lib.hid (B3.out.trans (v.ok.mono B3.out.size))
     have R4 := Lib.hid (R3.out.below v.ok)
     clear B3 R3 HCx HCy hs0 hc1 hc2 hc3 hc4 hc5 hc6
     generalize v.val = wy at *
     clear v
     go_wp2_with fail
     go_roundw
     case rel => exact ⟨j + 1, by have := HJL.out; omega, by go_num, R4.out, B4.out⟩
     case measure => have := HJL.out; simp [intOf]; omega
    ·have hjI : ¬ (j : Int) < 17 := by omega
     clear hjl hj
     go_wp2_with fail
     go_roundw
     case rel => exact ⟨i + 1, by have := HLT.out; omega, by go_num, R3.out, B3.out⟩
     case measure => have := HLT.out; simp [intOf]; omega
  ·have hltI : ¬ (i : Int) ≤ S.size := by omega
   clear hlt hi
   go_wp2_with fail
   go_loopw [5, 6, 7] (fun v5 v6 v7 wr => ∃ (n : Nat) (a b : ByteArray), n ≤ 503 ∧ v5 = .string a ∧ v6 = .string b ∧ v7 = .int .i64 n ∧ Hid (a.size ≤ n) ∧ Hid (b.size ≤ n) ∧ Hid (Below w.heap.size w wr)) (fun _ _ v7 _ => 503 - (intOf v7).toNat)
   case atStart => exact ⟨0, ⟨#[]⟩, ⟨#[]⟩, by omega, rfl, rfl, by go_num, by unfold Hid; decide, by unfold Hid; decide, B0.out⟩
   case round =>
    clear B0 R0
    obtain ⟨n, a, b, hn, rfl, rfl, rfl, HA, HB, B0⟩ := hrel
    by_cases hlt : n < 503
    ·have hltI : (n : Int) < 503 := by omega
     have HLT := Lib.hid hlt
     have c1 : ¬ 9223372036854775807 < 5 + a.size := by have := HLT.out; have := HA.out; have := HB.out; omega
     have c2 : ¬ 9223372036854775807 < 5 + a.size + 1 := by have := HLT.out; have := HA.out; have := HB.out; omega
     have c3 : ¬ 9223372036854775807 < 5 + a.size + 1 + b.size := by have := HLT.out; have := HA.out; have := HB.out; omega
     have c4 : ¬ 9223372036854775807 < 5 + a.size + 1 + b.size + 1 := by have := HLT.out; have := HA.out; have := HB.out; omega
     have c5 : ¬ 9223372036854775807 < 5 + a.size + 2 := by have := HLT.out; have := HA.out; have := HB.out; omega
     have c6 : ¬ 9223372036854775807 < 5 + a.size + 2 + b.size := by have := HLT.out; have := HA.out; have := HB.out; omega
     have c7 : ¬ 9223372036854775807 < 5 + a.size + 2 + b.size + 1 := by have := HLT.out; have := HA.out; have := HB.out; omega

     have c8 : ¬ 9223372036854775807 < a.size + 1 := by have := HLT.out; have := HA.out; have := HB.out; omega
     have c9 : ¬ 9223372036854775807 < b.size + 1 := by have := HLT.out; have := HA.out; have := HB.out; omega
     by_cases hg : 497 < n
     ·have hgI : (497 : Int) < n := by omega
      clear hlt hn hg
      go_wp2_with fail
      refine (HRd.out _ _ (by simp only [ByteArray.size_append]; show 5 + a.size + 1 + b.size + 1 ≤ 16384; have := HLT.out; have := HA.out; have := HB.out; omega)).mono ?_
      rintro e x1 ⟨rfl, hb⟩
      have B1 := Lib.hid (B0.out.trans (hb.mono B0.out.size))
      clear hb B0
      go_wp2_with fail
      refine (HRd.out _ _ (by simp only [ByteArray.size_append]; show 5 + a.size + 2 + b.size + 1 ≤ 16384; have := HLT.out; have := HA.out; have := HB.out; omega)).mono ?_
      rintro e x2 ⟨rfl, hb⟩
      have B2 := Lib.hid (B1.out.trans (hb.mono B1.out.size))
      clear hb B1
      go_wp2_with fail
      refine (HRd.out _ _ (by simp only [ByteArray.size_append]; show 5 + a.size + 1 ≤ 16384; have := HLT.out; have := HA.out; have := HB.out; omega)).mono ?_
      rintro e x3 ⟨rfl, hb⟩
      have B3 := Lib.hid (B2.out.trans (hb.mono B2.out.size))
      clear hb B2
      go_wp2_with fail
      go_roundw
      case rel => exact ⟨n + 1, _, _, by have := HLT.out; omega, rfl, rfl, by go_num, by unfold Hid; rw [ByteArray.size_append]; show a.size + 1 ≤ n + 1; have := HA.out; omega, by unfold Hid; rw [ByteArray.size_append]; show b.size + 1 ≤ n + 1; have := HB.out; omega, B3.out⟩
      case measure => have := HLT.out; simp [intOf]; omega
     ·have hgI : ¬ (497 : Int) < n := by omega
      clear hlt hn hg
      go_wp2_with fail
      go_roundw
      case rel => exact ⟨n + 1, _, _, by have := HLT.out; omega, rfl, rfl, by go_num, by unfold Hid; rw [ByteArray.size_append]; show a.size + 1 ≤ n + 1; have := HA.out; omega, by unfold Hid; rw [ByteArray.size_append]; show b.size + 1 ≤ n + 1; have := HB.out; omega, B0.out⟩
      case measure => have := HLT.out; simp [intOf]; omega
    ·have hltI : ¬ (n : Int) < 503 := by omega
     clear hlt hn HA HB
     go_wp2_with fail
     refine (HLm.out _).mono ?_
     rintro e x1 ⟨rfl, hb⟩
     have B1 := Lib.hid (B0.out.trans (hb.mono B0.out.size))
     clear hb B0
     go_wp2_with fail
     refine (HAw.out _).mono ?_
     rintro e x2 ⟨rfl, hb⟩
     have B2 := Lib.hid (B1.out.trans (hb.mono B1.out.size))
     clear hb B1
     go_wp2_with fail
     go_ret
     exact ⟨rfl, B2.out⟩
end Go.Proofs.YthfefbmkgebmkaaGreatDoor
