/- Walks and plain laws: Lc Ld. -/
import Derived.Test.YthfefbmkgebmkaaGreatDoorM15
import Derived.Deep.RegionHeld3
namespace Go.Proofs.YthfefbmkgebmkaaGreatDoor
open Go.RowKit
set_option maxRecDepth 100000
set_option maxHeartbeats 8000000

/-- What putting a part does. -/
def PutC (p : Pt) : Prop := ∀ (b gt : Nat) (τ : Nat → Nat) (R : List Rr) (N : List Rn) (w : World), TrW w gt τ R N → PtW w (fun k => τ k = 0) p b → N.length + p.sz ≤ 200000 →
 Calls Tryz.prog 36 #[ptr gt, ptr b] w fun e w' => e = .returned (.tuple #[]) ∧ ∃ τ', TrW w' gt τ' R (N ++ flat N.length p) ∧ Fr (fun k => τ k ≠ 0) w w' ∧ ∀ k, k < w.heap.size → τ' k = τ k
theorem put_walk (k : Nat) (cl : List (UInt8 × UInt8)) (t : List UInt8) (lv : Int) (at0 : Nat) (nm : List UInt8) (ks : List Pt) (IH : ∀ q ∈ ks, PutC q) : PutC (.mk k cl t lv at0 nm ks) := by
 intro b gt τ R N w hT hP hN
 have HP0 := Lib.hid hP
 obtain ⟨ao, cap, bs, hkp⟩ := part_keep hP
 have HKP := Lib.hid hkp
 clear hkp
 obtain ⟨⟨v1, v2, v3, v4, v5, NK, hg, hR, hNK⟩, htg⟩ := hT
 have hl2 : NK.length = N.length := by have := congrArg List.length hNK; simpa using this
 have HI0 : Hid (PuI w gt τ w τ #[v1, v2, v3, v4, v5] v1 v2 v3 v4 v5 (R.map Rr.ru) NK NK (R.map fun r => (r.at_ : Int)) (N.map fun x => (x.at_ : Int)) (N.map fun x => tx x.nm)) := ⟨hg, hR, htg, Fr.refl _ _, fun _ _ => rfl⟩
 have HNK := Lib.hid hNK
 have HNL := Lib.hid hN
 have HTG : Hid (τ gt ≠ 0) := by unfold Hid; omega
 obtain ⟨ao4, c4, e4, hs4⟩ := hR.t5.sv
 obtain ⟨ao2, c2, e2, hs2⟩ := hR.t3.sv
 obtain ⟨ao5, c5, e5, hs5⟩ := hR.t6.sv
 simp only [List.length_map, hl2] at e4 e2 e5
 subst e4 e2 e5
 have g1 := hg.cell 1
 have g3 := hg.cell 3
 have HL2 := Lib.hid hl2
 clear hs4 hs2 hs5 hR hNK hN hP htg hg hl2
 have HK := Lib.hid IH
 clear IH
 unfold ptr
 go_enter Tryz.func36, Tryz.ntmps36
 go_upto_region 1 with (fail)
 clear g1 g3
 -- the node
 obtain ⟨S, hSd⟩ : ∃ S : World → Prop, S = fun z => z.cell? ⟨gt, 1, none⟩ = some (.slice ao2 N.length c2) ∧ (loadVar 41 ⟨b, 0, none⟩).run Tryz.prog z = .ok (.agg #[.int .i64 k, .int .u64 (clsW cl 0), .int .u64 (clsW cl 1), .int .u64 (clsW cl 2), .int .u64 (clsW cl 3), .string (tx t), .int .i64 0, .int .i64 lv, .slice none 0 0]) z := ⟨_, rfl⟩
 have F1 : ∀ z, S z → z.cell? ⟨gt, 1, none⟩ = some (.slice ao2 N.length c2) := fun z h => by rw [hSd] at h; exact h.1
 have F0 : ∀ z, S z → (loadVar 41 ⟨b, 0, none⟩).run Tryz.prog z = .ok (.agg #[.int .i64 k, .int .u64 (clsW cl 0), .int .u64 (clsW cl 1), .int .u64 (clsW cl 2), .int .u64 (clsW cl 3), .string (tx t), .int .i64 0, .int .i64 lv, .slice none 0 0]) z := fun z h => by rw [hSd] at h; exact h.2
 have HS : Hid (∀ z, z.cell? ⟨gt, 1, none⟩ = some (.slice ao2 N.length c2) → (loadVar 41 ⟨b, 0, none⟩).run Tryz.prog z = .ok (.agg #[.int .i64 k, .int .u64 (clsW cl 0), .int .u64 (clsW cl 1), .int .u64 (clsW cl 2), .int .u64 (clsW cl 3), .string (tx t), .int .i64 0, .int .i64 lv, .slice none 0 0]) z → S z) := fun z h1 h2 => by rw [hSd]; exact ⟨h1, h2⟩
 clear hSd
 refine wp_region_noPanic ?_
 refine wp_region_T S [0, 1, 2, 3, 4, 5, 6, 7, 8, 9, 10, 11] 12 4 rfl (by kernel_rfl) ?_
 have HI1 := Lib.hid (HI0.out.below ((Below.refl _ w).drew))
 clear HI0
 generalize w.drew = w1 at HI1 ⊢
 refine wpAnyT_reads (f := 2) [0, 1, 2, 3, 4, 5, 6, 7, 8, 9] (by kernel_rfl) (by kernel_rfl) (HS.out _ (HI1.out.obj.cell 1) (HI1.out.node_ld HP0.out)) (fun _ _ _ _ h => h) ?_
 simp only [pickOps, List.getD_cons_zero, List.getD_cons_succ]
 repeat (first
   | (refine wpRead_load rfl 41 (.tmp 20) rfl ⟨b, 0, none⟩ rfl _ F0 ?_; simp only [Act.put, List.setIfInBounds_toArray, List.set_cons_zero, List.set_cons_succ])
   | (refine wpRead_cons (v := ?_) rfl ?_ ?_; rotate_left; (· (intro z hz; have f1 := F1 z hz; clear hz; go_simp; try with_reducible rfl)); simp only [Act.put, List.setIfInBounds_toArray, List.set_cons_zero, List.set_cons_succ]))
 refine wpRead_nil ?_
 refine wpAnyT_one 10 (by kernel_rfl) (by kernel_rfl) rfl ?_
 simp only [List.getD_cons_zero, List.getD_cons_succ]
 go_wp2_with fail
 have HI2 := Lib.hid (HI1.out.below ((Below.refl _ w1).alloc (Nat.le_refl _) (.cells #[.int .i64 k, .int .u64 (clsW cl 0), .int .u64 (clsW cl 1), .int .u64 (clsW cl 2), .int .u64 (clsW cl 3), .string (tx t), .int .i64 0, .int .i64 lv, .slice none 0 0] 41)))
 refine ⟨HS.out _ (HI2.out.obj.cell 1) (HI2.out.node_ld HP0.out), ?_⟩
 refine wpAnyT_one 11 (by kernel_rfl) (by kernel_rfl) rfl ?_
 simp only [List.getD_cons_zero, List.getD_cons_succ]
 have HSL := Lib.hid (Sv.lit w1 41 #[.int .i64 k, .int .u64 (clsW cl 0), .int .u64 (clsW cl 1), .int .u64 (clsW cl 2), .int .u64 (clsW cl 3), .string (tx t), .int .i64 0, .int .i64 lv, .slice none 0 0] 1 9 (by unfold maxLen; omega) rfl)
 clear HI1
 have HOW := Lib.hid (show _ by have h := HI2.out.tr.t3.1; rw [HL2.out] at h; exact h)
 refine wpList_append_tag _ rfl (.tmp 17) (.tmp 22) 24 41 rfl elNode 0 (.slice ao2 N.length c2) N.length _ rfl HOW.out ⟨w1.heap.size, 0, none⟩ 1 1 _ rfl HSL.out (by simp [Value.oneCell']) (by have := HNL.out; have := HL2.out; omega) (by have := HNL.out; have := HL2.out; unfold maxLen; omega) (Nat.zero_le _) ?_
 intro v2' w3 ho hgr hb
 obtain ⟨a2, d2, rfl, -⟩ := Sv.of_owns ho
 have HI3 := Lib.hid (HI2.out.step hgr HI2.out.tr.t3.2 (by omega) (HI2.out.tr.node (⟨k, clsW cl 0, clsW cl 1, clsW cl 2, clsW cl 3, tx t, 0, lv, []⟩, (none, 0)) (by rw [HL2.out]; exact ho) hgr hb rfl rfl))
 clear HOW HSL HI2 ho hgr hb
 refine ⟨HS.out _ (HI3.out.obj.cell 1) (HI3.out.node_ld HP0.out), ?_⟩
 refine wpAnyT_tail [12, 13, 14, 15] (by kernel_rfl) (by kernel_rfl) (by kernel_rfl) ?_
 simp only [pickOps, List.getD_cons_zero, List.getD_cons_succ]
 clear F0 F1 HS S
 have f1 := HI3.out.obj.frozen 1
 have c1 := HI3.out.obj.cell 1
 go_wp2_with fail
 refine noPanic_normal ?_
 go_upto_region 2 with (fail)
 clear f1 c1
 have HI4 : Hid (PuI w gt τ (w3.setCell ⟨gt, 1, none⟩ (.slice a2 (N.length + 1) d2)) (tagN τ (w1.alloc (.cells #[.int .i64 k, .int .u64 (clsW cl 0), .int .u64 (clsW cl 1), .int .u64 (clsW cl 2), .int .u64 (clsW cl 3), .string (tx t), .int .i64 0, .int .i64 lv, .slice none 0 0] 41)).heap.size w3.heap.size 3) #[v1, .slice a2 (N.length + 1) d2, v3, .slice ao4 N.length c4, .slice ao5 N.length c5] v1 (.slice a2 (N.length + 1) d2) v3 (.slice ao4 N.length c4) (.slice ao5 N.length c5) (R.map Rr.ru)
   (NK ++ [(⟨k, clsW cl 0, clsW cl 1, clsW cl 2, clsW cl 3, tx t, 0, lv, []⟩, (none, 0))]) (NK ++ [(⟨k, clsW cl 0, clsW cl 1, clsW cl 2, clsW cl 3, tx t, 0, lv, []⟩, (none, 0))]) (R.map fun r => (r.at_ : Int)) (N.map fun x => (x.at_ : Int)) (N.map fun x => tx x.nm)) := HI3.out.put HTG.out 1 _
 clear HI3
 revert HI4
 generalize tagN τ (w1.alloc (.cells #[.int .i64 k, .int .u64 (clsW cl 0), .int .u64 (clsW cl 1), .int .u64 (clsW cl 2), .int .u64 (clsW cl 3), .string (tx t), .int .i64 0, .int .i64 lv, .slice none 0 0] 41)).heap.size w3.heap.size 3 = τ1
 generalize w3.setCell ⟨gt, 1, none⟩ (.slice a2 (N.length + 1) d2) = w4
 intro HI4
 go_cut [] from 27 to 52 (fun wx => ∃ (τ2 : Nat → Nat) (a4 : Option Addr) (d4 : Nat) (a5 : Option Addr) (d5 : Nat), Hid (PuI w gt τ wx τ2 #[v1, .slice a2 (N.length + 1) d2, v3, .slice a4 (N.length + 1) d4, .slice a5 (N.length + 1) d5] v1 (.slice a2 (N.length + 1) d2) v3 (.slice a4 (N.length + 1) d4) (.slice a5 (N.length + 1) d5) (R.map Rr.ru)
   (NK ++ [(⟨k, clsW cl 0, clsW cl 1, clsW cl 2, clsW cl 3, tx t, 0, lv, []⟩, (none, 0))]) (NK ++ [(⟨k, clsW cl 0, clsW cl 1, clsW cl 2, clsW cl 3, tx t, 0, lv, []⟩, (none, 0))]) (R.map fun r => (r.at_ : Int)) ((N.map fun x => (x.at_ : Int)) ++ [(at0 : Int)]) ((N.map fun x => tx x.nm) ++ [tx nm])))
 case rest =>
  obtain ⟨τ2, a4, d4, a5, d5, HI5⟩ := hcut
  have HT0 : Hid (TrW wc gt τ2 R (N ++ [⟨k, cl, t, lv, [], at0, nm⟩])) := HI5.out.tree rfl rfl (by simp) (by simp) (by simp [HNK.out, Rn.nd])
  have HF0 := Lib.hid HI5.out.fr
  have HO0 := Lib.hid HI5.out.old
  obtain ⟨hp, hks, hkk⟩ := HKP.out wc HI5.out.fr
  have c11 : wc.cell? ⟨b, 11, none⟩ = some (.slice ao ks.length cap) := hp.cell 11
  have hkb := hks.bound
  clear HI5 HI4 hp hks hkk
  go_wp2_with fail
  clear c11
  go_loopw [58] (fun v wr => ∃ (i : Nat) (τ3 : Nat → Nat), i ≤ ks.length ∧ v = .int .i64 i ∧ Hid (TrW wr gt τ3 R (N ++ [⟨k, cl, t, lv, kidsAt (N.length + 1) (ks.take i), at0, nm⟩] ++ flatL (N.length + 1) (ks.take i))) ∧ Hid (Fr (fun k => τ k ≠ 0) w wr) ∧ Hid (∀ k, k < w.heap.size → τ3 k = τ k)) (fun v _ => ks.length - (intOf v).toNat)
  case atStart => exact ⟨0, τ2, Nat.zero_le _, rfl, by unfold Hid; simpa [kidsAt, flatL] using HT0.out, HF0.out, HO0.out⟩
  case round =>
   obtain ⟨i, τ3, hi, rfl, HT, HF, HO⟩ := hrel
   by_cases hlt : i < ks.length
   ·have hltI : (i : Int) < ks.length := by omega
    obtain ⟨a1, a2, e2, a3, a4, e4, a5, NK3, hl3, hn3, hp3⟩ := HT.out.start HF.out HO.out
    obtain ⟨-, hks, hkk⟩ := HKP.out wr HF.out
    obtain ⟨kb, hkb1, hkb2⟩ := hkk.at i hlt
    obtain ⟨ad, rfl, had⟩ := hks.cell i (by rw [List.length_map, hkk.len]; exact hlt)
    have hbnd := hks.bound
    rw [List.getElem?_map, hkb1] at had
    replace had : wr.cell? (ad.add i) = some (.pointer (some ⟨kb, 0, none⟩)) := had
    have HB1 := Lib.hid hkb1
    clear hkb2
    obtain ⟨n3, hn3e⟩ : ∃ n, n = N.length + 1 + szL (ks.take i) := ⟨_, rfl⟩
    have hml : (N ++ [(⟨k, cl, t, lv, kidsAt (N.length + 1) (ks.take i), at0, nm⟩ : Rn)] ++ flatL (N.length + 1) (ks.take i)).length = n3 := by rw [hn3e]; simp [flatL_len]; omega
    rw [hml] at hp3 hl3
    obtain ⟨g2, rfl⟩ : ∃ g2, a2 = some ⟨g2, 0, none⟩ := by
     rcases hp3.tr.t3.1.2 with ⟨h, h0⟩ | ⟨g, c, cur, h, _⟩
     ·omega
     ·cases h; exact ⟨g, rfl⟩
    have hnx : N.length < n3 := by omega
    have hnxI : (N.length : Int) < n3 := by omega
    have HIB : Hid (i ≤ 200000) := by have h1 := HNL.out; have h2 := len_szL ks; unfold Pt.sz at h1; unfold Hid; omega
    have hnk : N.length < NK3.length := by omega
    have hx1 : NK3[N.length].1 = Rn.nd ⟨k, cl, t, lv, kidsAt (N.length + 1) (ks.take i), at0, nm⟩ := by
     have e := congrArg (fun l => l[N.length]?) hn3
     simp only [List.getElem?_map, List.getElem?_eq_getElem hnk, Option.map_some] at e
     rw [List.getElem?_eq_getElem (by rw [hml]; exact hnx), getL_at] at e
     simpa using e
    have hkl : NK3[N.length].1.kids.length = i := by rw [hx1]; simp [Rn.nd, kidsAt_len]; omega
    have c8 := hp3.kidcell hnk
    rw [hkl] at c8
    obtain ⟨q, hq⟩ : ∃ q, NK3[N.length].2 = q := ⟨_, rfl⟩
    rw [hq] at c8
    have HI6 := Lib.hid hp3
    have HL3 := Lib.hid hl3; have HN3 := Lib.hid hn3; have HN3E := Lib.hid hn3e
    have HX1 := Lib.hid hx1; have HKL := Lib.hid hkl
    have HQ := Lib.hid hq
    clear hks hkk hkb1 hp3 hl3 hn3 HT hml hn3e hx1 hkl hq
    go_upto_region 6 with (fail)
    obtain ⟨S, hSd⟩ : ∃ S : World → Prop, S = fun z => z.cell? ⟨gt, 1, none⟩ = some (.slice (some ⟨g2, 0, none⟩) n3 e2) ∧ z.cell? ⟨gt, 3, none⟩ = some (.slice a4 n3 e4) ∧ z.cell? ⟨g2, N.length * 9 + 8, none⟩ = some (.slice q.1 i q.2) := ⟨_, rfl⟩
    have F1 : ∀ z, S z → z.cell? ⟨gt, 1, none⟩ = some (.slice (some ⟨g2, 0, none⟩) n3 e2) := fun z h => by rw [hSd] at h; exact h.1
    have F2 : ∀ z, S z → z.cell? ⟨gt, 3, none⟩ = some (.slice a4 n3 e4) := fun z h => by rw [hSd] at h; exact h.2.1
    have F3 : ∀ z, S z → z.cell? ⟨g2, N.length * 9 + 8, none⟩ = some (.slice q.1 i q.2) := fun z h => by rw [hSd] at h; exact h.2.2
    have HS : Hid (∀ z, z.cell? ⟨gt, 1, none⟩ = some (.slice (some ⟨g2, 0, none⟩) n3 e2) → z.cell? ⟨gt, 3, none⟩ = some (.slice a4 n3 e4) → z.cell? ⟨g2, N.length * 9 + 8, none⟩ = some (.slice NK3[N.length].2.1 NK3[N.length].1.kids.length NK3[N.length].2.2) → S z) := fun z h1 h2 h3 => by rw [hSd]; rw [HKL.out, HQ.out] at h3; exact ⟨h1, h2, h3⟩
    clear hSd had c8
    refine wp_region_noPanic ?_
    refine wp_region_T S [0, 1, 2, 3, 4, 5, 6, 7, 8, 9, 10, 11, 12, 13, 14, 15, 16, 17, 18, 19, 20, 21] 22 3 rfl (by kernel_rfl) ?_
    have HI7 := Lib.hid (HI6.out.below ((Below.refl _ wr).drew))
    generalize wr.drew = z1 at HI7 ⊢
    refine wpAnyT_reads (f := 2) [0, 1, 2, 3, 4, 5, 6, 7, 8, 9, 10, 11, 12, 13, 14, 15, 16, 17, 18, 19] (by kernel_rfl) (by kernel_rfl) (HS.out _ (HI7.out.obj.cell 1) (HI7.out.obj.cell 3) (HI7.out.kidcell hnk)) (fun _ _ _ _ h => h) ?_
    simp only [pickOps, List.getD_cons_zero, List.getD_cons_succ]
    repeat (first
      | (refine wpRead_cons (v := ?_) rfl ?_ ?_; rotate_left; (· (intro z hz; have f1 := F1 z hz; have f2 := F2 z hz; have f3 := F3 z hz; clear hz; go_simp; try with_reducible rfl)); simp only [Act.put, List.setIfInBounds_toArray, List.set_cons_zero, List.set_cons_succ]))
    refine wpRead_nil ?_
    refine wpAnyT_one 20 (by kernel_rfl) (by kernel_rfl) rfl ?_
    simp only [List.getD_cons_zero, List.getD_cons_succ]
    go_wp2_with fail
    have HI8 := Lib.hid (HI7.out.below ((Below.refl _ z1).alloc (Nat.le_refl _) (.cells #[.int .i64 n3] 3)))
    refine ⟨HS.out _ (HI8.out.obj.cell 1) (HI8.out.obj.cell 3) (HI8.out.kidcell hnk), ?_⟩
    refine wpAnyT_one 21 (by kernel_rfl) (by kernel_rfl) rfl ?_
    simp only [List.getD_cons_zero, List.getD_cons_succ]
    have HSL := Lib.hid (Sv.lit z1 3 #[.int .i64 n3] 1 1 (by unfold maxLen; omega) rfl)
    clear HI7
    have HOW := Lib.hid (HI8.out.tr.kid N.length hnk)
    have HOW2 := Lib.hid (show _ by have h := HOW.out.1; rw [HKL.out, HQ.out] at h; exact h)
    refine wpList_append_tag _ rfl (.tmp 76) (.tmp 82) 27 3 rfl elIntS 0 (.slice q.1 i q.2) i _ rfl HOW2.out ⟨z1.heap.size, 0, none⟩ 1 1 _ rfl HSL.out (by simp [Value.oneCell']) (by have := HIB.out; omega) (by have := HIB.out; unfold maxLen; omega) (Nat.zero_le _) ?_
    intro v' z3 ho hgr hb
    obtain ⟨qa, qd, rfl, -⟩ := Sv.of_owns ho
    have HK1 := Lib.hid (HI8.out.tr.kd hnk (n3 : Int) (qa, qd) (by rw [HKL.out]; exact ho) (by rw [HKL.out, HQ.out]; exact hgr) (by rw [HKL.out, HQ.out]; exact hb))
    have HI9 := Lib.hid (HI8.out.step hgr (by have h := HOW.out.2; rw [HKL.out, HQ.out] at h; exact h) (by omega) HK1.out)
    clear HSL HOW HOW2 HK1 ho hgr hb
    have HI9 := HI9
    refine ⟨HS.out _ (HI9.out.obj.cell 1) (HI9.out.obj.cell 3) (HI9.out.kidcell hnk), ?_⟩
    refine wpAnyT_tail [22, 23, 24] (by kernel_rfl) (by kernel_rfl) (by kernel_rfl) ?_
    simp only [pickOps, List.getD_cons_zero, List.getD_cons_succ]
    have fk := owns_frozen (by have h := HI9.out.tr.t3.1; rw [HL3.out] at h; exact h) (N.length * 9 + 8)
    clear F1 F2 F3 HS S
    have c8 := HI9.out.kidcell hnk
    rw [HKL.out, HQ.out] at c8
    go_wp2_with fail
    refine noPanic_normal ?_
    have HI10 := Lib.hid (HI9.out.lay HL3.out hnk (n3 : Int) (qa, qd))
    rw [HKL.out] at HI10
    clear HI9 HI8 HI6 fk c8
    revert HI10
    generalize tagN τ3 (z1.alloc (.cells #[.int .i64 n3] 3)).heap.size z3.heap.size (7 + N.length) = τ4
    generalize z3.setCell ⟨g2, N.length * 9 + 8, none⟩ (.slice (qa, qd).1 (i + 1) (qa, qd).2) = z4
    intro HI10
    have HT2 : Hid (TrW z4 gt τ4 R (N ++ [⟨k, cl, t, lv, kidsAt (N.length + 1) (ks.take (i + 1)), at0, nm⟩] ++ flatL (N.length + 1) (ks.take i))) := by
     refine HI10.out.tree rfl rfl (by simp) (by simp) ?_
     have hm := setL_at (N.map Rn.nd) ((flatL (N.length + 1) (ks.take i)).map Rn.nd) (Rn.nd ⟨k, cl, t, lv, kidsAt (N.length + 1) (ks.take i), at0, nm⟩) (Rn.nd ⟨k, cl, t, lv, kidsAt (N.length + 1) (ks.take (i + 1)), at0, nm⟩)
     rw [List.length_map] at hm
     have hk2 : (kidP NK3[N.length] (n3 : Int) (qa, qd)).1 = Rn.nd ⟨k, cl, t, lv, kidsAt (N.length + 1) (ks.take (i + 1)), at0, nm⟩ := by
      unfold kidP
      rw [HX1.out, kidsAt_next hlt, HN3E.out]
      simp [Rn.nd]
     rw [List.map_set, HN3.out, hk2, List.map_append, List.map_append, List.map_append, List.map_append]
     exact hm
    have HPK : Hid (PtW z4 (fun k => τ4 k = 0) ks[i] kb) := by
     obtain ⟨-, -, hkk⟩ := HKP.out z4 HI10.out.fr
     obtain ⟨kb', e1, e2⟩ := hkk.at i hlt
     rw [HB1.out] at e1
     cases e1
     exact PtW.fr (Fr.refl (fun _ => False) z4) (fun _ _ => id) (fun k hk => (HI10.out.old k hk.2).trans hk.1) _ _ e2
    have HN4 : Hid ((N ++ [(⟨k, cl, t, lv, kidsAt (N.length + 1) (ks.take (i + 1)), at0, nm⟩ : Rn)] ++ flatL (N.length + 1) (ks.take i)).length = N.length + 1 + szL (ks.take i)) := by unfold Hid; simp [flatL_len]; omega
    have HX := Lib.hid (HK.out ks[i] (List.getElem_mem hlt) kb gt τ4 R _ z4 HT2.out HPK.out (by rw [HN4.out]; have h1 := HNL.out; unfold Pt.sz at h1; have h2 := szL_take ks i hlt; omega))
    have HFX := Lib.hid HI10.out.fr
    have HOX := Lib.hid HI10.out.old
    clear HI10 HT2 HPK HN3 HN3E HX1 HKL HQ HL3
    unfold ptr at HX
    go_wp2_with fail
    refine HX.out.mono ?_
    rintro e z5 ⟨rfl, τ5, hT5, hf5, ho5⟩
    have HT5 : Hid (TrW z5 gt τ5 R (N ++ [⟨k, cl, t, lv, kidsAt (N.length + 1) (ks.take (i + 1)), at0, nm⟩] ++ flatL (N.length + 1) (ks.take (i + 1)))) := by
     unfold Hid
     rw [flatL_next hlt, ← List.append_assoc]
     rw [HN4.out] at hT5
     exact hT5
    have HF5 := Lib.hid (HFX.out.trans hf5 (fun k hk e => by have := HOX.out k hk; omega))
    have HO5 : Hid (∀ k, k < w.heap.size → τ5 k = τ k) := fun k hk => (ho5 k (Nat.lt_of_lt_of_le hk HFX.out.size)).trans (HOX.out k hk)
    clear hT5 hf5 ho5 HX HFX HOX HN4
    go_wp2_with fail
    go_roundw
    case rel => exact ⟨i + 1, τ5, by omega, by go_num, HT5.out, HF5.out, HO5.out⟩
    case measure => simp [intOf]; omega
   ·obtain rfl : i = ks.length := by omega
    clear hlt
    go_wp2_with fail
    go_end0
    rw [List.take_of_length_le (Nat.le_refl _)] at HT
    exact ⟨rfl, τ3, by simpa [flat] using HT.out, HF.out, HO.out⟩
 case first =>
  obtain ⟨S, hSd⟩ : ∃ S : World → Prop, S = fun z => z.cell? ⟨gt, 3, none⟩ = some (.slice ao4 N.length c4) ∧ z.cell? ⟨gt, 4, none⟩ = some (.slice ao5 N.length c5) ∧ z.cell? ⟨b, 9, none⟩ = some (.int .i64 at0) ∧ z.cell? ⟨b, 10, none⟩ = some (.string (tx nm)) := ⟨_, rfl⟩
  have F1 : ∀ z, S z → z.cell? ⟨gt, 3, none⟩ = some (.slice ao4 N.length c4) := fun z h => by rw [hSd] at h; exact h.1
  have F2 : ∀ z, S z → z.cell? ⟨gt, 4, none⟩ = some (.slice ao5 N.length c5) := fun z h => by rw [hSd] at h; exact h.2.1
  have F3 : ∀ z, S z → z.cell? ⟨b, 9, none⟩ = some (.int .i64 at0) := fun z h => by rw [hSd] at h; exact h.2.2.1
  have F4 : ∀ z, S z → z.cell? ⟨b, 10, none⟩ = some (.string (tx nm)) := fun z h => by rw [hSd] at h; exact h.2.2.2
  have HS : Hid (∀ z, z.cell? ⟨gt, 3, none⟩ = some (.slice ao4 N.length c4) → z.cell? ⟨gt, 4, none⟩ = some (.slice ao5 N.length c5) → (∃ ao cap, hrow z b (ptC k cl t lv at0 nm ao ks.length cap) 135) → S z) := fun z h1 h2 ⟨ao, cap, h3⟩ => by rw [hSd]; exact ⟨h1, h2, h3.cell 9, h3.cell 10⟩
  clear hSd
  refine wp_region_noPanic ?_
  refine wp_region_T1 (v := .pointer (some ⟨gt, 0, none⟩)) S [0, 1, 2, 3, 4, 5, 6, 7, 8, 9, 10, 11, 12, 13, 14, 15, 16, 17, 18, 19, 20, 21] 1 21 6 rfl (by kernel_rfl) rfl (by kernel_rfl) (by kernel_rfl) (by kernel_rfl) (fun _ _ _ _ h => h) (.inl ⟨rfl, fun _ => rfl⟩) ?_
  simp only [List.getD_cons_zero, List.getD_cons_succ, Act.put, List.setIfInBounds_toArray, List.set_cons_zero, List.set_cons_succ]
  have HJ1 := Lib.hid (HI4.out.below ((Below.refl _ w4).drew))
  clear HI4
  generalize w4.drew = y1 at HJ1 ⊢
  refine wpAnyT_reads (f := 4) [0, 2, 3, 4, 5, 6, 7, 8, 9, 12, 13, 14, 15, 16, 17, 18, 19] (by kernel_rfl) (by kernel_rfl) (HS.out _ (HJ1.out.obj.cell 3) (HJ1.out.obj.cell 4) (by obtain ⟨ao, cap, bs, h, _⟩ := HJ1.out.cells HP0.out; exact ⟨ao, cap, h⟩)) (fun _ _ _ _ h => h) ?_
  simp only [pickOps, List.getD_cons_zero, List.getD_cons_succ]
  repeat (first
    | (refine wpRead_cons (v := ?_) rfl ?_ ?_; rotate_left; (· (intro z hz; have f1 := F1 z hz; have f2 := F2 z hz; have f3 := F3 z hz; have f4 := F4 z hz; clear hz; go_simp; try with_reducible rfl)); simp only [Act.put, List.setIfInBounds_toArray, List.set_cons_zero, List.set_cons_succ]))
  refine wpRead_nil ?_
  clear F1 F2 F3 F4
  refine wpAnyT_two 10 20 (by kernel_rfl) (by kernel_rfl) (by kernel_rfl) rfl rfl ?_ ?_
  ·simp only [List.getD_cons_zero, List.getD_cons_succ]
   go_wp2_with fail
   have hbA := (Below.refl _ y1).alloc (Nat.le_refl _) (.cells #[.int .i64 at0] 3)
   have HJ2 := Lib.hid (HJ1.out.below hbA)
   have HSA := Lib.hid (Sv.lit y1 3 #[.int .i64 at0] 1 1 (by unfold maxLen; omega) rfl)
   have HTA := Lib.hid (HJ1.out.tr.new _ (Nat.le_refl _))
   have HLA : Hid (y1.heap.size < (y1.alloc (.cells #[.int .i64 at0] 3)).heap.size) := by unfold Hid; rw [World.size_alloc]; omega
   clear hbA HJ1
   revert HJ2 HSA HTA HLA
   generalize y1.alloc (.cells #[.int .i64 at0] 3) = y2
   generalize y1.heap.size = gA
   intro HJ2 HSA HTA HLA
   refine ⟨(HS.out _ (HJ2.out.obj.cell 3) (HJ2.out.obj.cell 4) (by obtain ⟨ao, cap, bs, h, _⟩ := HJ2.out.cells HP0.out; exact ⟨ao, cap, h⟩)), ?_⟩
   refine wpAnyT_two 11 20 (by kernel_rfl) (by kernel_rfl) (by kernel_rfl) rfl rfl ?_ ?_
   ·simp only [List.getD_cons_zero, List.getD_cons_succ]
    have HOW := Lib.hid (show _ by have h := HJ2.out.tr.t5.1; rw [List.length_map] at h; exact h)
    refine wpList_append_tag _ rfl (.tmp 32) (.tmp 37) 27 3 rfl elIntS 0 (.slice ao4 N.length c4) N.length _ rfl HOW.out ⟨gA, 0, none⟩ 1 1 _ rfl HSA.out (by simp [Value.oneCell']) (by have := HNL.out; omega) (by have := HNL.out; unfold maxLen; omega) (Nat.zero_le _) ?_
    intro v' y3 ho hgr hb
    obtain ⟨aA, dA, rfl, -⟩ := Sv.of_owns ho
    have HJ3 := Lib.hid (HJ2.out.step hgr HJ2.out.tr.t5.2 (by omega) (HJ2.out.tr.na (at0 : Int) (by rw [List.length_map]; exact ho) hgr hb))
    clear HOW ho hgr hb HSA HTA HLA HJ2
    refine ⟨(HS.out _ (HJ3.out.obj.cell 3) (HJ3.out.obj.cell 4) (by obtain ⟨ao, cap, bs, h, _⟩ := HJ3.out.cells HP0.out; exact ⟨ao, cap, h⟩)), ?_⟩
    refine wpAnyT_one 20 (by kernel_rfl) (by kernel_rfl) rfl ?_
    simp only [List.getD_cons_zero, List.getD_cons_succ]
    go_wp2_with fail
    have hbB := (Below.refl _ y3).alloc (Nat.le_refl _) (.cells #[.string (tx nm)] 9)
    have HJ4 := Lib.hid (HJ3.out.below hbB)
    have HSB := Lib.hid (Sv.lit y3 9 #[.string (tx nm)] 1 1 (by unfold maxLen; omega) rfl)
    have HTB := Lib.hid (HJ3.out.tr.new _ (Nat.le_refl _))
    have HLB : Hid (y3.heap.size < (y3.alloc (.cells #[.string (tx nm)] 9)).heap.size) := by unfold Hid; rw [World.size_alloc]; omega
    clear hbB HJ3
    revert HJ4 HSB HTB HLB
    generalize y3.alloc (.cells #[.string (tx nm)] 9) = y4
    generalize y3.heap.size = gB
    intro HJ4 HSB HTB HLB
    refine ⟨(HS.out _ (HJ4.out.obj.cell 3) (HJ4.out.obj.cell 4) (by obtain ⟨ao, cap, bs, h, _⟩ := HJ4.out.cells HP0.out; exact ⟨ao, cap, h⟩)), ?_⟩
    refine wpAnyT_one 21 (by kernel_rfl) (by kernel_rfl) rfl ?_
    simp only [List.getD_cons_zero, List.getD_cons_succ]
    have HOW := Lib.hid (show _ by have h := HJ4.out.tr.t6.1; rw [List.length_map] at h; exact h)
    refine wpList_append_tag _ rfl (.tmp 42) (.tmp 47) 28 9 rfl elStrS 0 (.slice ao5 N.length c5) N.length _ rfl HOW.out ⟨gB, 0, none⟩ 1 1 _ rfl HSB.out (by simp [Value.oneCell']) (by have := HNL.out; omega) (by have := HNL.out; unfold maxLen; omega) (Nat.zero_le _) ?_
    intro v' y5 ho hgr hb
    obtain ⟨aB, dB, rfl, -⟩ := Sv.of_owns ho
    have HJ5 := Lib.hid (HJ4.out.step hgr HJ4.out.tr.t6.2 (by omega) (HJ4.out.tr.nm (tx nm) (by rw [List.length_map]; exact ho) hgr hb))
    clear HOW ho hgr hb HSB HTB HLB HJ4
    refine ⟨(HS.out _ (HJ5.out.obj.cell 3) (HJ5.out.obj.cell 4) (by obtain ⟨ao, cap, bs, h, _⟩ := HJ5.out.cells HP0.out; exact ⟨ao, cap, h⟩)), ?_⟩
    refine wpAnyT_tail [22, 23, 24, 25, 26, 27] (by kernel_rfl) (by kernel_rfl) (by kernel_rfl) ?_
    simp only [pickOps, List.getD_cons_zero, List.getD_cons_succ]
    have f3 := HJ5.out.obj.frozen 3
    have f4 := HJ5.out.obj.frozen 4
    have c3 := HJ5.out.obj.cell 3
    have c4 := HJ5.out.obj.cell 4
    go_wp2_with fail
    refine noPanic_normal ?_
    go_wp2_with fail
    go_meet
    exact ⟨_, _, _, _, _, (HJ5.out.put HTG.out 3 _).put HTG.out 4 _⟩
   ·simp only [List.getD_cons_zero, List.getD_cons_succ]
    go_wp2_with fail
    have hbB := (Below.refl _ y2).alloc (Nat.le_refl _) (.cells #[.string (tx nm)] 9)
    have HJ3 := Lib.hid (HJ2.out.below hbB)
    have HSB := Lib.hid (Sv.lit y2 9 #[.string (tx nm)] 1 1 (by unfold maxLen; omega) rfl)
    have HTB := Lib.hid (HJ2.out.tr.new _ (Nat.le_refl _))
    have HLB : Hid (y2.heap.size < (y2.alloc (.cells #[.string (tx nm)] 9)).heap.size) := by unfold Hid; rw [World.size_alloc]; omega
    have HSA := Lib.hid (HSA.out.below hbB)
    have HLA := Lib.hid (Nat.lt_of_lt_of_le HLA.out hbB.size)
    clear hbB HJ2
    revert HJ3 HSB HTB HLB HSA HLA
    generalize y2.alloc (.cells #[.string (tx nm)] 9) = y3
    generalize y2.heap.size = gB
    intro HJ3 HSB HTB HLB HSA HLA
    refine ⟨(HS.out _ (HJ3.out.obj.cell 3) (HJ3.out.obj.cell 4) (by obtain ⟨ao, cap, bs, h, _⟩ := HJ3.out.cells HP0.out; exact ⟨ao, cap, h⟩)), ?_⟩
    refine wpAnyT_one 11 (by kernel_rfl) (by kernel_rfl) rfl ?_
    simp only [List.getD_cons_zero, List.getD_cons_succ]
    have HOW := Lib.hid (show _ by have h := HJ3.out.tr.t5.1; rw [List.length_map] at h; exact h)
    refine wpList_append_tag _ rfl (.tmp 32) (.tmp 37) 27 3 rfl elIntS 0 (.slice ao4 N.length c4) N.length _ rfl HOW.out ⟨gA, 0, none⟩ 1 1 _ rfl HSA.out (by simp [Value.oneCell']) (by have := HNL.out; omega) (by have := HNL.out; unfold maxLen; omega) (Nat.zero_le _) ?_
    intro v' y4 ho hgr hb
    obtain ⟨aA, dA, rfl, -⟩ := Sv.of_owns ho
    have HJ4 := Lib.hid (HJ3.out.step hgr HJ3.out.tr.t5.2 (by omega) (HJ3.out.tr.na (at0 : Int) (by rw [List.length_map]; exact ho) hgr hb))
    have HSB := Lib.hid (HSB.out.fr (Fr.grown hgr) (fun a ha _ e => by cases ha; have h1 := HJ3.out.tr.t5.2 _ e; have h2 := HTB.out; exact absurd (h1.symm.trans h2) (by decide)))
    have HTB := Lib.hid ((tagN_old (τ := _) (m' := y4.heap.size) (g := 5) HLB.out).trans HTB.out)
    have HLB := Lib.hid (Nat.lt_of_lt_of_le HLB.out hgr.size)
    clear HOW ho hgr hb HSA HTA HLA HJ3
    refine ⟨(HS.out _ (HJ4.out.obj.cell 3) (HJ4.out.obj.cell 4) (by obtain ⟨ao, cap, bs, h, _⟩ := HJ4.out.cells HP0.out; exact ⟨ao, cap, h⟩)), ?_⟩
    refine wpAnyT_one 21 (by kernel_rfl) (by kernel_rfl) rfl ?_
    simp only [List.getD_cons_zero, List.getD_cons_succ]
    have HOW := Lib.hid (show _ by have h := HJ4.out.tr.t6.1; rw [List.length_map] at h; exact h)
    refine wpList_append_tag _ rfl (.tmp 42) (.tmp 47) 28 9 rfl elStrS 0 (.slice ao5 N.length c5) N.length _ rfl HOW.out ⟨gB, 0, none⟩ 1 1 _ rfl HSB.out (by simp [Value.oneCell']) (by have := HNL.out; omega) (by have := HNL.out; unfold maxLen; omega) (Nat.zero_le _) ?_
    intro v' y5 ho hgr hb
    obtain ⟨aB, dB, rfl, -⟩ := Sv.of_owns ho
    have HJ5 := Lib.hid (HJ4.out.step hgr HJ4.out.tr.t6.2 (by omega) (HJ4.out.tr.nm (tx nm) (by rw [List.length_map]; exact ho) hgr hb))
    clear HOW ho hgr hb HSB HTB HLB HJ4
    refine ⟨(HS.out _ (HJ5.out.obj.cell 3) (HJ5.out.obj.cell 4) (by obtain ⟨ao, cap, bs, h, _⟩ := HJ5.out.cells HP0.out; exact ⟨ao, cap, h⟩)), ?_⟩
    refine wpAnyT_tail [22, 23, 24, 25, 26, 27] (by kernel_rfl) (by kernel_rfl) (by kernel_rfl) ?_
    simp only [pickOps, List.getD_cons_zero, List.getD_cons_succ]
    have f3 := HJ5.out.obj.frozen 3
    have f4 := HJ5.out.obj.frozen 4
    have c3 := HJ5.out.obj.cell 3
    have c4 := HJ5.out.obj.cell 4
    go_wp2_with fail
    refine noPanic_normal ?_
    go_wp2_with fail
    go_meet
    exact ⟨_, _, _, _, _, (HJ5.out.put HTG.out 3 _).put HTG.out 4 _⟩
  ·simp only [List.getD_cons_zero, List.getD_cons_succ]
   go_wp2_with fail
   have hbB := (Below.refl _ y1).alloc (Nat.le_refl _) (.cells #[.string (tx nm)] 9)
   have HJ2 := Lib.hid (HJ1.out.below hbB)
   have HSB := Lib.hid (Sv.lit y1 9 #[.string (tx nm)] 1 1 (by unfold maxLen; omega) rfl)
   have HTB := Lib.hid (HJ1.out.tr.new _ (Nat.le_refl _))
   have HLB : Hid (y1.heap.size < (y1.alloc (.cells #[.string (tx nm)] 9)).heap.size) := by unfold Hid; rw [World.size_alloc]; omega
   clear hbB HJ1
   revert HJ2 HSB HTB HLB
   generalize y1.alloc (.cells #[.string (tx nm)] 9) = y2
   generalize y1.heap.size = gB
   intro HJ2 HSB HTB HLB
   refine ⟨(HS.out _ (HJ2.out.obj.cell 3) (HJ2.out.obj.cell 4) (by obtain ⟨ao, cap, bs, h, _⟩ := HJ2.out.cells HP0.out; exact ⟨ao, cap, h⟩)), ?_⟩
   refine wpAnyT_one 10 (by kernel_rfl) (by kernel_rfl) rfl ?_
   simp only [List.getD_cons_zero, List.getD_cons_succ]
   go_wp2_with fail
   have hbA := (Below.refl _ y2).alloc (Nat.le_refl _) (.cells #[.int .i64 at0] 3)
   have HJ3 := Lib.hid (HJ2.out.below hbA)
   have HSA := Lib.hid (Sv.lit y2 3 #[.int .i64 at0] 1 1 (by unfold maxLen; omega) rfl)
   have HTA := Lib.hid (HJ2.out.tr.new _ (Nat.le_refl _))
   have HLA : Hid (y2.heap.size < (y2.alloc (.cells #[.int .i64 at0] 3)).heap.size) := by unfold Hid; rw [World.size_alloc]; omega
   have HSB := Lib.hid (HSB.out.below hbA)
   have HLB := Lib.hid (Nat.lt_of_lt_of_le HLB.out hbA.size)
   clear hbA HJ2
   revert HJ3 HSA HTA HLA HSB HLB
   generalize y2.alloc (.cells #[.int .i64 at0] 3) = y3
   generalize y2.heap.size = gA
   intro HJ3 HSA HTA HLA HSB HLB
   refine ⟨(HS.out _ (HJ3.out.obj.cell 3) (HJ3.out.obj.cell 4) (by obtain ⟨ao, cap, bs, h, _⟩ := HJ3.out.cells HP0.out; exact ⟨ao, cap, h⟩)), ?_⟩
   refine wpAnyT_one 11 (by kernel_rfl) (by kernel_rfl) rfl ?_
   simp only [List.getD_cons_zero, List.getD_cons_succ]
   have HOW := Lib.hid (show _ by have h := HJ3.out.tr.t5.1; rw [List.length_map] at h; exact h)
   refine wpList_append_tag _ rfl (.tmp 32) (.tmp 37) 27 3 rfl elIntS 0 (.slice ao4 N.length c4) N.length _ rfl HOW.out ⟨gA, 0, none⟩ 1 1 _ rfl HSA.out (by simp [Value.oneCell']) (by have := HNL.out; omega) (by have := HNL.out; unfold maxLen; omega) (Nat.zero_le _) ?_
   intro v' y4 ho hgr hb
   obtain ⟨aA, dA, rfl, -⟩ := Sv.of_owns ho
   have HJ4 := Lib.hid (HJ3.out.step hgr HJ3.out.tr.t5.2 (by omega) (HJ3.out.tr.na (at0 : Int) (by rw [List.length_map]; exact ho) hgr hb))
   have HSB := Lib.hid (HSB.out.fr (Fr.grown hgr) (fun a ha _ e => by cases ha; have h1 := HJ3.out.tr.t5.2 _ e; have h2 := HTB.out; exact absurd (h1.symm.trans h2) (by decide)))
   have HTB := Lib.hid ((tagN_old (τ := _) (m' := y4.heap.size) (g := 5) HLB.out).trans HTB.out)
   have HLB := Lib.hid (Nat.lt_of_lt_of_le HLB.out hgr.size)
   clear HOW ho hgr hb HSA HTA HLA HJ3
   refine ⟨(HS.out _ (HJ4.out.obj.cell 3) (HJ4.out.obj.cell 4) (by obtain ⟨ao, cap, bs, h, _⟩ := HJ4.out.cells HP0.out; exact ⟨ao, cap, h⟩)), ?_⟩
   refine wpAnyT_one 21 (by kernel_rfl) (by kernel_rfl) rfl ?_
   simp only [List.getD_cons_zero, List.getD_cons_succ]
   have HOW := Lib.hid (show _ by have h := HJ4.out.tr.t6.1; rw [List.length_map] at h; exact h)
   refine wpList_append_tag _ rfl (.tmp 42) (.tmp 47) 28 9 rfl elStrS 0 (.slice ao5 N.length c5) N.length _ rfl HOW.out ⟨gB, 0, none⟩ 1 1 _ rfl HSB.out (by simp [Value.oneCell']) (by have := HNL.out; omega) (by have := HNL.out; unfold maxLen; omega) (Nat.zero_le _) ?_
   intro v' y5 ho hgr hb
   obtain ⟨aB, dB, rfl, -⟩ := Sv.of_owns ho
   have HJ5 := Lib.hid (HJ4.out.step hgr HJ4.out.tr.t6.2 (by omega) (HJ4.out.tr.nm (tx nm) (by rw [List.length_map]; exact ho) hgr hb))
   clear HOW ho hgr hb HSB HTB HLB HJ4
   refine ⟨(HS.out _ (HJ5.out.obj.cell 3) (HJ5.out.obj.cell 4) (by obtain ⟨ao, cap, bs, h, _⟩ := HJ5.out.cells HP0.out; exact ⟨ao, cap, h⟩)), ?_⟩
   refine wpAnyT_tail [22, 23, 24, 25, 26, 27] (by kernel_rfl) (by kernel_rfl) (by kernel_rfl) ?_
   simp only [pickOps, List.getD_cons_zero, List.getD_cons_succ]
   have f3 := HJ5.out.obj.frozen 3
   have f4 := HJ5.out.obj.frozen 4
   have c3 := HJ5.out.obj.cell 3
   have c4 := HJ5.out.obj.cell 4
   go_wp2_with fail
   refine noPanic_normal ?_
   go_wp2_with fail
   go_meet
   exact ⟨_, _, _, _, _, (HJ5.out.put HTG.out 3 _).put HTG.out 4 _⟩
end Go.Proofs.YthfefbmkgebmkaaGreatDoor
namespace Go.Proofs.YthfefbmkgebmkaaGreatDoor
open Go.RowKit
set_option maxRecDepth 100000
set_option maxHeartbeats 8000000

theorem put_size : ∀ (m : Nat) (p : Pt), p.sz ≤ m → PutC p
 | 0, p, h => by have := sz_pos p; omega
 | m + 1, .mk k cl t lv a nm ks, h => put_walk k cl t lv a nm ks (fun q hq => put_size m q (by
   obtain ⟨i, hi, rfl⟩ := List.mem_iff_getElem.1 hq
   have := szL_take ks i hi
   unfold Pt.sz at h; omega))
theorem putT_any (p : Pt) : PutC p := put_size p.sz p (Nat.le_refl _)
theorem treeF_snoc : ∀ (n : Nat) (l : List (Wd × Pt)) (w : Wd) (p : Pt), treeF n (l ++ [(w, p)]) = ((treeF n l).1 ++ [⟨w.tx, n + (treeF n l).2.length, w.at_⟩], (treeF n l).2 ++ flat (n + (treeF n l).2.length) p)
 | n, [], w, p => by simp [treeF]
 | n, (v, q) :: l, w, p => by
  have ih := treeF_snoc (n + q.sz) l w p
  have hl := flat_len n q
  show treeF n ((v, q) :: (l ++ [(w, p)])) = _
  simp only [treeF, ih, List.length_append, hl, List.cons_append, List.append_assoc]
  rw [show n + q.sz + (treeF (n + q.sz) l).2.length = n + (q.sz + (treeF (n + q.sz) l).2.length) by omega]
/-- The reader lies apart from the tree's blocks. -/
def Ap (τ : Nat → Nat) (gr gt : Nat) : Prop := gt < gr ∧ ∀ k, k ≤ gr → k ≠ gt → τ k = 0
theorem RdW.frT {L : List Wd} {B gr i gt : Nat} {d : Int} {τ : Nat → Nat} {w w' : World} {a b c e f : Option Addr} {n1 n2 n3 n4 n5 c1 c2 c3 c4 c5 : Nat} (h : RdW L B gr i d w) (hf : Fr (fun k => τ k ≠ 0) w w') (hA : Ap τ gr gt) (hg : hrow w gt #[.slice a n1 c1, .slice b n2 c2, .slice c n3 c3, .slice e n4 c4, .slice f n5 c5] 30) (hL : 0 < L.length) : RdW L B gr i d w' := by
 obtain ⟨⟨ao, cap, h1, h2, h3⟩, h4, h5⟩ := h
 refine ⟨⟨ao, cap, h1.fr hf (fun e => e (hA.2 gr (Nat.le_refl _) (Nat.ne_of_gt hA.1))), h2.fr hf (fun x hx _ e0 => ?_), h3⟩, h4, Nat.le_trans h5 hf.size⟩
 by_cases hxg : x.block = gt
 ·obtain ⟨x', ex, hc⟩ := h2.at wdD_len (by decide) 0 hL
  rw [hx] at ex; cases ex
  have hc0 := hc 0 (.int .i64 L[0].kind) rfl
  have e1 : ((x.add (0 * 9)).add 0).block = gt := by rw [add_block, add_block]; exact hxg
  have e2 : w.cell? ((x.add (0 * 9)).add 0) = some (.int .i64 L[0].kind) := hc0
  unfold World.cell? at e2
  rw [e1, hg.h] at e2
  generalize ((x.add (0 * 9)).add 0).off = o at e2
  match o with
  | 0 => simp at e2
  | 1 => simp at e2
  | 2 => simp at e2
  | 3 => simp at e2
  | 4 => simp at e2
  | o + 5 => simp at e2
 ·exact e0 (hA.2 x.block (Nat.le_of_lt (h3 x hx)) hxg)
theorem TrW.slices {w : World} {gt : Nat} {τ : Nat → Nat} {R : List Rr} {N : List Rn} (h : TrW w gt τ R N) : ∃ (a b c e f : Option Addr) (n1 n2 n3 n4 n5 c1 c2 c3 c4 c5 : Nat), hrow w gt #[.slice a n1 c1, .slice b n2 c2, .slice c n3 c3, .slice e n4 c4, .slice f n5 c5] 30 := by
 obtain ⟨⟨v1, v2, v3, v4, v5, NK, h1, h2, _⟩, _⟩ := h
 obtain ⟨a, c1, rfl, _⟩ := h2.t2.sv
 obtain ⟨b, c2, rfl, _⟩ := h2.t3.sv
 obtain ⟨c, c3, rfl, _⟩ := h2.t4.sv
 obtain ⟨e, c4, rfl, _⟩ := h2.t5.sv
 obtain ⟨f, c5, rfl, _⟩ := h2.t6.sv
 exact ⟨a, b, c, e, f, _, _, _, _, _, c1, c2, c3, c4, c5, h1⟩
theorem TrW.start2 {wr : World} {gt : Nat} {τ : Nat → Nat} {R0 : List Rr} {N0 : List Rn} (h : TrW wr gt τ R0 N0) :
  ∃ (o1 o2 o3 o4 o5 : Option Addr) (c1 c2 c3 c4 c5 : Nat) (NK : List Nk), NK.length = N0.length ∧ NK.map (·.1) = N0.map Rn.nd ∧
   PuI wr gt τ wr τ #[.slice o1 R0.length c1, .slice o2 N0.length c2, .slice o3 R0.length c3, .slice o4 N0.length c4, .slice o5 N0.length c5] (.slice o1 R0.length c1) (.slice o2 N0.length c2) (.slice o3 R0.length c3) (.slice o4 N0.length c4) (.slice o5 N0.length c5) (R0.map Rr.ru) NK NK (R0.map fun r => (r.at_ : Int)) (N0.map fun x => (x.at_ : Int)) (N0.map fun x => tx x.nm) := by
 obtain ⟨⟨v1, v2, v3, v4, v5, NK, hg, hR, hNK⟩, htg⟩ := h
 have hl2 : NK.length = N0.length := by have := congrArg List.length hNK; simpa using this
 obtain ⟨o1, c1, e1, _⟩ := hR.t2.sv
 obtain ⟨o2, c2, e2, _⟩ := hR.t3.sv
 obtain ⟨o3, c3, e3, _⟩ := hR.t4.sv
 obtain ⟨o4, c4, e4, _⟩ := hR.t5.sv
 obtain ⟨o5, c5, e5, _⟩ := hR.t6.sv
 simp only [List.length_map, hl2] at e1 e2 e3 e4 e5
 subst e1 e2 e3 e4 e5
 exact ⟨o1, o2, o3, o4, o5, c1, c2, c3, c4, c5, NK, hl2, hNK, hg, hR, htg, Fr.refl _ _, fun _ _ => rfl⟩
/-- What reading a rule does. -/
def RulP (L : List Wd) (gr gt : Nat) (τ : Nat → Nat) (R : List Rr) (N : List Rn) (r : Rs (Wd × Pt)) (w : World) (e : Ending) (w' : World) : Prop := match r with
 | .ok x j => e = .returned (.tuple #[]) ∧ ∃ τ', TrW w' gt τ' (R ++ [⟨x.1.tx, N.length, x.1.at_⟩]) (N ++ flat N.length x.2) ∧ RdW L (gr + 1) gr j (0 : Nat) w' ∧ Fr (fun k => k = gr ∨ τ k ≠ 0) w w' ∧ ∀ k, k < w.heap.size → τ' k = τ k
 | .err c a => e = badE c a ∧ Fr (fun k => k = gr) w w'
theorem rule_walk (L : List Wd) (gr gt f i : Nat) (τ : Nat → Nat) (R : List Rr) (N : List Rn) (w : World) (r : Rs (Wd × Pt)) (hW : WsOk L) (hL : L.length ≤ 20000) (hr : rulP L f i = some r) (hrd : RdW L (gr + 1) gr i (0 : Nat) w) (hi : i < L.length) (hT : TrW w gt τ R N) (hA : Ap τ gr gt) (hN : ∀ x j, r = .ok x j → N.length + x.2.sz ≤ 200000) (hR : R.length ≤ 200000) :
  Calls Tryz.prog 16 #[ptr gr, ptr gt] w fun e w' => RulP L gr gt τ R N r w e w' := by
 have hwd := word_any2 L (gr + 1) gr i (0 : Nat) w hrd hi
 have HWD := Lib.hid hwd
 have HRD := Lib.hid hrd; have HT := Lib.hid hT; have HA := Lib.hid hA; have HN := Lib.hid hN; have HRR := Lib.hid hR; have HW := Lib.hid hW; have HL := Lib.hid hL; have HI := Lib.hid hi
 clear hwd hrd hT hA hN hR hW hL
 unfold rulP at hr
 simp only [] at hr
 obtain ⟨wd, hwde⟩ : ∃ wd, wdAt L i = wd := ⟨_, rfl⟩
 rw [hwde] at hr HWD
 have HWDE := Lib.hid hwde
 clear hwde
 unfold wdD wdA ptr at HWD
 unfold ptr
 by_cases hk : wd.kind ≠ 2 ∨ 0 ≤ wd.lv
 ·rw [if_pos hk] at hr
  simp only [Option.some.injEq] at hr
  subst hr
  by_cases hk2 : wd.kind = 2
  ·have hlv2 : (0 : Int) ≤ wd.lv := by
    rcases hk with h | h
    ·exact absurd hk2 h
    ·exact h
   have hkI : (wd.kind : Int) = 2 := by omega
   clear hk hk2
   have HFA := Lib.hid (fun x (hx : Below w.heap.size w x) => fail_any L (gr + 1) gr i (0 : Nat) x (HRD.out.below hx) HI.out 7)
   clear HRD HT HA HN HRR HW HL
   unfold ptr at HFA
   go_enter Tryz.func16, Tryz.ntmps16
   go_wp2_with fail
   refine HWD.out.mono ?_
   rintro e x1 ⟨rfl, hb1⟩
   have HB1 := Lib.hid hb1
   clear hb1 HWD
   go_upto_region 2 with (fail)
   have hb2 := HB1.out.alloc HB1.out.size (.cells #[.int .i64 2, .int .i64 wd.at_, .int .i64 wd.nx, .string (tx wd.tx), .int .i64 wd.lv, .int .u64 (clsW wd.cl 0), .int .u64 (clsW wd.cl 1), .int .u64 (clsW wd.cl 2), .int .u64 (clsW wd.cl 3)] 44)
   have HFB := Lib.hid (HFA.out _ hb2)
   have HB2 := Lib.hid hb2
   clear hb2 HFA HB1
   revert HFB HB2
   generalize x1.alloc (.cells #[.int .i64 2, .int .i64 wd.at_, .int .i64 wd.nx, .string (tx wd.tx), .int .i64 wd.lv, .int .u64 (clsW wd.cl 0), .int .u64 (clsW wd.cl 1), .int .u64 (clsW wd.cl 2), .int .u64 (clsW wd.cl 3)] 44) = x2
   intro HFB HB2
   go_wp2_with fail
   refine HFB.out.mono ?_
   rintro e x3 ⟨rfl, hb3⟩
   rw [HWDE.out]
   have HB3 := Lib.hid (HB2.out.trans (hb3.mono HB2.out.size))
   clear hb3 HFB HB2
   unfold badE
   go_wp2_with fail
   exact ⟨rfl, rfl, Fr.of_below HB3.out⟩
  ·have hkI : ¬ (wd.kind : Int) = 2 := by omega
   clear hk hk2
   have HFA := Lib.hid (fun x (hx : Below w.heap.size w x) => fail_any L (gr + 1) gr i (0 : Nat) x (HRD.out.below hx) HI.out 7)
   clear HRD HT HA HN HRR HW HL
   unfold ptr at HFA
   go_enter Tryz.func16, Tryz.ntmps16
   go_wp2_with fail
   refine HWD.out.mono ?_
   rintro e x1 ⟨rfl, hb1⟩
   have HB1 := Lib.hid hb1
   clear hb1 HWD
   go_upto_region 2 with (fail)
   have hb2 := HB1.out.alloc HB1.out.size (.cells #[.int .i64 wd.kind, .int .i64 wd.at_, .int .i64 wd.nx, .string (tx wd.tx), .int .i64 wd.lv, .int .u64 (clsW wd.cl 0), .int .u64 (clsW wd.cl 1), .int .u64 (clsW wd.cl 2), .int .u64 (clsW wd.cl 3)] 44)
   have HFB := Lib.hid (HFA.out _ hb2)
   have HB2 := Lib.hid hb2
   clear hb2 HFA HB1
   revert HFB HB2
   generalize x1.alloc (.cells #[.int .i64 wd.kind, .int .i64 wd.at_, .int .i64 wd.nx, .string (tx wd.tx), .int .i64 wd.lv, .int .u64 (clsW wd.cl 0), .int .u64 (clsW wd.cl 1), .int .u64 (clsW wd.cl 2), .int .u64 (clsW wd.cl 3)] 44) = x2
   intro HFB HB2
   go_wp2_with fail
   refine HFB.out.mono ?_
   rintro e x3 ⟨rfl, hb3⟩
   rw [HWDE.out]
   have HB3 := Lib.hid (HB2.out.trans (hb3.mono HB2.out.size))
   clear hb3 HFB HB2
   unfold badE
   go_wp2_with fail
   exact ⟨rfl, rfl, Fr.of_below HB3.out⟩
 ·rw [if_neg hk] at hr
  have hk2 : wd.kind = 2 := by
   rcases Nat.decEq wd.kind 2 with h1 | h1
   ·exact absurd (.inl h1) hk
   ·exact h1
  have hlv : wd.lv < 0 := by
   rcases Int.lt_or_le wd.lv 0 with h1 | h1
   ·exact h1
   ·exact absurd (.inr h1) hk
  have hkI : (wd.kind : Int) = 2 := by omega
  have hlv2 : ¬ (0 : Int) ≤ wd.lv := by omega
  clear hk hk2 hlv
  go_enter Tryz.func16, Tryz.ntmps16
  go_wp2_with fail
  refine HWD.out.mono ?_
  rintro e x1 ⟨rfl, hb1⟩
  have HB1 := Lib.hid hb1
  clear hb1 HWD
  go_upto_region 3 with (fail)
  have hb2 := HB1.out.alloc HB1.out.size (.cells #[.int .i64 2, .int .i64 wd.at_, .int .i64 wd.nx, .string (tx wd.tx), .int .i64 wd.lv, .int .u64 (clsW wd.cl 0), .int .u64 (clsW wd.cl 1), .int .u64 (clsW wd.cl 2), .int .u64 (clsW wd.cl 3)] 44)
  have HG2 := Lib.hid (hrow.new x1 #[.int .i64 2, .int .i64 wd.at_, .int .i64 wd.nx, .string (tx wd.tx), .int .i64 wd.lv, .int .u64 (clsW wd.cl 0), .int .u64 (clsW wd.cl 1), .int .u64 (clsW wd.cl 2), .int .u64 (clsW wd.cl 3)] 44)
  have HB2 := Lib.hid hb2
  have HGE : Hid (w.heap.size ≤ x1.heap.size) := HB1.out.size
  clear HB1 hb2
  revert HG2 HB2 HGE
  generalize x1.alloc (.cells #[.int .i64 2, .int .i64 wd.at_, .int .i64 wd.nx, .string (tx wd.tx), .int .i64 wd.lv, .int .u64 (clsW wd.cl 0), .int .u64 (clsW wd.cl 1), .int .u64 (clsW wd.cl 2), .int .u64 (clsW wd.cl 3)] 44) = x2
  generalize x1.heap.size = g4
  intro HG2 HB2 HGE
  have HGL : Hid (gr < w.heap.size) := Nat.lt_of_lt_of_le HRD.out.lt HRD.out.le
  have hi1 : i + 1 < L.length := HW.out.next HI.out (by rw [HWDE.out]; omega)
  have HI1 := Lib.hid hi1
  have HT2 := Lib.hid (take_any L (gr + 1) gr i (0 : Nat) x2 (HRD.out.below HB2.out) HI.out (by have := HL.out; omega))
  clear hi1 hi
  unfold ptr at HT2
  go_wp2_with fail
  refine HT2.out.mono ?_
  rintro e x3 ⟨rfl, hr3, hf3⟩
  have HF3 := Lib.hid ((Fr.of_below (F := fun k => k = gr) HB2.out).trans hf3 (fun _ _ h => h))
  have HG3 := Lib.hid (HG2.out.fr hf3 (fun e => by have h1 := HGE.out; have h2 := HGL.out; have e' : g4 = gr := e; omega))
  have HW3 := Lib.hid (want_any L (gr + 1) gr (i + 1) (0 : Nat) x3 hr3 HI1.out (by have := HL.out; omega) [60, 45])
  clear hr3 hf3 HT2 HG2 HB2 hkI hlv2
  unfold ptr at HW3
  go_wp2_with fail
  refine HW3.out.mono ?_
  unfold WantP
  cases hh : hereW L (i + 1) [60, 45] with
  | false =>
   rw [hh, if_neg Bool.false_ne_true] at hr
   simp only [Option.some.injEq] at hr
   subst hr
   simp only [Bool.false_eq_true, if_false]
   rintro e x4 ⟨rfl, hf4⟩
   have HF4 := Lib.hid (HF3.out.trans hf4 (fun _ _ h => h))
   clear hf4 HW3 HF3 hh HG3
   unfold badE
   go_wp2_with fail
   exact ⟨rfl, rfl, HF4.out⟩
  | true =>
   rw [hh, if_pos rfl] at hr
   simp only [if_true]
   have hi2 := HW.out.after HI1.out hh
   rintro e x4 ⟨rfl, hr4, hf4⟩
   have HF4 := Lib.hid (HF3.out.trans hf4 (fun _ _ h => h))
   have HG4 := Lib.hid (HG3.out.fr hf4 (fun e => by have h1 := HGE.out; have h2 := HGL.out; have e' : g4 = gr := e; omega))
   cases hq : prs L f .alt [] (i + 2) 0 with
   | none => rw [hq] at hr; cases hr
   | some ra =>
    rw [hq] at hr
    have HX := Lib.hid (alt_all L gr HW.out (by have := HL.out; omega) f x4.heap.size (i + 2) 0 x4 ra hq (hr4.base (Nat.lt_of_lt_of_le HGL.out HF4.out.size) (Nat.le_refl _)) hi2 (by omega))
    have HBD := Lib.hid (fun p j (h : ra = .ok p j) => prs_bd HW.out f .alt [] (i + 2) 0 p j hi2 (by rw [hq, h]))
    clear hr4 hf4 HW3 HF3 hh HG3 hq hi2
    unfold ptr at HX
    cases ra with
    | err c a =>
     simp only [Option.some.injEq] at hr
     subst hr
     go_wp2_with fail
     refine HX.out.mono ?_
     rintro e x5 ⟨rfl, hf5⟩
     have HF5 := Lib.hid (HF4.out.trans hf5 (fun _ _ h => h))
     clear hf5 HX HF4 HG4
     unfold badE
     go_wp2_with fail
     exact ⟨rfl, rfl, HF5.out⟩
    | ok p j =>
     simp only [] at hr
     have HHR := Lib.hid hr
     clear hr
     go_wp2_with fail
     refine HX.out.mono ?_
     rintro e x5 ⟨b, rfl, hp5, hr5, hf5⟩
     have HF5 := Lib.hid (HF4.out.trans hf5 (fun _ _ h => h))
     have HG5 := Lib.hid (HG4.out.fr hf5 (fun e => by have h1 := HGE.out; have h2 := HGL.out; have e' : g4 = gr := e; omega))
     have HP5 := Lib.hid (PtW.bound _ _ hp5)
     have HLE := Lib.hid HF4.out.size
     have HW5 := Lib.hid (want_any L (gr + 1) gr j (0 : Nat) x5 (hr5.base (Nat.lt_succ_self gr) (by have h1 := HF5.out.size; have h2 := HGL.out; omega)) (HBD.out p j rfl).1 (by have := HL.out; omega) [59])
     clear hp5 hr5 hf5 HX HF4 HG4
     unfold ptr at HW5 ⊢
     go_wp2_with fail
     refine HW5.out.mono ?_
     unfold WantP
     cases hh : hereW L j [59] with
     | false =>
      have HR := HHR.out
      rw [hh, if_neg Bool.false_ne_true, Option.some.injEq] at HR
      subst HR
      simp only [Bool.false_eq_true, if_false]
      rintro e x6 ⟨rfl, hf6⟩
      have HF6 := Lib.hid (HF5.out.trans hf6 (fun _ _ h => h))
      clear hf6 HW5 HF5 hh HG5 HHR
      unfold badE
      go_wp2_with fail
      exact ⟨rfl, rfl, HF6.out⟩
     | true =>
      have HR := HHR.out
      rw [hh, if_pos rfl, Option.some.injEq] at HR
      subst HR
      simp only [if_true]
      rintro e x6 ⟨rfl, hr6, hf6⟩
      have HF6 := Lib.hid (HF5.out.trans hf6 (fun _ _ h => h))
      have HG6 := Lib.hid (HG5.out.fr hf6 (fun e => by have h1 := HGE.out; have h2 := HGL.out; have e' : g4 = gr := e; omega))
      have HNEW : Hid (∀ k, w.heap.size ≤ k → τ k = 0) := by obtain ⟨⟨v1, v2, v3, v4, v5, NK, h1, h2, h3⟩, h4⟩ := HT.out; exact h2.new
      have HP6 := Lib.hid (PtW.fr (H := fun k => τ k = 0) hf6 (fun k hk e => by have h1 := hk.1; have h2 := HGL.out; have h3 := HLE.out; have e' : k = gr := e; omega) (fun k hk => HNEW.out k (Nat.le_trans HLE.out hk.1)) _ _ HP5.out)
      have HR6 := Lib.hid hr6
      have HT6 := Lib.hid (HT.out.fr HF6.out (fun k _ h1 h2 => by have e' : k = gr := h2; subst e'; exact h1 (HA.out.2 _ (Nat.le_refl _) (Nat.ne_of_gt HA.out.1))))
      have HTAG : Hid (τ g4 = 0) := HNEW.out g4 HGE.out
      clear hr6 hf6 HW5 HF5 hh HG5 HHR HP5 HNEW HT
      obtain ⟨o1, o2, o3, o4, o5, c1, c2, c3, c4, c5, NK, hl2, hnk, hI⟩ := HT6.out.start2
      have HNK := Lib.hid hnk
      have HI6 := Lib.hid hI
      have HL2 := Lib.hid hl2
      clear hnk hI HT6 hl2
      go_upto_region 7 with (fail)
      have HGX : Hid (∀ x, Fr (fun k => τ k ≠ 0) x6 x → hrow x g4 #[.int .i64 2, .int .i64 wd.at_, .int .i64 wd.nx, .string (tx wd.tx), .int .i64 wd.lv, .int .u64 (clsW wd.cl 0), .int .u64 (clsW wd.cl 1), .int .u64 (clsW wd.cl 2), .int .u64 (clsW wd.cl 3)] 44) := fun x hx => HG6.out.fr hx (fun e => e HTAG.out)
      obtain ⟨S, hSd⟩ : ∃ S : World → Prop, S = fun z => z.cell? ⟨gt, 0, none⟩ = some (.slice o1 R.length c1) ∧ z.cell? ⟨g4, 3, none⟩ = some (.string (tx wd.tx)) ∧ z.cell? ⟨gt, 3, none⟩ = some (.slice o4 N.length c4) := ⟨_, rfl⟩
      have F1 : ∀ z, S z → z.cell? ⟨gt, 0, none⟩ = some (.slice o1 R.length c1) := fun z h => by rw [hSd] at h; exact h.1
      have F2 : ∀ z, S z → z.cell? ⟨g4, 3, none⟩ = some (.string (tx wd.tx)) := fun z h => by rw [hSd] at h; exact h.2.1
      have F3 : ∀ z, S z → z.cell? ⟨gt, 3, none⟩ = some (.slice o4 N.length c4) := fun z h => by rw [hSd] at h; exact h.2.2
      have HS : Hid (∀ z, z.cell? ⟨gt, 0, none⟩ = some (.slice o1 R.length c1) → z.cell? ⟨gt, 3, none⟩ = some (.slice o4 N.length c4) → Fr (fun k => τ k ≠ 0) x6 z → S z) := fun z h1 h2 h3 => by rw [hSd]; exact ⟨h1, (HGX.out z h3).cell 3, h2⟩
      clear hSd
      refine wp_region_noPanic ?_
      refine wp_region_T S [0, 1, 2, 3, 4, 5, 6, 7, 8, 9, 10, 11, 12, 13, 14, 15] 16 4 rfl (by kernel_rfl) ?_
      have HI7 := Lib.hid (HI6.out.below ((Below.refl _ x6).drew))
      have HHG := Lib.hid HI6.out.obj
      clear HI6
      generalize x6.drew = z1 at HI7 ⊢
      refine wpAnyT_reads (f := 2) [0, 1, 2, 3, 4, 5, 6, 7, 8, 9, 10, 11, 12, 13] (by kernel_rfl) (by kernel_rfl) (HS.out _ (HI7.out.obj.cell 0) (HI7.out.obj.cell 3) HI7.out.fr) (fun _ _ _ _ h => h) ?_
      simp only [pickOps, List.getD_cons_zero, List.getD_cons_succ]
      repeat (first
        | (refine wpRead_cons (v := ?_) rfl ?_ ?_; rotate_left; (· (intro z hz; have f1 := F1 z hz; have f2 := F2 z hz; have f3 := F3 z hz; clear hz; go_simp; try with_reducible rfl)); simp only [Act.put, List.setIfInBounds_toArray, List.set_cons_zero, List.set_cons_succ]))
      refine wpRead_nil ?_
      refine wpAnyT_one 14 (by kernel_rfl) (by kernel_rfl) rfl ?_
      simp only [List.getD_cons_zero, List.getD_cons_succ]
      go_wp2_with fail
      have HI8 := Lib.hid (HI7.out.below ((Below.refl _ z1).alloc (Nat.le_refl _) (.cells #[.string (tx wd.tx), .int .i64 N.length] 48)))
      refine ⟨HS.out _ (HI8.out.obj.cell 0) (HI8.out.obj.cell 3) HI8.out.fr, ?_⟩
      refine wpAnyT_one 15 (by kernel_rfl) (by kernel_rfl) rfl ?_
      simp only [List.getD_cons_zero, List.getD_cons_succ]
      have HSL := Lib.hid (Sv.lit z1 48 #[.string (tx wd.tx), .int .i64 N.length] 1 2 (by unfold maxLen; omega) rfl)
      clear HI7
      have HOW := Lib.hid (show _ by have h := HI8.out.tr.t2.1; rw [List.length_map] at h; exact h)
      refine wpList_append_tag _ rfl (.tmp 35) (.tmp 44) 23 48 rfl elRule 0 (.slice o1 R.length c1) R.length _ rfl HOW.out ⟨z1.heap.size, 0, none⟩ 1 1 _ rfl HSL.out (by simp [Value.oneCell']) (by have := HRR.out; omega) (by have := HRR.out; unfold maxLen; omega) (Nat.zero_le _) ?_
      intro v' z3 ho hgr hb
      obtain ⟨p1, q1, rfl, -⟩ := Sv.of_owns ho
      have HI9 := Lib.hid (HI8.out.step hgr HI8.out.tr.t2.2 (by omega) (HI8.out.tr.rule (Rr.ru ⟨wd.tx, N.length, wd.at_⟩) (by rw [List.length_map]; exact ho) hgr hb))
      clear HSL HOW ho hgr hb HI8
      refine ⟨HS.out _ (HI9.out.obj.cell 0) (HI9.out.obj.cell 3) HI9.out.fr, ?_⟩
      refine wpAnyT_tail [16, 17, 18, 19] (by kernel_rfl) (by kernel_rfl) (by kernel_rfl) ?_
      simp only [pickOps, List.getD_cons_zero, List.getD_cons_succ]
      clear F1 F2 F3 HS S
      have f0 := HI9.out.obj.frozen 0
      have c0 := HI9.out.obj.cell 0
      go_wp2_with fail
      refine noPanic_normal ?_
      clear f0 c0
      have HI10 := Lib.hid (HI9.out.put (by have h1 := HI9.out.tg; have h2 := HI9.out.old gt HHG.out.lt; omega) 0 (.slice p1 (R.length + 1) q1))
      clear HI9
      revert HI10
      generalize tagN τ (z1.alloc (.cells #[.string (tx wd.tx), .int .i64 N.length] 48)).heap.size z3.heap.size 2 = τ1
      generalize z3.setCell ⟨gt, 0, none⟩ (.slice p1 (R.length + 1) q1) = z4
      intro HI10
      go_upto_region 8 with (fail)
      obtain ⟨S, hSd⟩ : ∃ S : World → Prop, S = fun z => z.cell? ⟨gt, 2, none⟩ = some (.slice o3 R.length c3) ∧ z.cell? ⟨g4, 1, none⟩ = some (.int .i64 wd.at_) := ⟨_, rfl⟩
      have F1 : ∀ z, S z → z.cell? ⟨gt, 2, none⟩ = some (.slice o3 R.length c3) := fun z h => by rw [hSd] at h; exact h.1
      have F2 : ∀ z, S z → z.cell? ⟨g4, 1, none⟩ = some (.int .i64 wd.at_) := fun z h => by rw [hSd] at h; exact h.2
      have HS : Hid (∀ z, z.cell? ⟨gt, 2, none⟩ = some (.slice o3 R.length c3) → Fr (fun k => τ k ≠ 0) x6 z → S z) := fun z h1 h3 => by rw [hSd]; exact ⟨h1, (HGX.out z h3).cell 1⟩
      clear hSd
      refine wp_region_noPanic ?_
      refine wp_region_T S [0, 1, 2, 3, 4, 5, 6, 7, 8] 9 3 rfl (by kernel_rfl) ?_
      have HJ1 := Lib.hid (HI10.out.below ((Below.refl _ z4).drew))
      clear HI10
      generalize z4.drew = y1 at HJ1 ⊢
      refine wpAnyT_reads (f := 2) [0, 1, 2, 3, 4, 5, 6] (by kernel_rfl) (by kernel_rfl) (HS.out _ (HJ1.out.obj.cell 2) HJ1.out.fr) (fun _ _ _ _ h => h) ?_
      simp only [pickOps, List.getD_cons_zero, List.getD_cons_succ]
      repeat (first
        | (refine wpRead_cons (v := ?_) rfl ?_ ?_; rotate_left; (· (intro z hz; have f1 := F1 z hz; have f2 := F2 z hz; clear hz; go_simp; try with_reducible rfl)); simp only [Act.put, List.setIfInBounds_toArray, List.set_cons_zero, List.set_cons_succ]))
      refine wpRead_nil ?_
      refine wpAnyT_one 7 (by kernel_rfl) (by kernel_rfl) rfl ?_
      simp only [List.getD_cons_zero, List.getD_cons_succ]
      go_wp2_with fail
      have HJ2 := Lib.hid (HJ1.out.below ((Below.refl _ y1).alloc (Nat.le_refl _) (.cells #[.int .i64 wd.at_] 3)))
      refine ⟨HS.out _ (HJ2.out.obj.cell 2) HJ2.out.fr, ?_⟩
      refine wpAnyT_one 8 (by kernel_rfl) (by kernel_rfl) rfl ?_
      simp only [List.getD_cons_zero, List.getD_cons_succ]
      have HSL := Lib.hid (Sv.lit y1 3 #[.int .i64 wd.at_] 1 1 (by unfold maxLen; omega) rfl)
      clear HJ1
      have HOW := Lib.hid (show _ by have h := HJ2.out.tr.t4.1; rw [List.length_map] at h; exact h)
      refine wpList_append_tag _ rfl (.tmp 53) (.tmp 56) 27 3 rfl elIntS 0 (.slice o3 R.length c3) R.length _ rfl HOW.out ⟨y1.heap.size, 0, none⟩ 1 1 _ rfl HSL.out (by simp [Value.oneCell']) (by have := HRR.out; omega) (by have := HRR.out; unfold maxLen; omega) (Nat.zero_le _) ?_
      intro v' y3 ho hgr hb
      obtain ⟨p3, q3, rfl, -⟩ := Sv.of_owns ho
      have HJ3 := Lib.hid (HJ2.out.step hgr HJ2.out.tr.t4.2 (by omega) (HJ2.out.tr.ra (wd.at_ : Int) (by rw [List.length_map]; exact ho) hgr hb))
      clear HSL HOW ho hgr hb HJ2
      refine ⟨HS.out _ (HJ3.out.obj.cell 2) HJ3.out.fr, ?_⟩
      refine wpAnyT_tail [9, 10, 11] (by kernel_rfl) (by kernel_rfl) (by kernel_rfl) ?_
      simp only [pickOps, List.getD_cons_zero, List.getD_cons_succ]
      clear F1 F2 HS S
      have f2 := HJ3.out.obj.frozen 2
      have c2' := HJ3.out.obj.cell 2
      go_wp2_with fail
      refine noPanic_normal ?_
      clear f2 c2'
      have HJ4 := Lib.hid (HJ3.out.put (by have h1 := HJ3.out.tg; have h2 := HJ3.out.old gt HHG.out.lt; omega) 2 (.slice p3 (R.length + 1) q3))
      clear HJ3
      revert HJ4
      generalize tagN τ1 (y1.alloc (.cells #[.int .i64 wd.at_] 3)).heap.size y3.heap.size 4 = τ2
      generalize y3.setCell ⟨gt, 2, none⟩ (.slice p3 (R.length + 1) q3) = y4
      intro HJ4
      have HT4 : Hid (TrW y4 gt τ2 (R ++ [⟨wd.tx, N.length, wd.at_⟩]) N) := HJ4.out.tree (by simp) (by simp) rfl rfl HNK.out
      have HP7 := Lib.hid (HJ4.out.part (F := fun k => τ2 k = 0) HP6.out (fun k hk h0 => (HJ4.out.old k hk).trans h0))
      have HPT := Lib.hid (putT_any p b gt τ2 _ N y4 HT4.out HP7.out (HN.out _ _ rfl))
      have HF7 := Lib.hid HJ4.out.fr
      have HO7 := Lib.hid HJ4.out.old
      clear HJ4 HT4 HP7 HP6
      unfold ptr at HPT
      go_wp2_with fail
      refine HPT.out.mono ?_
      rintro e y5 ⟨rfl, τ3, hT5, hf5, ho5⟩
      have HT5 := Lib.hid hT5
      have HF8 := Lib.hid (HF7.out.trans hf5 (fun k hk e => by have := HO7.out k hk; omega))
      have HO8 : Hid (∀ k, k < w.heap.size → τ3 k = τ k) := fun k hk => (ho5 k (Nat.lt_of_lt_of_le hk (Nat.le_trans HF6.out.size HF7.out.size))).trans (HO7.out k (Nat.lt_of_lt_of_le hk HF6.out.size))
      clear hT5 hf5 ho5 HPT HF7 HO7
      go_wp2_with fail
      go_end0
      refine ⟨rfl, τ3, HT5.out, HR6.out.frT HF8.out HA.out HHG.out (Nat.lt_of_le_of_lt (Nat.zero_le i) HI.out), ?_, HO8.out⟩
      exact (HF6.out.weak (G := fun k => k = gr ∨ τ k ≠ 0) (fun _ e => .inl e)).trans HF8.out (fun _ _ e => .inr e)
end Go.Proofs.YthfefbmkgebmkaaGreatDoor
