/- Walks and plain laws: Yg. -/
import Derived.Test.YtgjhepblpdnkcaaGreatDoorM24
import Derived.BigQuiet
import Derived.Deep.DeepCutAuto
namespace Go.Proofs.YtgjhepblpdnkcaaGreatDoor
open Go.RowKit
set_option maxRecDepth 100000
set_option maxHeartbeats 8000000

theorem pick_below (w : World) (x n : Int) (h1 : 1 ≤ n) (hn : n ≤ 1000000) : Calls Tryz.prog 13 #[.int .i64 x, .int .i64 n] w fun r w' => r = .returned (.int .i64 (x % n)) ∧ Below w.heap.size w w' :=
 (pick_any w x n h1 hn).mono (by rintro e w' ⟨rfl, rfl⟩; exact ⟨rfl, Below.refl _ _⟩)
theorem rec_rise (G : Gr) (k : Int) : (recL G k).Pairwise (· < ·) := by
 unfold recL
 split
 ·exact lisF_rise _ _
 ·exact List.Pairwise.nil
theorem nreach_any (w : World) (ro : Option Addr) (rc : Nat) (no : Option Addr) (nc : Nat) (NK : List Nk) (G : Gr) (hG : GrW w ro G.rules.length rc no NK.length nc NK G) (hr : G.rules.length ≤ 140737488355328) (hn : NK.length ≤ 140737488355328) (hkb : ∀ p ∈ NK, p.1.kids.length ≤ 140737488355328) (a b : Int) :
  Calls Tryz.prog 7 #[grv ro G.rules.length rc no NK.length nc, .int .i64 a, .int .i64 b] w fun e w' => e = .returned (.bool true) ∧ Below w.heap.size w w' := by
 obtain ⟨g, hg⟩ : ∃ g, w.heap.size = g := ⟨_, rfl⟩
 obtain ⟨z, hz⟩ : ∃ z, w.alloc (.cells #[.slice ro G.rules.length rc, .slice no NK.length nc] 25) = z := ⟨_, rfl⟩
 have zb := (Below.refl _ w).alloc (Nat.le_refl _) (.cells #[.slice ro G.rules.length rc, .slice no NK.length nc] 25)
 have z1 := hrow.new w #[.slice ro G.rules.length rc, .slice no NK.length nc] 25
 rw [hz] at zb z1
 rw [hg] at z1
 have HZ := Lib.hid hz; have HG := Lib.hid hg; have H1 := Lib.hid z1; have HB := Lib.hid zb; have HGR := Lib.hid (hG.below zb)
 clear hz hg z1 zb
 unfold grv
 have HSZ := Lib.hid (fun v (h : GrW v ro G.rules.length rc no NK.length nc NK G) => lsize_any v ro no G.rules.length rc NK.length nc NK G h hr hn hkb)
 obtain ⟨rn, hrn⟩ : ∃ n, G.rules.length = n := ⟨_, rfl⟩
 have HRN := Lib.hid hrn
 rw [hrn] at HZ H1 HGR HSZ ⊢
 clear hrn hG hr hn hkb
 go_enter Tryz.func7, Tryz.ntmps7
 go_upto_region 1 with (fail)
 rw [HZ.out, HG.out]
 go_wp2_with fail
 refine (nawake_any z).mono ?_
 rintro e z2 ⟨rfl, hb⟩
 have H2 := Lib.hid (H1.out.below hb); have HB2 := Lib.hid (HB.out.trans (hb.mono HB.out.size)); have HGR2 := Lib.hid (HGR.out.below hb)
 clear hb H1 HB HGR HZ
 go_wp2_with (refine load_gram rfl (.tmp 3) rfl g rfl _ H2.out rfl ?_)
 refine (HSZ.out z2 HGR2.out).mono ?_
 rintro e z3 ⟨⟨m, rfl, hm⟩, hb⟩
 have H3 := Lib.hid (H2.out.below hb); have HB3 := Lib.hid (HB2.out.trans (hb.mono HB2.out.size)); have HGR3 := Lib.hid (HGR2.out.below hb)
 clear hb H2 HB2 HGR2 HSZ
 by_cases hms : m ≤ 300
 ·have hmI : ¬ (300 : Int) < m := by omega
  obtain ⟨s1, s2, s3⟩ := hm hms
  have hkl : ∀ x ∈ NK, x.1.kids.length ≤ 1000000 := fun x hx => by have := s3 x hx; omega
  have hnl : NK.length ≤ 1000000 := by omega
  have HKL := Lib.hid hkl; have HNL := Lib.hid hnl; have HS1 := Lib.hid s1
  clear hkl hnl s1 s2 s3 hm hms
  go_wp2_with (refine load_gram rfl (.tmp 3) rfl g rfl _ H3.out rfl ?_)
  refine (gright_any z3 ro rn rc no NK.length nc NK G HGR3.out).mono ?_
  rintro e z4 ⟨rfl, hb⟩
  have H4 := Lib.hid (H3.out.below hb); have HB4 := Lib.hid (HB3.out.trans (hb.mono HB3.out.size)); have HGR4 := Lib.hid (HGR3.out.below hb)
  clear hb H3 HB3 HGR3 hmI
  cases hR : rightP G with
  | false =>
   have HX : Hid (okR G a = false) := by unfold Hid okR; rw [hR]; rfl
   have c0 : ∀ y : Later z4, y.val.cell? ⟨g, 0, none⟩ = some (.slice ro rn rc) := fun y => (H4.out.below y.ok).cell 0
   have c1 : ∀ y : Later z4, y.val.cell? ⟨g, 1, none⟩ = some (.slice no NK.length nc) := fun y => (H4.out.below y.ok).cell 1
   have HC1 : Hid (∀ y : Later z4, Calls Tryz.prog 20 #[.agg #[.slice ro rn rc, .slice no NK.length nc], .int .i64 a] y.val fun e w' => e = .returned (.slice none 0 0) ∧ Below y.val.heap.size y.val w') := fun y => by
    have h := callers_not y.val ro rc no nc NK G (by rw [HRN.out]; exact HGR4.out.below y.ok) HKL.out HNL.out a HX.out
    rw [HRN.out] at h; exact h
   have HC2 : Hid (∀ y : Later z4, Calls Tryz.prog 21 #[.agg #[.slice ro rn rc, .slice no NK.length nc], .int .i64 a] y.val fun e w' => e = .returned (.slice none 0 0) ∧ Below y.val.heap.size y.val w') := fun y => by
    have h := called_not y.val ro rc no nc NK G (by rw [HRN.out]; exact HGR4.out.below y.ok) HKL.out HNL.out a HX.out
    rw [HRN.out] at h; exact h
   have HC3 : Hid (∀ y : Later z4, Calls Tryz.prog 22 #[.agg #[.slice ro rn rc, .slice no NK.length nc], .int .i64 a] y.val fun e w' => e = .returned (.slice none 0 0) ∧ Below y.val.heap.size y.val w') := fun y => by
    have h := reached_not y.val ro rc no nc NK G (by rw [HRN.out]; exact HGR4.out.below y.ok) HKL.out HNL.out a HX.out
    rw [HRN.out] at h; exact h
   clear hR
   go_wp2_with fail
   refine wp_region_later (by kernel_rfl) (by kernel_rfl) ?_
   repeat (go_big_quiet_step (first | (go_at_call 20; exact Calls.later (HC1.out _)) | (go_at_call 21; exact Calls.later (HC2.out _)) | (go_at_call 22; exact Calls.later (HC3.out _))))
   refine wpQuiet_nil ?_
   intro w5 hw5
   obtain ⟨y, rfl⟩ := hw5
   have HB5 := Lib.hid (HB4.out.trans (y.ok.mono HB4.out.size))
   go_wp2_with fail
   go_ret
   exact ⟨rfl, HB5.out⟩
  | true =>
   have HRT := Lib.hid hR
   have hsz := right_sizes hR
   rw [HRN.out] at hsz
   have h1 : (1 : Int) ≤ rn := by omega
   have HP1 : Hid (∀ (v : Int) (y : Later z4), Calls Tryz.prog 13 #[.int .i64 v, .int .i64 rn] y.val fun e w' => e = .returned (.int .i64 (v % rn)) ∧ Below y.val.heap.size y.val w') := fun v y => pick_below y.val v rn h1 (by omega)
   obtain ⟨x, hx, hxl⟩ : ∃ x : Nat, a % (rn : Int) = x ∧ x < rn := ⟨(a % (rn : Int)).toNat, by have := Int.emod_nonneg a (show (rn : Int) ≠ 0 by omega); omega, by have := Int.emod_lt_of_pos a (show (0 : Int) < rn by omega); have := Int.emod_nonneg a (show (rn : Int) ≠ 0 by omega); omega⟩
   obtain ⟨q, hq, hql⟩ : ∃ q : Nat, b % (rn : Int) = q ∧ q < rn := ⟨(b % (rn : Int)).toNat, by have := Int.emod_nonneg b (show (rn : Int) ≠ 0 by omega); omega, by have := Int.emod_lt_of_pos b (show (0 : Int) < rn by omega); have := Int.emod_nonneg b (show (rn : Int) ≠ 0 by omega); omega⟩
   have HX := Lib.hid hx; have HQ := Lib.hid hq
   have HXL : Hid (x < G.rules.length ∧ q < G.rules.length) := by unfold Hid; rw [HRN.out]; exact ⟨hxl, hql⟩
   have HSZ := Lib.hid hsz
   have c0 : ∀ y : Later z4, y.val.cell? ⟨g, 0, none⟩ = some (.slice ro rn rc) := fun y => (H4.out.below y.ok).cell 0
   clear hx hxl hq hql hR hsz h1
   go_wp2_with fail
   refine wp_region_later (by kernel_rfl) (by kernel_rfl) ?_
   repeat (go_big_quiet_step ((go_at_call 13; exact Calls.later (HP1.out _ _))))
   refine wpQuiet_nil ?_
   intro w5 hw5
   obtain ⟨y, rfl⟩ := hw5
   have H5 := Lib.hid (H4.out.below y.ok); have HB5 := Lib.hid (HB4.out.trans (y.ok.mono HB4.out.size)); have HGR5 := Lib.hid (HGR4.out.below y.ok)
   clear H4 HB4 HGR4 c0 HP1
   generalize y.val = w5 at *
   clear y
   go_upto_region 8 with (fail)
   rw [HX.out, HQ.out]
   have HCD : Hid (∀ v, Below w5.heap.size w5 v → Calls Tryz.prog 21 #[.agg #[.slice ro rn rc, .slice no NK.length nc], .int .i64 x] v fun e w' => ∃ u, e = .returned u ∧ Own v w' 3 1 u (cldL G x).length (inc (cldL G x))) := fun v hv => by
    have h := called_any v ro rc no nc NK G (by rw [HRN.out]; exact HGR5.out.below hv) HKL.out HNL.out x
    rw [HRN.out] at h; exact h
   have HRC : Hid (∀ (k : Int) v, Below w5.heap.size w5 v → Calls Tryz.prog 22 #[.agg #[.slice ro rn rc, .slice no NK.length nc], .int .i64 k] v fun e w' => ∃ u, e = .returned u ∧ Own v w' 3 1 u (recL G k).length (inc (recL G k))) := fun k v hv => by
    have h := reached_any v ro rc no nc NK G (by rw [HRN.out]; exact HGR5.out.below hv) HKL.out HNL.out k
    rw [HRN.out] at h; exact h
   obtain ⟨n1, hn1⟩ : ∃ n, (cldL G x).length = n := ⟨_, rfl⟩
   obtain ⟨n2, hn2⟩ : ∃ n, (recL G x).length = n := ⟨_, rfl⟩
   have HN1 := Lib.hid hn1; have HN2 := Lib.hid hn2
   clear hn1 hn2
   go_cut [9, 10] from 47 to 52 (fun c d wx => ∃ ao1 c1 ao2 c2, c = .slice ao1 n1 c1 ∧ d = .slice ao2 n2 c2 ∧ Hid (Sv wx ao1 n1 c1 1 (inc (cldL G x)) ∧ Sv wx ao2 n2 c2 1 (inc (recL G x)) ∧ Below w5.heap.size w5 wx))
   case first =>
    obtain ⟨S, hSd⟩ : ∃ S : World → Prop, S = fun u => hrow u g #[.slice ro rn rc, .slice no NK.length nc] 25 := ⟨_, rfl⟩
    have F0 : ∀ u, S u → (loadVar 25 ⟨g, 0, none⟩).run Tryz.prog u = .ok (.agg #[.slice ro rn rc, .slice no NK.length nc]) u := fun u h => by rw [hSd] at h; exact gram_ld h
    have HS : Hid (∀ u, Below w5.heap.size w5 u → S u) := fun u h => by rw [hSd]; exact H5.out.below h
    clear hSd
    refine wp_region_noPanic ?_
    refine wp_region_T S [0, 1, 2, 3, 4, 5] 6 2 rfl (by kernel_rfl) ?_
    have HD := Lib.hid ((Below.refl w5.heap.size w5).drew)
    generalize w5.drew = w6 at HD ⊢
    refine wpAnyT_reads (f := 2) [0, 1, 3, 4] (by kernel_rfl) (by kernel_rfl) (HS.out _ HD.out) (fun _ _ _ _ h => h) ?_
    simp only [pickOps, List.getD_cons_zero, List.getD_cons_succ]
    repeat (first
     | (refine wpRead_load rfl 25 (.tmp 3) rfl ⟨g, 0, none⟩ rfl _ F0 ?_; simp only [Act.put, List.setIfInBounds_toArray, List.set_cons_zero, List.set_cons_succ])
     | (refine wpRead_cons (v := ?_) rfl ?_ ?_; rotate_left; (· (intro z hz; clear hz; go_simp; try with_reducible rfl)); simp only [Act.put, List.setIfInBounds_toArray, List.set_cons_zero, List.set_cons_succ]))
    refine wpRead_nil ?_
    refine wpAnyT_one 2 (by kernel_rfl) (by kernel_rfl) rfl ?_
    simp only [List.getD_cons_zero, List.getD_cons_succ]
    go_wp2_with fail
    refine (HCD.out w6 HD.out).mono ?_
    rintro e u ⟨v, rfl, ho⟩
    obtain ⟨ao1, c1, rfl, hs1⟩ := ho.sv
    have HDu := Lib.hid (HD.out.trans (ho.2.mono HD.out.size))
    rw [HN1.out] at hs1 ⊢
    have HS1 := Lib.hid hs1
    clear hs1 ho
    go_wp2_with fail
    refine ⟨HS.out _ HDu.out, ?_⟩
    refine wpAnyT_one 5 (by kernel_rfl) (by kernel_rfl) rfl ?_
    simp only [List.getD_cons_zero, List.getD_cons_succ]
    go_wp2_with fail
    refine (HRC.out x u HDu.out).mono ?_
    rintro e u2 ⟨v, rfl, ho⟩
    obtain ⟨ao2, c2, rfl, hs2⟩ := ho.sv
    have HDv := Lib.hid (HDu.out.trans (ho.2.mono HDu.out.size)); have HS1v := Lib.hid (HS1.out.below ho.2)
    rw [HN2.out] at hs2 ⊢
    have HS2 := Lib.hid hs2
    clear hs2 ho
    go_wp2_with fail
    refine ⟨HS.out _ HDv.out, ?_⟩
    refine wpAnyT_tail [6, 7] (by kernel_rfl) (by kernel_rfl) (by kernel_rfl) ?_
    simp only [pickOps, List.getD_cons_zero, List.getD_cons_succ]
    go_wp2_with fail
    refine noPanic_normal ?_
    go_wp2_with fail
    go_meet
    exact ⟨_, _, _, _, rfl, rfl, HS1v.out, HS2.out, HDv.out⟩
   case rest =>
    obtain ⟨ao1, c1, ao2, c2, rfl, rfl, HV⟩ := hcut
    have HS1 := Lib.hid HV.out.1; have HS2 := Lib.hid HV.out.2.1; have HBC := Lib.hid HV.out.2.2
    have H6 := Lib.hid (H5.out.below HV.out.2.2)
    have HE1 := Lib.hid (clr_has HRT.out HXL.out.1 HXL.out.2)
    have HE2 := Lib.hid (cld_has HRT.out HXL.out.1 HXL.out.2)
    have HE3 := Lib.hid (rec_self HRT.out HXL.out.1)
    have HCL : Hid (Calls Tryz.prog 20 #[.agg #[.slice ro rn rc, .slice no NK.length nc], .int .i64 q] wc fun e w' => ∃ u, e = .returned u ∧ Own wc w' 3 1 u (clrL G q).length (inc (clrL G q))) := by
     have h := callers_any wc ro rc no nc NK G (by rw [HRN.out]; exact HGR5.out.below HV.out.2.2) HKL.out HNL.out q
     rw [HRN.out] at h; exact h
    clear HV H5 HCD
    go_wp2_with (refine load_gram rfl (.tmp 3) rfl g rfl _ H6.out rfl ?_)
    refine HCL.out.mono ?_
    rintro e u1 ⟨v, rfl, ho⟩
    obtain ⟨ao3, c3, rfl, hs3⟩ := ho.sv
    have HS3 := Lib.hid hs3; have HS1a := Lib.hid (HS1.out.below ho.2); have HS2a := Lib.hid (HS2.out.below ho.2); have H7 := Lib.hid (H6.out.below ho.2); have HBD := Lib.hid (HBC.out.trans (ho.2.mono HBC.out.size))
    clear hs3 ho HS1 HS2 H6 HBC HCL
    obtain ⟨n3, hn3⟩ : ∃ n, (clrL G q).length = n := ⟨_, rfl⟩
    rw [hn3] at HS3 ⊢
    clear hn3
    go_wp2_with fail
    refine (has_any u1 ao3 n3 c3 _ HS3.out x).mono ?_
    rintro e u2 ⟨rfl, hb⟩
    rw [HE1.out]
    have HS1b := Lib.hid (HS1a.out.below hb); have HS2b := Lib.hid (HS2a.out.below hb); have H8 := Lib.hid (H7.out.below hb); have HBE := Lib.hid (HBD.out.trans (hb.mono HBD.out.size))
    clear hb HS3 HS1a HS2a H7 HBD
    go_wp2_with fail
    refine (has_any u2 ao1 n1 c1 _ HS1b.out q).mono ?_
    rintro e u3 ⟨rfl, hb⟩
    rw [HE2.out]
    have HS1c := Lib.hid (HS1b.out.below hb); have HS2c := Lib.hid (HS2b.out.below hb); have H9 := Lib.hid (H8.out.below hb); have HBF := Lib.hid (HBE.out.trans (hb.mono HBE.out.size))
    clear hb HS1b HS2b H8 HBE
    have hnb : (edgB G x q != edgB G x q) = false := by simp
    go_wp2_with fail
    refine (has_any u3 ao2 n2 c2 _ HS2c.out x).mono ?_
    rintro e u4 ⟨rfl, hb⟩
    rw [HE3.out]
    have HS1d := Lib.hid (HS1c.out.below hb); have HS2d := Lib.hid (HS2c.out.below hb); have H10 := Lib.hid (H9.out.below hb); have HBG := Lib.hid (HBF.out.trans (hb.mono HBF.out.size))
    clear hb HS1c HS2c H9 HBF hnb
    go_wp2_with fail
    have hb1 := HS1d.out.bound
    have hb2 := HS2d.out.bound
    go_loopw [11, 12] (fun v i wr => ∃ k : Nat, k ≤ n1 ∧ i = .int .i64 k ∧ v = .bool (inB G x q k) ∧ Hid (Below u4.heap.size u4 wr)) (fun _ i _ => n1 - (intOf i).toNat)
    case atStart =>
     refine ⟨0, Nat.zero_le _, rfl, ?_, Below.refl _ _⟩
     rw [inB_zero]
     congr 1
     rw [Bool.eq_iff_iff]
     simp only [beq_iff_eq]
     constructor <;> intro h <;> omega
    case round =>
     obtain ⟨k, hk, rfl, rfl, HW⟩ := hrel
     by_cases hlt : k < n1
     ·have hltI : (k : Int) < n1 := by omega
      have hkl : k < (cldL G x).length := by have := HN1.out; omega
      have HSU := Lib.hid (inB_succ G x q k hkl)
      obtain ⟨ca, rfl, hc⟩ := (HS1d.out.below HW.out).intc k hkl
      rw [← bt_get hkl] at hc
      obtain ⟨kv, hkv⟩ : ∃ v, (cldL G x)[k] = v := ⟨_, rfl⟩
      rw [hkv] at HSU hc
      have HLT := Lib.hid hlt
      have HHC := Lib.hid hc
      have H11 := Lib.hid (H10.out.below HW.out)
      obtain ⟨bb, hbb⟩ : ∃ b, inB G x q k = b := ⟨_, rfl⟩
      rw [hbb] at HSU ⊢
      clear hkv hkl hbb hlt hk hc
      cases bb with
      | true =>
       go_wp2_with fail
       refine wp_region_later (by kernel_rfl) (by kernel_rfl) ?_
       repeat (go_big_quiet_step (fail))
       refine wpQuiet_nil ?_
       intro w5 hw5
       obtain ⟨y, rfl⟩ := hw5
       have HWy := Lib.hid (HW.out.trans (y.ok.mono HW.out.size))
       go_wp2_with fail
       go_roundw
       case rel => exact ⟨k + 1, by have := HLT.out; omega, by go_num, by rw [HSU.out]; rfl, HWy.out⟩
       case measure => have := HLT.out; simp [intOf]; omega
      | false =>
       obtain ⟨S, hSd⟩ : ∃ S : World → Prop, S = fun u => hrow u g #[.slice ro rn rc, .slice no NK.length nc] 25 ∧ u.cell? (ca.add k) = some (.int .i64 kv) := ⟨_, rfl⟩
       have F0 : ∀ u, S u → (loadVar 25 ⟨g, 0, none⟩).run Tryz.prog u = .ok (.agg #[.slice ro rn rc, .slice no NK.length nc]) u := fun u h => by rw [hSd] at h; exact gram_ld h.1
       have F1 : ∀ u, S u → u.cell? (ca.add k) = some (.int .i64 kv) := fun u h => by rw [hSd] at h; exact h.2
       have HS : Hid (∀ u, Below wr.heap.size wr u → S u) := fun u h => by
        rw [hSd]
        refine ⟨H11.out.below h, ?_⟩
        exact (h.cell (World.block_lt_of_cell? wr _ HHC.out)).trans HHC.out
       clear hSd
       go_upto_region 15 with (fail)
       refine wp_region_noPanic ?_
       refine wp_region_T S [0, 1, 2, 3, 4, 5, 6, 7, 8, 9] 10 2 rfl (by kernel_rfl) ?_
       have HD := Lib.hid ((Below.refl wr.heap.size wr).drew)
       generalize wr.drew = w6 at HD ⊢
       refine wpAnyT_reads (f := 2) [0, 1, 2, 3, 4, 5, 6, 8] (by kernel_rfl) (by kernel_rfl) (HS.out _ HD.out) (fun _ _ _ _ h => h) ?_
       simp only [pickOps, List.getD_cons_zero, List.getD_cons_succ]
       repeat (first
        | (refine wpRead_load rfl 25 (.tmp 3) rfl ⟨g, 0, none⟩ rfl _ F0 ?_; simp only [Act.put, List.setIfInBounds_toArray, List.set_cons_zero, List.set_cons_succ])
        | (refine wpRead_cons (v := ?_) rfl ?_ ?_; rotate_left; (· (intro z hz; have f1 := F1 z hz; clear hz; go_simp; try with_reducible rfl)); simp only [Act.put, List.setIfInBounds_toArray, List.set_cons_zero, List.set_cons_succ]))
       refine wpRead_nil ?_
       refine wpAnyT_one 7 (by kernel_rfl) (by kernel_rfl) rfl ?_
       simp only [List.getD_cons_zero, List.getD_cons_succ]
       go_wp2_with fail
       have HDF := Lib.hid (HW.out.trans (HD.out.mono HW.out.size))
       refine (HRC.out kv w6 (HBG.out.trans (HDF.out.mono HBG.out.size))).mono ?_
       rintro e u ⟨v, rfl, ho⟩
       obtain ⟨ao4, c4, rfl, hs4⟩ := ho.sv
       have HS4 := Lib.hid hs4
       have HDu := Lib.hid (HD.out.trans (ho.2.mono HD.out.size))
       clear hs4 ho
       obtain ⟨n4, hn4⟩ : ∃ n, (recL G kv).length = n := ⟨_, rfl⟩
       rw [hn4] at HS4 ⊢
       clear hn4
       go_wp2_with fail
       refine ⟨HS.out _ HDu.out, ?_⟩
       refine wpAnyT_one 9 (by kernel_rfl) (by kernel_rfl) rfl ?_
       simp only [List.getD_cons_zero, List.getD_cons_succ]
       go_wp2_with fail
       refine (has_any u ao4 n4 c4 _ HS4.out q).mono ?_
       rintro e u5 ⟨rfl, hb⟩
       have HDv := Lib.hid (HDu.out.trans (hb.mono HDu.out.size))
       clear hb
       go_wp2_with fail
       refine ⟨HS.out _ HDv.out, ?_⟩
       refine wpAnyT_tail [10, 11] (by kernel_rfl) (by kernel_rfl) (by kernel_rfl) ?_
       simp only [pickOps, List.getD_cons_zero, List.getD_cons_succ]
       go_wp2_with fail
       refine noPanic_normal ?_
       have HWv := Lib.hid (HW.out.trans (HDv.out.mono HW.out.size))
       clear F0 F1
       go_wp2_with fail
       go_roundw
       case rel => exact ⟨k + 1, by have := HLT.out; omega, by go_num, by rw [HSU.out]; rfl, HWv.out⟩
       case measure => have := HLT.out; simp [intOf]; omega
     ·have hltI : ¬ (k : Int) < n1 := by omega
      obtain rfl : k = n1 := by omega
      have HIN : Hid (inB G x q k = hasB (recL G x) q) := by unfold Hid; rw [← in_all HRT.out HXL.out.1 HXL.out.2, HN1.out]
      rw [HIN.out]
      have HS2e := Lib.hid (HS2d.out.below HW.out)
      clear HS1d HS2d H10 HIN hltI hlt hk
      obtain ⟨wo, rfl⟩ : ∃ wo : World, wo = wr := ⟨_, rfl⟩
      go_wp2_with fail
      go_loopw [13] (fun i wr => ∃ k : Nat, 1 ≤ k ∧ (k ≤ n2 ∨ k = 1) ∧ i = .int .i64 k ∧ Hid (Below wo.heap.size wo wr)) (fun i _ => n2 - (intOf i).toNat)
      case atStart => exact ⟨1, Nat.le_refl _, .inr rfl, rfl, Below.refl _ _⟩
      case round =>
       obtain ⟨j, hj1, hj2, rfl, HW2⟩ := hrel
       by_cases hjt : j < n2
       ·have hjtI : (j : Int) < n2 := by omega
        obtain ⟨p, hp⟩ : ∃ p, j = p + 1 := ⟨j - 1, by omega⟩
        have hjp : (j : Int) - 1 = p := by omega
        have hpl : (p : Int) < n2 := by omega
        have hlj : j < (recL G x).length := by have := HN2.out; omega
        have hlp : p < (recL G x).length := by omega
        have hrs := List.pairwise_iff_getElem.1 (rec_rise G x) p j hlp hlj (by omega)
        obtain ⟨cb, rfl, hcj⟩ := (HS2e.out.below HW2.out).intc j hlj
        obtain ⟨cb', hcb', hcp⟩ := (HS2e.out.below HW2.out).intc p hlp
        cases hcb'
        rw [bt_get hlj, bt_get hlp] at hrs
        have hv : decide (bt (recL G x) j ≤ bt (recL G x) p) = false := decide_eq_false (by omega)
        generalize bt (recL G x) j = vj at *
        generalize bt (recL G x) p = vp at *
        have kj : ∀ y : Later wr, y.val.cell? (cb.add j) = some (.int .i64 vj) := fun y => (y.ok.cell (World.block_lt_of_cell? wr _ hcj)).trans hcj
        have kp : ∀ y : Later wr, y.val.cell? (cb.add p) = some (.int .i64 vp) := fun y => (y.ok.cell (World.block_lt_of_cell? wr _ hcp)).trans hcp
        have HLT := Lib.hid hjt
        have hvn : ¬ vj ≤ vp := by simpa using hv
        clear hcj hcp hrs hlj hlp hp hjt hj2
        go_wp2_with fail
        refine wp_region_later (by kernel_rfl) (by kernel_rfl) ?_
        repeat (go_big_quiet_step (fail))
        refine wpQuiet_nil ?_
        intro w5 hw5
        obtain ⟨y, rfl⟩ := hw5
        have HWy := Lib.hid (HW2.out.trans (y.ok.mono HW2.out.size))
        clear kj kp
        go_wp2_with fail
        go_roundw
        case rel => exact ⟨j + 1, by omega, .inl (by have := HLT.out; omega), by go_num, HWy.out⟩
        case measure => have := HLT.out; simp [intOf]; omega
       ·have hjtI : ¬ (j : Int) < n2 := by omega
        go_wp2_with fail
        refine (has_any wr ao2 n2 c2 _ (HS2e.out.below HW2.out) q).mono ?_
        rintro e u6 ⟨rfl, hb⟩
        have HBZ := Lib.hid (HBG.out.trans ((HW.out.trans ((HW2.out.trans (hb.mono HW2.out.size)).mono HW.out.size)).mono HBG.out.size))
        have hee : (hasB (recL G x) q == hasB (recL G x) q) = true := by simp
        clear hb
        go_wp2_with fail
        go_ret
        exact ⟨rfl, HB5.out.trans (HBZ.out.mono HB5.out.size)⟩
 ·have hmI : (300 : Int) < m := by omega
  go_wp2_with fail
  go_ret
  exact ⟨rfl, HB3.out⟩
end Go.Proofs.YtgjhepblpdnkcaaGreatDoor
