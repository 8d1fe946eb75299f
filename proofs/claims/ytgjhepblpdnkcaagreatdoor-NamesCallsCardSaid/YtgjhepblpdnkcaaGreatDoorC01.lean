/- Walks and plain laws: Yg FV1 FV2 FV3. -/
import Derived.Test.YtgjhepblpdnkcaaGreatDoorM24
import Derived.BigQuiet
import Derived.Deep.DeepCutAuto
import Derived.Test.YtgjhepblpdnkcaaGreatDoorM09
import Derived.BigRegion
namespace Go.Proofs.YtgjhepblpdnkcaaGreatDoor
open Go.RowKit
set_option maxRecDepth 100000
set_option maxHeartbeats 8000000

theorem pick_below (w:World) (x n:Int) (h1:1<=n) (hn:n<=1000000):Calls Tryz.prog 13 #[.int .i64 x,.int .i64 n] w fun r w'=>r=.returned (.int .i64 (x % n))/\Below w.heap.size w w':=
 (pick_any w x n h1 hn).mono (by rintro e w' ⟨rfl,rfl⟩;exact ⟨rfl,Below.refl _ _⟩)
theorem rec_rise (G:Gr) (k:Int):(recL G k).Pairwise (· < ·):=by
 unfold recL
 split
 ·exact lisF_rise _ _
 ·exact List.Pairwise.nil
theorem nreach_any (w:World) (ro:Option Addr) (rc:Nat) (no:Option Addr) (nc:Nat) (NK:List Nk) (G:Gr) (hG:GrW w ro G.rules.length rc no NK.length nc NK G) (hr:G.rules.length<=140737488355328) (hn:NK.length<=140737488355328) (hkb:∀ p ∈ NK,p.1.kids.length<=140737488355328) (a b:Int):
  Calls Tryz.prog 7 #[grv ro G.rules.length rc no NK.length nc,.int .i64 a,.int .i64 b] w fun e w'=>e=.returned (.bool true)/\Below w.heap.size w w':=by
 obtain ⟨g,hg⟩:∃ g,w.heap.size=g:=⟨_,rfl⟩
 obtain ⟨z,hz⟩:∃ z,w.alloc (.cells #[.slice ro G.rules.length rc,.slice no NK.length nc] 25)=z:=⟨_,rfl⟩
 have zb:=(Below.refl _ w).alloc (Nat.le_refl _) (.cells #[.slice ro G.rules.length rc,.slice no NK.length nc] 25)
 have z1:=hrow.new w #[.slice ro G.rules.length rc,.slice no NK.length nc] 25
 rw [hz] at zb z1
 rw [hg] at z1
 have HZ:=Lib.hid hz;have HG:=Lib.hid hg;have H1:=Lib.hid z1;have HB:=Lib.hid zb;have HGR:=Lib.hid (hG.below zb)
 clear hz hg z1 zb
 unfold grv
 have HSZ:=Lib.hid (fun v (h:GrW v ro G.rules.length rc no NK.length nc NK G)=>lsize_any v ro no G.rules.length rc NK.length nc NK G h hr hn hkb)
 obtain ⟨rn,hrn⟩:∃ n,G.rules.length=n:=⟨_,rfl⟩
 have HRN:=Lib.hid hrn
 rw [hrn] at HZ H1 HGR HSZ ⊢
 clear hrn hG hr hn hkb
 go_enter Tryz.func7,Tryz.ntmps7
 go_upto_region 1 with (fail)
 rw [HZ.out,HG.out]
 go_wp2_with fail
 refine (nawake_any z).mono ?_
 rintro e z2 ⟨rfl,hb⟩
 have H2:=Lib.hid (H1.out.below hb);have HB2:=Lib.hid (HB.out.trans (hb.mono HB.out.size));have HGR2:=Lib.hid (HGR.out.below hb)
 clear hb H1 HB HGR HZ
 go_wp2_with (refine load_gram rfl (.tmp 3) rfl g rfl _ H2.out rfl ?_)
 refine (HSZ.out z2 HGR2.out).mono ?_
 rintro e z3 ⟨⟨m,rfl,hm⟩,hb⟩
 have H3:=Lib.hid (H2.out.below hb);have HB3:=Lib.hid (HB2.out.trans (hb.mono HB2.out.size));have HGR3:=Lib.hid (HGR2.out.below hb)
 clear hb H2 HB2 HGR2 HSZ
 by_cases hms:m<=300
 ·have hmI:¬ (300:Int) < m:=by omega
  obtain ⟨s1,s2,s3⟩:=hm hms
  have hkl:∀ x ∈ NK,x.1.kids.length<=1000000:=fun x hx=>by have:=s3 x hx;omega
  have hnl:NK.length<=1000000:=by omega
  have HKL:=Lib.hid hkl;have HNL:=Lib.hid hnl;have HS1:=Lib.hid s1
  clear hkl hnl s1 s2 s3 hm hms
  go_wp2_with (refine load_gram rfl (.tmp 3) rfl g rfl _ H3.out rfl ?_)
  refine (gright_any z3 ro rn rc no NK.length nc NK G HGR3.out).mono ?_
  rintro e z4 ⟨rfl,hb⟩
  have H4:=Lib.hid (H3.out.below hb);have HB4:=Lib.hid (HB3.out.trans (hb.mono HB3.out.size));have HGR4:=Lib.hid (HGR3.out.below hb)
  clear hb H3 HB3 HGR3 hmI
  cases hR:rightP G with
  | false=>
   have HX:Hid (okR G a=false):=by unfold Hid okR;rw [hR];rfl
   have c0:∀ y:Later z4,y.val.cell? ⟨g,0,none⟩=some (.slice ro rn rc):=fun y=>(H4.out.below y.ok).cell 0
   have c1:∀ y:Later z4,y.val.cell? ⟨g,1,none⟩=some (.slice no NK.length nc):=fun y=>(H4.out.below y.ok).cell 1
   have HC1:Hid (∀ y:Later z4,Calls Tryz.prog 20 #[.agg #[.slice ro rn rc,.slice no NK.length nc],.int .i64 a] y.val fun e w'=>e=.returned (.slice none 0 0)/\Below y.val.heap.size y.val w'):=fun y=>by
    have h:=callers_not y.val ro rc no nc NK G (by rw [HRN.out];exact HGR4.out.below y.ok) HKL.out HNL.out a HX.out
    rw [HRN.out] at h;exact h
   have HC2:Hid (∀ y:Later z4,Calls Tryz.prog 21 #[.agg #[.slice ro rn rc,.slice no NK.length nc],.int .i64 a] y.val fun e w'=>e=.returned (.slice none 0 0)/\Below y.val.heap.size y.val w'):=fun y=>by
    have h:=called_not y.val ro rc no nc NK G (by rw [HRN.out];exact HGR4.out.below y.ok) HKL.out HNL.out a HX.out
    rw [HRN.out] at h;exact h
   have HC3:Hid (∀ y:Later z4,Calls Tryz.prog 22 #[.agg #[.slice ro rn rc,.slice no NK.length nc],.int .i64 a] y.val fun e w'=>e=.returned (.slice none 0 0)/\Below y.val.heap.size y.val w'):=fun y=>by
    have h:=reached_not y.val ro rc no nc NK G (by rw [HRN.out];exact HGR4.out.below y.ok) HKL.out HNL.out a HX.out
    rw [HRN.out] at h;exact h
   clear hR
   go_wp2_with fail
   refine wp_region_later (by kernel_rfl) (by kernel_rfl) ?_
   repeat (go_big_quiet_step (first | (go_at_call 20;exact Calls.later (HC1.out _)) | (go_at_call 21;exact Calls.later (HC2.out _)) | (go_at_call 22;exact Calls.later (HC3.out _))))
   refine wpQuiet_nil ?_
   intro w5 hw5
   obtain ⟨y,rfl⟩:=hw5
   have HB5:=Lib.hid (HB4.out.trans (y.ok.mono HB4.out.size))
   go_wp2_with fail
   go_ret
   exact ⟨rfl,HB5.out⟩
  | true=>
   have HRT:=Lib.hid hR
   have hsz:=right_sizes hR
   rw [HRN.out] at hsz
   have h1:(1:Int)<=rn:=by omega
   have HP1:Hid (∀ (v:Int) (y:Later z4),Calls Tryz.prog 13 #[.int .i64 v,.int .i64 rn] y.val fun e w'=>e=.returned (.int .i64 (v % rn))/\Below y.val.heap.size y.val w'):=fun v y=>pick_below y.val v rn h1 (by omega)
   obtain ⟨x,hx,hxl⟩:∃ x:Nat,a % (rn:Int)=x/\x < rn:=⟨(a % (rn:Int)).toNat,by have:=Int.emod_nonneg a (show (rn:Int) ≠ 0 by omega);omega,by have:=Int.emod_lt_of_pos a (show (0:Int) < rn by omega);have:=Int.emod_nonneg a (show (rn:Int) ≠ 0 by omega);omega⟩
   obtain ⟨q,hq,hql⟩:∃ q:Nat,b % (rn:Int)=q/\q < rn:=⟨(b % (rn:Int)).toNat,by have:=Int.emod_nonneg b (show (rn:Int) ≠ 0 by omega);omega,by have:=Int.emod_lt_of_pos b (show (0:Int) < rn by omega);have:=Int.emod_nonneg b (show (rn:Int) ≠ 0 by omega);omega⟩
   have HX:=Lib.hid hx;have HQ:=Lib.hid hq
   have HXL:Hid (x < G.rules.length/\q < G.rules.length):=by unfold Hid;rw [HRN.out];exact ⟨hxl,hql⟩
   have HSZ:=Lib.hid hsz
   have c0:∀ y:Later z4,y.val.cell? ⟨g,0,none⟩=some (.slice ro rn rc):=fun y=>(H4.out.below y.ok).cell 0
   clear hx hxl hq hql hR hsz h1
   go_wp2_with fail
   refine wp_region_later (by kernel_rfl) (by kernel_rfl) ?_
   repeat (go_big_quiet_step ((go_at_call 13;exact Calls.later (HP1.out _ _))))
   refine wpQuiet_nil ?_
   intro w5 hw5
   obtain ⟨y,rfl⟩:=hw5
   have H5:=Lib.hid (H4.out.below y.ok);have HB5:=Lib.hid (HB4.out.trans (y.ok.mono HB4.out.size));have HGR5:=Lib.hid (HGR4.out.below y.ok)
   clear H4 HB4 HGR4 c0 HP1
   generalize y.val=w5 at *
   clear y
   go_upto_region 8 with (fail)
   rw [HX.out,HQ.out]
   have HCD:Hid (∀ v,Below w5.heap.size w5 v->Calls Tryz.prog 21 #[.agg #[.slice ro rn rc,.slice no NK.length nc],.int .i64 x] v fun e w'=>∃ u,e=.returned u/\Own v w' 3 1 u (cldL G x).length (inc (cldL G x))):=fun v hv=>by
    have h:=called_any v ro rc no nc NK G (by rw [HRN.out];exact HGR5.out.below hv) HKL.out HNL.out x
    rw [HRN.out] at h;exact h
   have HRC:Hid (∀ (k:Int) v,Below w5.heap.size w5 v->Calls Tryz.prog 22 #[.agg #[.slice ro rn rc,.slice no NK.length nc],.int .i64 k] v fun e w'=>∃ u,e=.returned u/\Own v w' 3 1 u (recL G k).length (inc (recL G k))):=fun k v hv=>by
    have h:=reached_any v ro rc no nc NK G (by rw [HRN.out];exact HGR5.out.below hv) HKL.out HNL.out k
    rw [HRN.out] at h;exact h
   obtain ⟨n1,hn1⟩:∃ n,(cldL G x).length=n:=⟨_,rfl⟩
   obtain ⟨n2,hn2⟩:∃ n,(recL G x).length=n:=⟨_,rfl⟩
   have HN1:=Lib.hid hn1;have HN2:=Lib.hid hn2
   clear hn1 hn2
   go_cut [9,10] from 47 to 52 (fun c d wx=>∃ ao1 c1 ao2 c2,c=.slice ao1 n1 c1/\d=.slice ao2 n2 c2/\Hid (Sv wx ao1 n1 c1 1 (inc (cldL G x))/\Sv wx ao2 n2 c2 1 (inc (recL G x))/\Below w5.heap.size w5 wx))
   case first=>
    obtain ⟨S,hSd⟩:∃ S:World->Prop,S=fun u=>hrow u g #[.slice ro rn rc,.slice no NK.length nc] 25:=⟨_,rfl⟩
    have F0:∀ u,S u->(loadVar 25 ⟨g,0,none⟩).run Tryz.prog u=.ok (.agg #[.slice ro rn rc,.slice no NK.length nc]) u:=fun u h=>by rw [hSd] at h;exact gram_ld h
    have HS:Hid (∀ u,Below w5.heap.size w5 u->S u):=fun u h=>by rw [hSd];exact H5.out.below h
    clear hSd
    refine wp_region_noPanic ?_
    refine wp_region_T S [0,1,2,3,4,5] 6 2 rfl (by kernel_rfl) ?_
    have HD:=Lib.hid ((Below.refl w5.heap.size w5).drew)
    generalize w5.drew=w6 at HD ⊢
    refine wpAnyT_reads (f:=2) [0,1,3,4] (by kernel_rfl) (by kernel_rfl) (HS.out _ HD.out) (fun _ _ _ _ h=>h) ?_
    simp only [pickOps,List.getD_cons_zero,List.getD_cons_succ]
    repeat (first
     | (refine wpRead_load rfl 25 (.tmp 3) rfl ⟨g,0,none⟩ rfl _ F0 ?_;simp only [Act.put,List.setIfInBounds_toArray,List.set_cons_zero,List.set_cons_succ])
     | (refine wpRead_cons (v:=?_) rfl ?_ ?_;rotate_left;(· (intro z hz;clear hz;go_simp;try with_reducible rfl));simp only [Act.put,List.setIfInBounds_toArray,List.set_cons_zero,List.set_cons_succ]))
    refine wpRead_nil ?_
    refine wpAnyT_one 2 (by kernel_rfl) (by kernel_rfl) rfl ?_
    simp only [List.getD_cons_zero,List.getD_cons_succ]
    go_wp2_with fail
    refine (HCD.out w6 HD.out).mono ?_
    rintro e u ⟨v,rfl,ho⟩
    obtain ⟨ao1,c1,rfl,hs1⟩:=ho.sv
    have HDu:=Lib.hid (HD.out.trans (ho.2.mono HD.out.size))
    rw [HN1.out] at hs1 ⊢
    have HS1:=Lib.hid hs1
    clear hs1 ho
    go_wp2_with fail
    refine ⟨HS.out _ HDu.out,?_⟩
    refine wpAnyT_one 5 (by kernel_rfl) (by kernel_rfl) rfl ?_
    simp only [List.getD_cons_zero,List.getD_cons_succ]
    go_wp2_with fail
    refine (HRC.out x u HDu.out).mono ?_
    rintro e u2 ⟨v,rfl,ho⟩
    obtain ⟨ao2,c2,rfl,hs2⟩:=ho.sv
    have HDv:=Lib.hid (HDu.out.trans (ho.2.mono HDu.out.size));have HS1v:=Lib.hid (HS1.out.below ho.2)
    rw [HN2.out] at hs2 ⊢
    have HS2:=Lib.hid hs2
    clear hs2 ho
    go_wp2_with fail
    refine ⟨HS.out _ HDv.out,?_⟩
    refine wpAnyT_tail [6,7] (by kernel_rfl) (by kernel_rfl) (by kernel_rfl) ?_
    simp only [pickOps,List.getD_cons_zero,List.getD_cons_succ]
    go_wp2_with fail
    refine noPanic_normal ?_
    go_wp2_with fail
    go_meet
    exact ⟨_,_,_,_,rfl,rfl,HS1v.out,HS2.out,HDv.out⟩
   case rest=>
    obtain ⟨ao1,c1,ao2,c2,rfl,rfl,HV⟩:=hcut
    have HS1:=Lib.hid HV.out.1;have HS2:=Lib.hid HV.out.2.1;have HBC:=Lib.hid HV.out.2.2
    have H6:=Lib.hid (H5.out.below HV.out.2.2)
    have HE1:=Lib.hid (clr_has HRT.out HXL.out.1 HXL.out.2)
    have HE2:=Lib.hid (cld_has HRT.out HXL.out.1 HXL.out.2)
    have HE3:=Lib.hid (rec_self HRT.out HXL.out.1)
    have HCL:Hid (Calls Tryz.prog 20 #[.agg #[.slice ro rn rc,.slice no NK.length nc],.int .i64 q] wc fun e w'=>∃ u,e=.returned u/\Own wc w' 3 1 u (clrL G q).length (inc (clrL G q))):=by
     have h:=callers_any wc ro rc no nc NK G (by rw [HRN.out];exact HGR5.out.below HV.out.2.2) HKL.out HNL.out q
     rw [HRN.out] at h;exact h
    clear HV H5 HCD
    go_wp2_with (refine load_gram rfl (.tmp 3) rfl g rfl _ H6.out rfl ?_)
    refine HCL.out.mono ?_
    rintro e u1 ⟨v,rfl,ho⟩
    obtain ⟨ao3,c3,rfl,hs3⟩:=ho.sv
    have HS3:=Lib.hid hs3;have HS1a:=Lib.hid (HS1.out.below ho.2);have HS2a:=Lib.hid (HS2.out.below ho.2);have H7:=Lib.hid (H6.out.below ho.2);have HBD:=Lib.hid (HBC.out.trans (ho.2.mono HBC.out.size))
    clear hs3 ho HS1 HS2 H6 HBC HCL
    obtain ⟨n3,hn3⟩:∃ n,(clrL G q).length=n:=⟨_,rfl⟩
    rw [hn3] at HS3 ⊢
    clear hn3
    go_wp2_with fail
    refine (has_any u1 ao3 n3 c3 _ HS3.out x).mono ?_
    rintro e u2 ⟨rfl,hb⟩
    rw [HE1.out]
    have HS1b:=Lib.hid (HS1a.out.below hb);have HS2b:=Lib.hid (HS2a.out.below hb);have H8:=Lib.hid (H7.out.below hb);have HBE:=Lib.hid (HBD.out.trans (hb.mono HBD.out.size))
    clear hb HS3 HS1a HS2a H7 HBD
    go_wp2_with fail
    refine (has_any u2 ao1 n1 c1 _ HS1b.out q).mono ?_
    rintro e u3 ⟨rfl,hb⟩
    rw [HE2.out]
    have HS1c:=Lib.hid (HS1b.out.below hb);have HS2c:=Lib.hid (HS2b.out.below hb);have H9:=Lib.hid (H8.out.below hb);have HBF:=Lib.hid (HBE.out.trans (hb.mono HBE.out.size))
    clear hb HS1b HS2b H8 HBE
    have hnb:(edgB G x q != edgB G x q)=false:=by simp
    go_wp2_with fail
    refine (has_any u3 ao2 n2 c2 _ HS2c.out x).mono ?_
    rintro e u4 ⟨rfl,hb⟩
    rw [HE3.out]
    have HS1d:=Lib.hid (HS1c.out.below hb);have HS2d:=Lib.hid (HS2c.out.below hb);have H10:=Lib.hid (H9.out.below hb);have HBG:=Lib.hid (HBF.out.trans (hb.mono HBF.out.size))
    clear hb HS1c HS2c H9 HBF hnb
    go_wp2_with fail
    have hb1:=HS1d.out.bound
    have hb2:=HS2d.out.bound
    go_loopw [11,12] (fun v i wr=>∃ k:Nat,k<=n1/\i=.int .i64 k/\v=.bool (inB G x q k)/\Hid (Below u4.heap.size u4 wr)) (fun _ i _=>n1 - (intOf i).toNat)
    case atStart=>
     refine ⟨0,Nat.zero_le _,rfl,?_,Below.refl _ _⟩
     rw [inB_zero]
     congr 1
     rw [Bool.eq_iff_iff]
     simp only [beq_iff_eq]
     constructor <;> intro h <;> omega
    case round=>
     obtain ⟨k,hk,rfl,rfl,HW⟩:=hrel
     by_cases hlt:k < n1
     ·have hltI:(k:Int) < n1:=by omega
      have hkl:k < (cldL G x).length:=by have:=HN1.out;omega
      have HSU:=Lib.hid (inB_succ G x q k hkl)
      obtain ⟨ca,rfl,hc⟩:=(HS1d.out.below HW.out).intc k hkl
      rw [← bt_get hkl] at hc
      obtain ⟨kv,hkv⟩:∃ v,(cldL G x)[k]=v:=⟨_,rfl⟩
      rw [hkv] at HSU hc
      have HLT:=Lib.hid hlt
      have HHC:=Lib.hid hc
      have H11:=Lib.hid (H10.out.below HW.out)
      obtain ⟨bb,hbb⟩:∃ b,inB G x q k=b:=⟨_,rfl⟩
      rw [hbb] at HSU ⊢
      clear hkv hkl hbb hlt hk hc
      cases bb with
      | true=>
       go_wp2_with fail
       refine wp_region_later (by kernel_rfl) (by kernel_rfl) ?_
       repeat (go_big_quiet_step (fail))
       refine wpQuiet_nil ?_
       intro w5 hw5
       obtain ⟨y,rfl⟩:=hw5
       have HWy:=Lib.hid (HW.out.trans (y.ok.mono HW.out.size))
       go_wp2_with fail
       go_roundw
       case rel=>exact ⟨k+1,by have:=HLT.out;omega,by go_num,by rw [HSU.out];rfl,HWy.out⟩
       case measure=>have:=HLT.out;simp [intOf];omega
      | false=>
       obtain ⟨S,hSd⟩:∃ S:World->Prop,S=fun u=>hrow u g #[.slice ro rn rc,.slice no NK.length nc] 25/\u.cell? (ca.add k)=some (.int .i64 kv):=⟨_,rfl⟩
       have F0:∀ u,S u->(loadVar 25 ⟨g,0,none⟩).run Tryz.prog u=.ok (.agg #[.slice ro rn rc,.slice no NK.length nc]) u:=fun u h=>by rw [hSd] at h;exact gram_ld h.1
       have F1:∀ u,S u->u.cell? (ca.add k)=some (.int .i64 kv):=fun u h=>by rw [hSd] at h;exact h.2
       have HS:Hid (∀ u,Below wr.heap.size wr u->S u):=fun u h=>by
        rw [hSd]
        refine ⟨H11.out.below h,?_⟩
        exact (h.cell (World.block_lt_of_cell? wr _ HHC.out)).trans HHC.out
       clear hSd
       go_upto_region 15 with (fail)
       refine wp_region_noPanic ?_
       refine wp_region_T S [0,1,2,3,4,5,6,7,8,9] 10 2 rfl (by kernel_rfl) ?_
       have HD:=Lib.hid ((Below.refl wr.heap.size wr).drew)
       generalize wr.drew=w6 at HD ⊢
       refine wpAnyT_reads (f:=2) [0,1,2,3,4,5,6,8] (by kernel_rfl) (by kernel_rfl) (HS.out _ HD.out) (fun _ _ _ _ h=>h) ?_
       simp only [pickOps,List.getD_cons_zero,List.getD_cons_succ]
       repeat (first
        | (refine wpRead_load rfl 25 (.tmp 3) rfl ⟨g,0,none⟩ rfl _ F0 ?_;simp only [Act.put,List.setIfInBounds_toArray,List.set_cons_zero,List.set_cons_succ])
        | (refine wpRead_cons (v:=?_) rfl ?_ ?_;rotate_left;(· (intro z hz;have f1:=F1 z hz;clear hz;go_simp;try with_reducible rfl));simp only [Act.put,List.setIfInBounds_toArray,List.set_cons_zero,List.set_cons_succ]))
       refine wpRead_nil ?_
       refine wpAnyT_one 7 (by kernel_rfl) (by kernel_rfl) rfl ?_
       simp only [List.getD_cons_zero,List.getD_cons_succ]
       go_wp2_with fail
       have HDF:=Lib.hid (HW.out.trans (HD.out.mono HW.out.size))
       refine (HRC.out kv w6 (HBG.out.trans (HDF.out.mono HBG.out.size))).mono ?_
       rintro e u ⟨v,rfl,ho⟩
       obtain ⟨ao4,c4,rfl,hs4⟩:=ho.sv
       have HS4:=Lib.hid hs4
       have HDu:=Lib.hid (HD.out.trans (ho.2.mono HD.out.size))
       clear hs4 ho
       obtain ⟨n4,hn4⟩:∃ n,(recL G kv).length=n:=⟨_,rfl⟩
       rw [hn4] at HS4 ⊢
       clear hn4
       go_wp2_with fail
       refine ⟨HS.out _ HDu.out,?_⟩
       refine wpAnyT_one 9 (by kernel_rfl) (by kernel_rfl) rfl ?_
       simp only [List.getD_cons_zero,List.getD_cons_succ]
       go_wp2_with fail
       refine (has_any u ao4 n4 c4 _ HS4.out q).mono ?_
       rintro e u5 ⟨rfl,hb⟩
       have HDv:=Lib.hid (HDu.out.trans (hb.mono HDu.out.size))
       clear hb
       go_wp2_with fail
       refine ⟨HS.out _ HDv.out,?_⟩
       refine wpAnyT_tail [10,11] (by kernel_rfl) (by kernel_rfl) (by kernel_rfl) ?_
       simp only [pickOps,List.getD_cons_zero,List.getD_cons_succ]
       go_wp2_with fail
       refine noPanic_normal ?_
       have HWv:=Lib.hid (HW.out.trans (HDv.out.mono HW.out.size))
       clear F0 F1
       go_wp2_with fail
       go_roundw
       case rel=>exact ⟨k+1,by have:=HLT.out;omega,by go_num,by rw [HSU.out];rfl,HWv.out⟩
       case measure=>have:=HLT.out;simp [intOf];omega
     ·have hltI:¬ (k:Int) < n1:=by omega
      obtain rfl:k=n1:=by omega
      have HIN:Hid (inB G x q k=hasB (recL G x) q):=by unfold Hid;rw [← in_all HRT.out HXL.out.1 HXL.out.2,HN1.out]
      rw [HIN.out]
      have HS2e:=Lib.hid (HS2d.out.below HW.out)
      clear HS1d HS2d H10 HIN hltI hlt hk
      obtain ⟨wo,rfl⟩:∃ wo:World,wo=wr:=⟨_,rfl⟩
      go_wp2_with fail
      go_loopw [13] (fun i wr=>∃ k:Nat,1<=k/\(k<=n2∨k=1)/\i=.int .i64 k/\Hid (Below wo.heap.size wo wr)) (fun i _=>n2 - (intOf i).toNat)
      case atStart=>exact ⟨1,Nat.le_refl _,.inr rfl,rfl,Below.refl _ _⟩
      case round=>
       obtain ⟨j,hj1,hj2,rfl,HW2⟩:=hrel
       by_cases hjt:j < n2
       ·have hjtI:(j:Int) < n2:=by omega
        obtain ⟨p,hp⟩:∃ p,j=p+1:=⟨j - 1,by omega⟩
        have hjp:(j:Int) - 1=p:=by omega
        have hpl:(p:Int) < n2:=by omega
        have hlj:j < (recL G x).length:=by have:=HN2.out;omega
        have hlp:p < (recL G x).length:=by omega
        have hrs:=List.pairwise_iff_getElem.1 (rec_rise G x) p j hlp hlj (by omega)
        obtain ⟨cb,rfl,hcj⟩:=(HS2e.out.below HW2.out).intc j hlj
        obtain ⟨cb',hcb',hcp⟩:=(HS2e.out.below HW2.out).intc p hlp
        cases hcb'
        rw [bt_get hlj,bt_get hlp] at hrs
        have hv:decide (bt (recL G x) j<=bt (recL G x) p)=false:=decide_eq_false (by omega)
        generalize bt (recL G x) j=vj at *
        generalize bt (recL G x) p=vp at *
        have kj:∀ y:Later wr,y.val.cell? (cb.add j)=some (.int .i64 vj):=fun y=>(y.ok.cell (World.block_lt_of_cell? wr _ hcj)).trans hcj
        have kp:∀ y:Later wr,y.val.cell? (cb.add p)=some (.int .i64 vp):=fun y=>(y.ok.cell (World.block_lt_of_cell? wr _ hcp)).trans hcp
        have HLT:=Lib.hid hjt
        have hvn:¬ vj<=vp:=by simpa using hv
        clear hcj hcp hrs hlj hlp hp hjt hj2
        go_wp2_with fail
        refine wp_region_later (by kernel_rfl) (by kernel_rfl) ?_
        repeat (go_big_quiet_step (fail))
        refine wpQuiet_nil ?_
        intro w5 hw5
        obtain ⟨y,rfl⟩:=hw5
        have HWy:=Lib.hid (HW2.out.trans (y.ok.mono HW2.out.size))
        clear kj kp
        go_wp2_with fail
        go_roundw
        case rel=>exact ⟨j+1,by omega,.inl (by have:=HLT.out;omega),by go_num,HWy.out⟩
        case measure=>have:=HLT.out;simp [intOf];omega
       ·have hjtI:¬ (j:Int) < n2:=by omega
        go_wp2_with fail
        refine (has_any wr ao2 n2 c2 _ (HS2e.out.below HW2.out) q).mono ?_
        rintro e u6 ⟨rfl,hb⟩
        have HBZ:=Lib.hid (HBG.out.trans ((HW.out.trans ((HW2.out.trans (hb.mono HW2.out.size)).mono HW.out.size)).mono HBG.out.size))
        have hee:(hasB (recL G x) q == hasB (recL G x) q)=true:=by simp
        clear hb
        go_wp2_with fail
        go_ret
        exact ⟨rfl,HB5.out.trans (HBZ.out.mono HB5.out.size)⟩
 ·have hmI:(300:Int) < m:=by omega
  go_wp2_with fail
  go_ret
  exact ⟨rfl,HB3.out⟩
end Go.Proofs.YtgjhepblpdnkcaaGreatDoor
namespace Go.Proofs.YtgjhepblpdnkcaaGreatDoor
open Go.RowKit
set_option maxRecDepth 100000
set_option maxHeartbeats 1000000

theorem rrule_any (w:World) (ro:Option Addr) (rn rc:Nat) (no:Option Addr) (nn nc:Nat) (l:List Ru) (hr:Sv w ro rn rc 2 (l.flatMap ruc)) (s:ByteArray):
  Calls Tryz.prog 66 #[grv ro rn rc no nn nc,.string s] w fun e w'=>e=.returned (.int .i64 (ruleIx l s))/\Below w.heap.size w w':=by
 obtain ⟨b1,b2⟩:=hr.bound
 have hl:=hr.n_eq ruc_len (by decide)
 have HR:=Lib.hid hr
 have HL:=Lib.hid hl
 unfold grv
 clear hr hl
 go_enter Tryz.func66,Tryz.ntmps66
 go_wp2_with fail
 have HB0:=Lib.hid (al1 (Below.refl w.heap.size w) (.cells #[.slice ro rn rc,.slice no nn nc] 25))
 have HG0:=Lib.hid (hrow.new w #[.slice ro rn rc,.slice no nn nc] 25)
 revert HB0 HG0
 generalize w.alloc (.cells #[.slice ro rn rc,.slice no nn nc] 25)=w0
 intro HB0 HG0
 go_loopw [5] (fun i wr=>∃ k:Nat,k<=rn/\i=.int .i64 k/\Hid (Below w0.heap.size w0 wr/\∀ i,(h:i < k)->(h':i < l.length)->(l[i]'h').name ≠ s)) (fun i _=>rn - (intOf i).toNat)
 case atStart=>exact ⟨0,by omega,rfl,Below.refl _ _,fun i h=>absurd h (by omega)⟩
 case round=>
  obtain ⟨k,hk,rfl,HI⟩:=hrel
  have bg0:wr.cell? ⟨w.heap.size,0,none⟩=some (.slice ro rn rc):=(HG0.out.below HI.out.1).cell 0
  have HBw:=Lib.hid (HB0.out.trans (HI.out.1.mono HB0.out.size))
  by_cases hlt2:k < rn
  ·have hk':(k:Int) < rn:=by omega
   have hkz:(0:Int)<=k:=by omega
   have hkl:k < l.length:=by have:=HL.out;omega
   obtain ⟨ra,rfl,hc⟩:=Sv.at ruc_len (HR.out.below HBw.out) (by decide) k hkl
   have c0:wr.cell? (ra.add (k * 2))=some (.string (l[k]'hkl).name):=hc 0 _ rfl
   have HE:=Lib.hid (fun (h:(l[k]'hkl).name=s)=>ruleIx_found hkl h (fun i hi=>HI.out.2 i hi (by omega)))
   have HN:=Lib.hid (fun (h:(l[k]'hkl).name ≠ s)=>(fun i hi h'=>by
    by_cases e:i=k
    ·subst e;exact h
    ·exact HI.out.2 i (by omega) h':∀ i,(h:i < k+1)->(h':i < l.length)->(l[i]'h').name ≠ s))
   clear hc
   generalize l[k]'hkl=r at *
   obtain ⟨nm,b⟩:=r
   simp only [] at c0 HE HN
   have HSB:=Lib.hid (str_beq nm s)
   by_cases he:nm=s
   ·have HRes:=Lib.hid (HE.out he)
    have heq:(nm.toList == s.toList)=true:=by rw [HSB.out];simpa using he
    clear HE HN
    go_wp2_with fail
    exact bodyPost_ret (v:=.int .i64 k) (by simp [results,Tryz.results66,go_sem]) rfl ⟨ret_int HRes.out.symm,HBw.out⟩
   ·have HRes:=Lib.hid (HN.out he)
    have heq:(nm.toList == s.toList)=false:=by rw [HSB.out];simpa using he
    clear HE HN
    go_wp2_with fail
    go_roundw
    case rel=>exact ⟨k+1,by omega,by go_num,HI.out.1,HRes.out⟩
    case measure=>simp [intOf];omega
  ·have hge:(rn:Int)<=k:=by omega
   have HRes:=Lib.hid (ruleIx_none (fun i h=>HI.out.2 i (by have:=HL.out;omega) h))
   go_wp2_with fail
   exact bodyPost_ret (v:=.int .i64 (-1)) (by simp [results,Tryz.results66,go_sem]) rfl ⟨ret_int HRes.out.symm,HBw.out⟩

/-- A byte at a place of a name. -/
def nmB (i c:Nat):Bool:=letB c || (decide (1<=i) && digB c)
theorem nameB_all {s:ByteArray} (h:∀ j,(hj:j < s.size)->nmB j (s[j]'hj).toNat=true):nameB s=(decide (1<=s.size) && decide (s.size<=32)):=by
 unfold nameB
 rw [Bool.and_eq_left_iff_imp]
 intro _
 rw [List.all_eq_true]
 intro j hj
 have hj':j < s.size:=by simpa using hj
 have:=h j hj'
 unfold nmB at this
 rwa [show s.get! j=s[j]'hj' from by simp [ByteArray.get!,hj'];rfl] 
theorem nameB_bad {s:ByteArray} {j:Nat} (hj:j < s.size) (h:nmB j (s[j]'hj).toNat=false):nameB s=false:=by
 unfold nameB
 rw [Bool.eq_false_iff]
 intro hx
 rw [Bool.and_eq_true,List.all_eq_true] at hx
 have:=hx.2 j (by simpa using hj)
 rw [show s.get! j=s[j]'hj from by simp [ByteArray.get!,hj];rfl] at this
 unfold nmB at h
 rw [this] at h
 cases h

theorem rname_any (w:World) (s:ByteArray) (hs:s.size<=9223372036854775807):Calls Tryz.prog 160 #[.string s] w fun e w'=>e=.returned (.bool (nameB s))/\Below w.heap.size w w':=by
 go_enter Tryz.func160,Tryz.ntmps160
 go_wp2_with fail
 go_loopw [3,4,5] (fun i c l wr=>∃ k:Nat,k<=s.size/\i=.int .i64 k/\Hid (Below w.heap.size w wr)/\Hid (∀ j,j < k->(hj:j < s.size)->nmB j (s[j]'hj).toNat=true)) (fun i _ _ _=>s.size - (intOf i).toNat)
 case atStart=>exact ⟨0,by omega,rfl,Below.refl _ _,fun i h=>absurd h (by omega)⟩
 case round=>
  obtain ⟨k,hk,rfl,HI,HQ⟩:=hrel
  by_cases hlt:k < s.size
  ·have hlt':(k:Int) < s.size:=by omega
   have hkz:(0:Int)<=k:=by omega
   have hc:(s[k]'hlt).toNat < 256:=UInt8.toNat_lt _
   have HBad:=Lib.hid (fun h=>nameB_bad (s:=s) hlt h)
   have HOk:=Lib.hid (fun (h:nmB k (s[k]'hlt).toNat=true)=>(fun j hj hj'=>by
    by_cases e:j=k
    ·subst e;exact h
    ·exact HQ.out j (by omega) hj':∀ j,j < k+1->(hj:j < s.size)->nmB j (s[j]'hj).toNat=true))
   have hgd:s.data[k]?=some (s[k]'hlt):=by simp [hlt];rfl
   go_upto_region 5 with (fail)
   clear hgd
   generalize (s[k]'hlt).toNat=c at *
   have hcl:(0<=c/\c<=47)∨(48<=c/\c<=57)∨(58<=c/\c<=64)∨(65<=c/\c<=90)∨(91<=c/\c<=94)∨(95<=c/\c<=95)∨(96<=c/\c<=96)∨(97<=c/\c<=122)∨(123<=c/\c<=255):=by omega
   rcases hcl with ⟨hl1,hl2⟩ | ⟨hl1,hl2⟩ | ⟨hl1,hl2⟩ | ⟨hl1,hl2⟩ | ⟨hl1,hl2⟩ | ⟨hl1,hl2⟩ | ⟨hl1,hl2⟩ | ⟨hl1,hl2⟩ | ⟨hl1,hl2⟩
   ·have f1:(c:Int) < 97:=by omega
    have f2:(c:Int)<=122:=by omega
    have f3:(c:Int) < 65:=by omega
    have f4:(c:Int)<=90:=by omega
    have f5:((c:Int) == 95)=false:=by simp;omega
    have f6:(c:Int) < 48:=by omega
    have f7:(c:Int)<=57:=by omega
    by_cases hk0:k=0
    ·have g0:((k:Int) == 0)=true:=by simp;omega
     have HRes:=Lib.hid (HBad.out (by unfold nmB letB digB;simp;omega))
     clear HOk HBad hl1 hl2
     go_wp2_with fail
     exact bodyPost_ret (v:=.bool false) (by simp [results,Tryz.results160,go_sem]) rfl ⟨ret_bool HRes.out.symm,HI.out⟩
     all_goals (exfalso;rename_i hx;simp at hx;omega)
    ·have g0:((k:Int) == 0)=false:=by simp;omega
     have HRes:=Lib.hid (HBad.out (by unfold nmB letB digB;simp;omega))
     clear HOk HBad hl1 hl2
     go_wp2_with fail
     exact bodyPost_ret (v:=.bool false) (by simp [results,Tryz.results160,go_sem]) rfl ⟨ret_bool HRes.out.symm,HI.out⟩
     all_goals (exfalso;rename_i hx;simp at hx;omega)
   ·have f1:(c:Int) < 97:=by omega
    have f2:(c:Int)<=122:=by omega
    have f3:(c:Int) < 65:=by omega
    have f4:(c:Int)<=90:=by omega
    have f5:((c:Int) == 95)=false:=by simp;omega
    have f6:(48:Int)<=c:=by omega
    have f7:(c:Int)<=57:=by omega
    by_cases hk0:k=0
    ·have g0:((k:Int) == 0)=true:=by simp;omega
     have HRes:=Lib.hid (HBad.out (by unfold nmB letB digB;simp;omega))
     clear HOk HBad hl1 hl2
     go_wp2_with fail
     exact bodyPost_ret (v:=.bool false) (by simp [results,Tryz.results160,go_sem]) rfl ⟨ret_bool HRes.out.symm,HI.out⟩
     all_goals (exfalso;rename_i hx;simp at hx;omega)
    ·have g0:((k:Int) == 0)=false:=by simp;omega
     have HRes:=Lib.hid (HOk.out (by unfold nmB letB digB;simp;omega))
     clear HOk HBad hl1 hl2
     go_wp2_with fail
     go_roundw
     case rel=>exact ⟨k+1,by omega,by go_num,HI.out,HRes.out⟩
     case measure=>simp [intOf];omega
   ·have f1:(c:Int) < 97:=by omega
    have f2:(c:Int)<=122:=by omega
    have f3:(c:Int) < 65:=by omega
    have f4:(c:Int)<=90:=by omega
    have f5:((c:Int) == 95)=false:=by simp;omega
    have f6:(48:Int)<=c:=by omega
    have f7:(57:Int) < c:=by omega
    by_cases hk0:k=0
    ·have g0:((k:Int) == 0)=true:=by simp;omega
     have HRes:=Lib.hid (HBad.out (by unfold nmB letB digB;simp;omega))
     clear HOk HBad hl1 hl2
     go_wp2_with fail
     exact bodyPost_ret (v:=.bool false) (by simp [results,Tryz.results160,go_sem]) rfl ⟨ret_bool HRes.out.symm,HI.out⟩
     all_goals (exfalso;rename_i hx;simp at hx;omega)
    ·have g0:((k:Int) == 0)=false:=by simp;omega
     have HRes:=Lib.hid (HBad.out (by unfold nmB letB digB;simp;omega))
     clear HOk HBad hl1 hl2
     go_wp2_with fail
     exact bodyPost_ret (v:=.bool false) (by simp [results,Tryz.results160,go_sem]) rfl ⟨ret_bool HRes.out.symm,HI.out⟩
     all_goals (exfalso;rename_i hx;simp at hx;omega)
   ·have f1:(c:Int) < 97:=by omega
    have f2:(c:Int)<=122:=by omega
    have f3:(65:Int)<=c:=by omega
    have f4:(c:Int)<=90:=by omega
    have f5:((c:Int) == 95)=false:=by simp;omega
    have f6:(48:Int)<=c:=by omega
    have f7:(57:Int) < c:=by omega
    have HRes:=Lib.hid (HOk.out (by unfold nmB letB digB;simp;omega))
    clear HOk HBad hl1 hl2
    go_wp2_with fail
    go_roundw
    case rel=>exact ⟨k+1,by omega,by go_num,HI.out,HRes.out⟩
    case measure=>simp [intOf];omega
   ·have f1:(c:Int) < 97:=by omega
    have f2:(c:Int)<=122:=by omega
    have f3:(65:Int)<=c:=by omega
    have f4:(90:Int) < c:=by omega
    have f5:((c:Int) == 95)=false:=by simp;omega
    have f6:(48:Int)<=c:=by omega
    have f7:(57:Int) < c:=by omega
    by_cases hk0:k=0
    ·have g0:((k:Int) == 0)=true:=by simp;omega
     have HRes:=Lib.hid (HBad.out (by unfold nmB letB digB;simp;omega))
     clear HOk HBad hl1 hl2
     go_wp2_with fail
     exact bodyPost_ret (v:=.bool false) (by simp [results,Tryz.results160,go_sem]) rfl ⟨ret_bool HRes.out.symm,HI.out⟩
     all_goals (exfalso;rename_i hx;simp at hx;omega)
    ·have g0:((k:Int) == 0)=false:=by simp;omega
     have HRes:=Lib.hid (HBad.out (by unfold nmB letB digB;simp;omega))
     clear HOk HBad hl1 hl2
     go_wp2_with fail
     exact bodyPost_ret (v:=.bool false) (by simp [results,Tryz.results160,go_sem]) rfl ⟨ret_bool HRes.out.symm,HI.out⟩
     all_goals (exfalso;rename_i hx;simp at hx;omega)
   ·have f1:(c:Int) < 97:=by omega
    have f2:(c:Int)<=122:=by omega
    have f3:(65:Int)<=c:=by omega
    have f4:(90:Int) < c:=by omega
    have f5:((c:Int) == 95)=true:=by simp;omega
    have f6:(48:Int)<=c:=by omega
    have f7:(57:Int) < c:=by omega
    have HRes:=Lib.hid (HOk.out (by unfold nmB letB digB;simp;omega))
    clear HOk HBad hl1 hl2
    go_wp2_with fail
    go_roundw
    case rel=>exact ⟨k+1,by omega,by go_num,HI.out,HRes.out⟩
    case measure=>simp [intOf];omega
   ·have f1:(c:Int) < 97:=by omega
    have f2:(c:Int)<=122:=by omega
    have f3:(65:Int)<=c:=by omega
    have f4:(90:Int) < c:=by omega
    have f5:((c:Int) == 95)=false:=by simp;omega
    have f6:(48:Int)<=c:=by omega
    have f7:(57:Int) < c:=by omega
    by_cases hk0:k=0
    ·have g0:((k:Int) == 0)=true:=by simp;omega
     have HRes:=Lib.hid (HBad.out (by unfold nmB letB digB;simp;omega))
     clear HOk HBad hl1 hl2
     go_wp2_with fail
     exact bodyPost_ret (v:=.bool false) (by simp [results,Tryz.results160,go_sem]) rfl ⟨ret_bool HRes.out.symm,HI.out⟩
     all_goals (exfalso;rename_i hx;simp at hx;omega)
    ·have g0:((k:Int) == 0)=false:=by simp;omega
     have HRes:=Lib.hid (HBad.out (by unfold nmB letB digB;simp;omega))
     clear HOk HBad hl1 hl2
     go_wp2_with fail
     exact bodyPost_ret (v:=.bool false) (by simp [results,Tryz.results160,go_sem]) rfl ⟨ret_bool HRes.out.symm,HI.out⟩
     all_goals (exfalso;rename_i hx;simp at hx;omega)
   ·have f1:(97:Int)<=c:=by omega
    have f2:(c:Int)<=122:=by omega
    have f3:(65:Int)<=c:=by omega
    have f4:(90:Int) < c:=by omega
    have f5:((c:Int) == 95)=false:=by simp;omega
    have f6:(48:Int)<=c:=by omega
    have f7:(57:Int) < c:=by omega
    have HRes:=Lib.hid (HOk.out (by unfold nmB letB digB;simp;omega))
    clear HOk HBad hl1 hl2
    go_wp2_with fail
    go_roundw
    case rel=>exact ⟨k+1,by omega,by go_num,HI.out,HRes.out⟩
    case measure=>simp [intOf];omega
   ·have f1:(97:Int)<=c:=by omega
    have f2:(122:Int) < c:=by omega
    have f3:(65:Int)<=c:=by omega
    have f4:(90:Int) < c:=by omega
    have f5:((c:Int) == 95)=false:=by simp;omega
    have f6:(48:Int)<=c:=by omega
    have f7:(57:Int) < c:=by omega
    by_cases hk0:k=0
    ·have g0:((k:Int) == 0)=true:=by simp;omega
     have HRes:=Lib.hid (HBad.out (by unfold nmB letB digB;simp;omega))
     clear HOk HBad hl1 hl2
     go_wp2_with fail
     exact bodyPost_ret (v:=.bool false) (by simp [results,Tryz.results160,go_sem]) rfl ⟨ret_bool HRes.out.symm,HI.out⟩
     all_goals (exfalso;rename_i hx;simp at hx;omega)
    ·have g0:((k:Int) == 0)=false:=by simp;omega
     have HRes:=Lib.hid (HBad.out (by unfold nmB letB digB;simp;omega))
     clear HOk HBad hl1 hl2
     go_wp2_with fail
     exact bodyPost_ret (v:=.bool false) (by simp [results,Tryz.results160,go_sem]) rfl ⟨ret_bool HRes.out.symm,HI.out⟩
     all_goals (exfalso;rename_i hx;simp at hx;omega)
  ·have HAll:=Lib.hid (nameB_all (fun j hj=>HQ.out j (by omega) hj))
   by_cases h1:1<=s.size
   ·have h1':(1:Int)<=s.size:=by omega
    have hge:(s.size:Int)<=k:=by omega
    have HRes:Hid (nameB s=decide ((s.size:Int)<=32)):=by
     show _=_
     rw [HAll.out,Bool.eq_iff_iff];simp;omega
    go_wp2_with fail
    exact bodyPost_ret (v:=.bool (decide ((s.size:Int)<=32))) (by simp [results,Tryz.results160,go_sem]) rfl ⟨ret_bool HRes.out.symm,HI.out⟩
   ·have h1':s.size=0:=by omega
    have HF:=Lib.hid (show nameB s=false by rw [HAll.out,h1'];rfl)
    have hge:(s.size:Int)<=k:=by omega
    have hge0:(0:Int)<=k:=by omega
    go_wp2_with fail
    exact bodyPost_ret (v:=.bool false) (by simp [results,Tryz.results160,go_sem]) rfl ⟨ret_bool HF.out.symm,HI.out⟩
end Go.Proofs.YtgjhepblpdnkcaaGreatDoor
namespace Go.Proofs.YtgjhepblpdnkcaaGreatDoor
open Go.RowKit
set_option maxRecDepth 100000
set_option maxHeartbeats 4000000

theorem knd (k:Int):k=1∨k=2∨k=3∨k=4∨k=5∨k=6∨k=7∨k=8∨k=9∨k=10∨k=11∨k=12∨((k == 1)=false/\(k == 2)=false/\(k == 3)=false/\(k == 4)=false/\(k == 5)=false/\(k == 6)=false/\(k == 7)=false/\(k == 8)=false/\(k == 9)=false/\(k == 10)=false/\(k == 11)=false/\(k == 12)=false):=by
 simp only [beq_eq_false_iff_ne]
 omega
theorem cls_b {kind a b c d:Int} {t:ByteArray} {r l:Int} {kids:List Int}:clsB ⟨kind,a,b,c,d,t,r,l,kids⟩=!(!(a == 0) || !(b == 0) || !(c == 0) || !(d == 0)):=by
 unfold clsB
 simp only []
 cases a == 0 <;> cases b == 0 <;> cases c == 0 <;> cases d == 0 <;> rfl
theorem txt_b {kind a b c d:Int} {t:ByteArray} {r l:Int} {kids:List Int}:txtB ⟨kind,a,b,c,d,t,r,l,kids⟩=!(!t.toList.isEmpty):=by
 unfold txtB
 rw [Bool.not_not,Bool.eq_iff_iff]
 simp [str_nil]

theorem rnode_00 (w:World) (kind a b c d:Int) (t:ByteArray) (kids:List Int) (ka:Option Addr) (kc:Nat) (n:Nat) (ht:t.size<=9223372036854775807):
  Calls Tryz.prog 159 #[ndv ⟨kind,a,b,c,d,t,0,0,kids⟩ ka kc,.int .i64 n] w fun e w'=>e=.returned (.bool (nodeB n ⟨kind,a,b,c,d,t,0,0,kids⟩))/\Below w.heap.size w w':=by
 unfold ndv
 have hce:=cls_eq
 go_enter Tryz.func159,Tryz.ntmps159
 go_wp2_with fail
 go_region
 have HC:=Lib.hid (cls_b (kind:=kind) (a:=a) (b:=b) (c:=c) (d:=d) (t:=t) (r:=0) (l:=0) (kids:=kids))
 have HT:=Lib.hid (txt_b (kind:=kind) (a:=a) (b:=b) (c:=c) (d:=d) (t:=t) (r:=0) (l:=0) (kids:=kids))
 have HL:Hid (calB ⟨kind,a,b,c,d,t,0,0,kids⟩=true):=by show _=_;unfold calB;simp
 have HB:=Lib.hid ((al2 (Below.refl w.heap.size w) (.cells #[.int .i64 kind,.int .u64 a,.int .u64 b,.int .u64 c,.int .u64 d,.string t,.int .i64 0,.int .i64 0,.slice ka kids.length kc] 45) (.cells #[.int .u64 0,.int .u64 0,.int .u64 0,.int .u64 0] 43)).drew)
 have HX:=Lib.hid (((hrow.new w #[.int .i64 kind,.int .u64 a,.int .u64 b,.int .u64 c,.int .u64 d,.string t,.int .i64 0,.int .i64 0,.slice ka kids.length kc] 45).below ((Below.refl _ _).alloc (Nat.le_refl _) (.cells #[.int .u64 0,.int .u64 0,.int .u64 0,.int .u64 0] 43))).below (Below.refl _ _).drew)
 revert HC HT HB HX
 generalize ((w.alloc (.cells #[.int .i64 kind,.int .u64 a,.int .u64 b,.int .u64 c,.int .u64 d,.string t,.int .i64 0,.int .i64 0,.slice ka kids.length kc] 45)).alloc (.cells #[.int .u64 0,.int .u64 0,.int .u64 0,.int .u64 0] 43)).drew=w2
 generalize (!(a == 0) || !(b == 0) || !(c == 0) || !(d == 0))=cb
 generalize (!t.toList.isEmpty)=tb
 intro HC HT HB HX
 have x0:w2.cell? ⟨w.heap.size,0,none⟩=some (.int .i64 kind):=HX.out.cell 0
 have x5:w2.cell? ⟨w.heap.size,5,none⟩=some (.string t):=HX.out.cell 5
 have x6:w2.cell? ⟨w.heap.size,6,none⟩=some (.int .i64 0):=HX.out.cell 6
 have x7:w2.cell? ⟨w.heap.size,7,none⟩=some (.int .i64 0):=HX.out.cell 7
 have x8:w2.cell? ⟨w.heap.size,8,none⟩=some (.slice ka kids.length kc):=HX.out.cell 8
 clear hce HX
 rcases knd kind with rfl | rfl | rfl | rfl | rfl | rfl | rfl | rfl | rfl | rfl | rfl | rfl | hk
 ·cases cb <;> cases tb
  all_goals
   go_wp2_with fail
   all_goals
    go_ret
    refine ⟨ret_bool ?_,HB.out⟩
    have hC:=HC.out
    have hT:=HT.out
    have hL:=HL.out
    unfold nodeB
    simp only [hC,hT,hL]
    (rw [Bool.eq_iff_iff];simp;first | done | omega | grind)
 ·cases cb <;> cases tb
  all_goals
   go_wp2_with fail
   all_goals
    go_ret
    refine ⟨ret_bool ?_,HB.out⟩
    have hC:=HC.out
    have hT:=HT.out
    have hL:=HL.out
    unfold nodeB
    simp only [hC,hT,hL]
    (rw [Bool.eq_iff_iff];simp;first | done | omega | grind)
 ·cases cb <;> cases tb
  all_goals
   go_wp2_with fail
   all_goals
    go_ret
    refine ⟨ret_bool ?_,HB.out⟩
    have hC:=HC.out
    have hT:=HT.out
    have hL:=HL.out
    unfold nodeB
    simp only [hC,hT,hL]
    (rw [Bool.eq_iff_iff];simp;first | done | omega | grind)
 ·cases cb <;> cases tb
  all_goals
   go_wp2_with fail
   all_goals
    go_ret
    refine ⟨ret_bool ?_,HB.out⟩
    have hC:=HC.out
    have hT:=HT.out
    have hL:=HL.out
    unfold nodeB
    simp only [hC,hT,hL]
    (rw [Bool.eq_iff_iff];simp;first | done | omega | grind)
 ·cases cb <;> cases tb
  all_goals
   go_wp2_with fail
   all_goals
    go_ret
    refine ⟨ret_bool ?_,HB.out⟩
    have hC:=HC.out
    have hT:=HT.out
    have hL:=HL.out
    unfold nodeB
    simp only [hC,hT,hL]
    (rw [Bool.eq_iff_iff];simp;first | done | omega | grind)
 ·cases cb <;> cases tb
  all_goals
   go_wp2_with fail
   all_goals
    go_ret
    refine ⟨ret_bool ?_,HB.out⟩
    have hC:=HC.out
    have hT:=HT.out
    have hL:=HL.out
    unfold nodeB
    simp only [hC,hT,hL]
    (rw [Bool.eq_iff_iff];simp;first | done | omega | grind)
 ·cases cb <;> cases tb
  all_goals
   go_wp2_with fail
   all_goals
    go_ret
    refine ⟨ret_bool ?_,HB.out⟩
    have hC:=HC.out
    have hT:=HT.out
    have hL:=HL.out
    unfold nodeB
    simp only [hC,hT,hL]
    (rw [Bool.eq_iff_iff];simp;first | done | omega | grind)
 ·cases cb <;> cases tb
  all_goals
   go_wp2_with fail
   all_goals
    go_ret
    refine ⟨ret_bool ?_,HB.out⟩
    have hC:=HC.out
    have hT:=HT.out
    have hL:=HL.out
    unfold nodeB
    simp only [hC,hT,hL]
    (rw [Bool.eq_iff_iff];simp;first | done | omega | grind)
 ·cases cb <;> cases tb
  all_goals
   go_wp2_with fail
   all_goals
    go_ret
    refine ⟨ret_bool ?_,HB.out⟩
    have hC:=HC.out
    have hT:=HT.out
    have hL:=HL.out
    unfold nodeB
    simp only [hC,hT,hL]
    (rw [Bool.eq_iff_iff];simp;first | done | omega | grind)
 ·cases cb <;> cases tb
  all_goals
   go_wp2_with fail
   all_goals
    go_ret
    refine ⟨ret_bool ?_,HB.out⟩
    have hC:=HC.out
    have hT:=HT.out
    have hL:=HL.out
    unfold nodeB
    simp only [hC,hT,hL]
    (rw [Bool.eq_iff_iff];simp;first | done | omega | grind)
 ·cases cb <;> cases tb
  all_goals
   go_wp2_with fail
   all_goals
    go_ret
    refine ⟨ret_bool ?_,HB.out⟩
    have hC:=HC.out
    have hT:=HT.out
    have hL:=HL.out
    unfold nodeB
    simp only [hC,hT,hL]
    (rw [Bool.eq_iff_iff];simp;first | done | omega | grind)
 ·cases cb <;> cases tb
  all_goals
   go_wp2_with fail
   all_goals
    go_ret
    refine ⟨ret_bool ?_,HB.out⟩
    have hC:=HC.out
    have hT:=HT.out
    have hL:=HL.out
    unfold nodeB
    simp only [hC,hT,hL]
    (rw [Bool.eq_iff_iff];simp;first | done | omega | grind)
 ·obtain ⟨k1,k2,k3,k4,k5,k6,k7,k8,k9,k10,k11,k12⟩:=hk
  have HN:Hid (nodeB n ⟨kind,a,b,c,d,t,0,0,kids⟩=false):=by
   show _=_
   have k1':=beq_eq_false_iff_ne.1 k1
   have k2':=beq_eq_false_iff_ne.1 k2
   have k3':=beq_eq_false_iff_ne.1 k3
   have k4':=beq_eq_false_iff_ne.1 k4
   have k5':=beq_eq_false_iff_ne.1 k5
   have k6':=beq_eq_false_iff_ne.1 k6
   have k7':=beq_eq_false_iff_ne.1 k7
   have k8':=beq_eq_false_iff_ne.1 k8
   have k9':=beq_eq_false_iff_ne.1 k9
   have k10':=beq_eq_false_iff_ne.1 k10
   have k11':=beq_eq_false_iff_ne.1 k11
   have k12':=beq_eq_false_iff_ne.1 k12
   unfold nodeB
   simp only []
   rw [if_neg (by omega),if_neg (by omega),if_neg (by omega),if_neg (by omega),if_neg (by omega),if_neg (by omega)]
  go_wp2_with fail
  go_ret
  exact ⟨ret_bool HN.out.symm,HB.out⟩
end Go.Proofs.YtgjhepblpdnkcaaGreatDoor
namespace Go.Proofs.YtgjhepblpdnkcaaGreatDoor
open Go.RowKit
set_option maxRecDepth 100000
set_option maxHeartbeats 4000000

theorem rnode_0l (w:World) (kind a b c d:Int) (t:ByteArray) (l:Int) (kids:List Int) (ka:Option Addr) (kc:Nat) (n:Nat) (hl:(l == 0)=false):
  Calls Tryz.prog 159 #[ndv ⟨kind,a,b,c,d,t,0,l,kids⟩ ka kc,.int .i64 n] w fun e w'=>e=.returned (.bool (nodeB n ⟨kind,a,b,c,d,t,0,l,kids⟩))/\Below w.heap.size w w':=by
 unfold ndv
 have hce:=cls_eq
 go_enter Tryz.func159,Tryz.ntmps159
 go_wp2_with fail
 go_region
 have HC:=Lib.hid (cls_b (kind:=kind) (a:=a) (b:=b) (c:=c) (d:=d) (t:=t) (r:=0) (l:=l) (kids:=kids))
 have HT:=Lib.hid (txt_b (kind:=kind) (a:=a) (b:=b) (c:=c) (d:=d) (t:=t) (r:=0) (l:=l) (kids:=kids))
 have HL:Hid (calB ⟨kind,a,b,c,d,t,0,l,kids⟩=false):=by show _=_;unfold calB;simp only [beq_eq_false_iff_ne,ne_eq,Bool.and_eq_false_iff];simp_all;first | done | omega
 have HB:=Lib.hid ((al2 (Below.refl w.heap.size w) (.cells #[.int .i64 kind,.int .u64 a,.int .u64 b,.int .u64 c,.int .u64 d,.string t,.int .i64 0,.int .i64 l,.slice ka kids.length kc] 45) (.cells #[.int .u64 0,.int .u64 0,.int .u64 0,.int .u64 0] 43)).drew)
 have HX:=Lib.hid (((hrow.new w #[.int .i64 kind,.int .u64 a,.int .u64 b,.int .u64 c,.int .u64 d,.string t,.int .i64 0,.int .i64 l,.slice ka kids.length kc] 45).below ((Below.refl _ _).alloc (Nat.le_refl _) (.cells #[.int .u64 0,.int .u64 0,.int .u64 0,.int .u64 0] 43))).below (Below.refl _ _).drew)
 revert HC HT HB HX
 generalize ((w.alloc (.cells #[.int .i64 kind,.int .u64 a,.int .u64 b,.int .u64 c,.int .u64 d,.string t,.int .i64 0,.int .i64 l,.slice ka kids.length kc] 45)).alloc (.cells #[.int .u64 0,.int .u64 0,.int .u64 0,.int .u64 0] 43)).drew=w2
 generalize (!(a == 0) || !(b == 0) || !(c == 0) || !(d == 0))=cb
 generalize (!t.toList.isEmpty)=tb
 intro HC HT HB HX
 have x0:w2.cell? ⟨w.heap.size,0,none⟩=some (.int .i64 kind):=HX.out.cell 0
 have x5:w2.cell? ⟨w.heap.size,5,none⟩=some (.string t):=HX.out.cell 5
 have x6:w2.cell? ⟨w.heap.size,6,none⟩=some (.int .i64 0):=HX.out.cell 6
 have x7:w2.cell? ⟨w.heap.size,7,none⟩=some (.int .i64 l):=HX.out.cell 7
 have x8:w2.cell? ⟨w.heap.size,8,none⟩=some (.slice ka kids.length kc):=HX.out.cell 8
 clear hce HX
 rcases knd kind with rfl | rfl | rfl | rfl | rfl | rfl | rfl | rfl | rfl | rfl | rfl | rfl | hk
 ·cases cb <;> cases tb
  all_goals
   go_wp2_with fail
   all_goals
    go_ret
    refine ⟨ret_bool ?_,HB.out⟩
    have hC:=HC.out
    have hT:=HT.out
    have hL:=HL.out
    unfold nodeB
    simp only [hC,hT,hL]
    (rw [Bool.eq_iff_iff];simp;first | done | omega | grind)
 ·cases cb <;> cases tb
  all_goals
   go_wp2_with fail
   all_goals
    go_ret
    refine ⟨ret_bool ?_,HB.out⟩
    have hC:=HC.out
    have hT:=HT.out
    have hL:=HL.out
    unfold nodeB
    simp only [hC,hT,hL]
    (rw [Bool.eq_iff_iff];simp;first | done | omega | grind)
 ·cases cb <;> cases tb
  all_goals
   go_wp2_with fail
   all_goals
    go_ret
    refine ⟨ret_bool ?_,HB.out⟩
    have hC:=HC.out
    have hT:=HT.out
    have hL:=HL.out
    unfold nodeB
    simp only [hC,hT,hL]
    (rw [Bool.eq_iff_iff];simp;first | done | omega | grind)
 ·cases cb <;> cases tb
  all_goals
   go_wp2_with fail
   all_goals
    go_ret
    refine ⟨ret_bool ?_,HB.out⟩
    have hC:=HC.out
    have hT:=HT.out
    have hL:=HL.out
    unfold nodeB
    simp only [hC,hT,hL]
    (rw [Bool.eq_iff_iff];simp;first | done | omega | grind)
 ·cases cb <;> cases tb
  all_goals
   go_wp2_with fail
   all_goals
    go_ret
    refine ⟨ret_bool ?_,HB.out⟩
    have hC:=HC.out
    have hT:=HT.out
    have hL:=HL.out
    unfold nodeB
    simp only [hC,hT,hL]
    (rw [Bool.eq_iff_iff];simp;first | done | omega | grind)
 ·cases cb <;> cases tb
  all_goals
   go_wp2_with fail
   all_goals
    go_ret
    refine ⟨ret_bool ?_,HB.out⟩
    have hC:=HC.out
    have hT:=HT.out
    have hL:=HL.out
    unfold nodeB
    simp only [hC,hT,hL]
    (rw [Bool.eq_iff_iff];simp;first | done | omega | grind)
 ·cases cb <;> cases tb
  all_goals
   go_wp2_with fail
   all_goals
    go_ret
    refine ⟨ret_bool ?_,HB.out⟩
    have hC:=HC.out
    have hT:=HT.out
    have hL:=HL.out
    unfold nodeB
    simp only [hC,hT,hL]
    (rw [Bool.eq_iff_iff];simp;first | done | omega | grind)
 ·cases cb <;> cases tb
  all_goals
   go_wp2_with fail
   all_goals
    go_ret
    refine ⟨ret_bool ?_,HB.out⟩
    have hC:=HC.out
    have hT:=HT.out
    have hL:=HL.out
    unfold nodeB
    simp only [hC,hT,hL]
    (rw [Bool.eq_iff_iff];simp;first | done | omega | grind)
 ·cases cb <;> cases tb
  all_goals
   go_wp2_with fail
   all_goals
    go_ret
    refine ⟨ret_bool ?_,HB.out⟩
    have hC:=HC.out
    have hT:=HT.out
    have hL:=HL.out
    unfold nodeB
    simp only [hC,hT,hL]
    (rw [Bool.eq_iff_iff];simp;first | done | omega | grind)
 ·cases cb <;> cases tb
  all_goals
   go_wp2_with fail
   all_goals
    go_ret
    refine ⟨ret_bool ?_,HB.out⟩
    have hC:=HC.out
    have hT:=HT.out
    have hL:=HL.out
    unfold nodeB
    simp only [hC,hT,hL]
    (rw [Bool.eq_iff_iff];simp;first | done | omega | grind)
 ·cases cb <;> cases tb
  all_goals
   go_wp2_with fail
   all_goals
    go_ret
    refine ⟨ret_bool ?_,HB.out⟩
    have hC:=HC.out
    have hT:=HT.out
    have hL:=HL.out
    unfold nodeB
    simp only [hC,hT,hL]
    (rw [Bool.eq_iff_iff];simp;first | done | omega | grind)
 ·cases cb <;> cases tb
  all_goals
   go_wp2_with fail
   all_goals
    go_ret
    refine ⟨ret_bool ?_,HB.out⟩
    have hC:=HC.out
    have hT:=HT.out
    have hL:=HL.out
    unfold nodeB
    simp only [hC,hT,hL]
    (rw [Bool.eq_iff_iff];simp;first | done | omega | grind)
 ·obtain ⟨k1,k2,k3,k4,k5,k6,k7,k8,k9,k10,k11,k12⟩:=hk
  have HN:Hid (nodeB n ⟨kind,a,b,c,d,t,0,l,kids⟩=false):=by
   show _=_
   have k1':=beq_eq_false_iff_ne.1 k1
   have k2':=beq_eq_false_iff_ne.1 k2
   have k3':=beq_eq_false_iff_ne.1 k3
   have k4':=beq_eq_false_iff_ne.1 k4
   have k5':=beq_eq_false_iff_ne.1 k5
   have k6':=beq_eq_false_iff_ne.1 k6
   have k7':=beq_eq_false_iff_ne.1 k7
   have k8':=beq_eq_false_iff_ne.1 k8
   have k9':=beq_eq_false_iff_ne.1 k9
   have k10':=beq_eq_false_iff_ne.1 k10
   have k11':=beq_eq_false_iff_ne.1 k11
   have k12':=beq_eq_false_iff_ne.1 k12
   unfold nodeB
   simp only []
   rw [if_neg (by omega),if_neg (by omega),if_neg (by omega),if_neg (by omega),if_neg (by omega),if_neg (by omega)]
  go_wp2_with fail
  go_ret
  exact ⟨ret_bool HN.out.symm,HB.out⟩
end Go.Proofs.YtgjhepblpdnkcaaGreatDoor
