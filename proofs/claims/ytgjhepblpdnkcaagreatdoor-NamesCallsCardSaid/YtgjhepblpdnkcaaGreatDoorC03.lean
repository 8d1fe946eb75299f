/- Walks and plain laws: Zb Zc FTt FDh. -/
import Derived.Test.YtgjhepblpdnkcaaGreatDoorC02
import Derived.Deep.Onto
import Derived.Test.YtgjhepblpdnkcaaGreatDoorM09
import Derived.Test.YtgjhepblpdnkcaaGreatDoorM08
namespace Go.Proofs.YtgjhepblpdnkcaaGreatDoor
open Go.RowKit
set_option maxRecDepth 100000
set_option maxHeartbeats 8000000

theorem elRows:Elem Tryz.prog 107 112 1 24 (.slice none 0 0):=⟨by kernel_rfl,by kernel_rfl,by decide,by decide⟩
/-- A table, as it lies. -/
structure TabW (w:World) (ao:Option Addr) (cap n:Nat) (bs:Nat->Nat) (E:Nat->Nat->Bool):Prop where
 sv:Sv w ao n cap 1 ((List.range n).map (rowF n bs))
 bit:∀ i,i < n->hrow w (bs i) (arrF n (bitF (E i))) 4
theorem TabW.below {w w':World} {ao:Option Addr} {cap n:Nat} {bs:Nat->Nat} {E:Nat->Nat->Bool} (h:TabW w ao cap n bs E) (hb:Below w.heap.size w w'):TabW w' ao cap n bs E:=⟨h.sv.below hb,fun i hi=>(h.bit i hi).below hb⟩
theorem TabW.at {w:World} {ao:Option Addr} {cap n:Nat} {bs:Nat->Nat} {E:Nat->Nat->Bool} (h:TabW w ao cap n bs E) {i j:Nat} (hi:i < n) (hj:j < n):∃ a,ao=some a/\w.cell? (a.add i)=some (.slice (some ⟨bs i,0,none⟩) n n)/\w.cell? ⟨bs i,j,none⟩=some (.bool (E i j)):=by
 obtain ⟨a,ha,hc⟩:=h.sv.cell i (by simp;exact hi)
 refine ⟨a,ha,by rw [hc];simp [rowF,hi],((h.bit i hi).cell j).trans (arrF_get _ _ _ hj)⟩
/-- A row of rows that has grown: it is the call's own, and rows of truths stay. -/
theorem app_own {z wr w1 w8:World} {v v':Value} {k:Nat} {xs ys:List Value} (hO:Own z wr 112 1 v k xs) (hb:Below wr.heap.size wr w1) (hA:AppTo w1 z.heap.size 112 1 v k xs 1 ys v' w8):
  Own z w8 112 1 v' (k+1) (xs ++ ys)/\∀ (b:Nat) (cs:Array Value),hrow wr b cs 4->hrow w8 b cs 4:=by
 have hO1:=hO.below hb
 rcases hA with ⟨g,cap,e1,e2,hf,h3,h4⟩ | hw
 ·have hg:=(hO1.1.lt g (by rw [e1];rfl)).1
  refine ⟨⟨h3,hO1.2.trans (hf.below hO1.2.size (fun q hq e=>by have e':q=g:=e;omega))⟩,fun b cs h=>(h.below hb).fr hf (fun e=>?_)⟩
  have e':b=g:=e
  subst e'
  have h5:=(h.below hb).h
  rcases hO1.1.2 with ⟨h6,_⟩ | ⟨g1,c1,cur1,h6,_,h7,_⟩
  ·rw [h6] at e1;cases e1
  ·rw [h6] at e1
   simp only [Value.slice.injEq,Option.some.injEq,Addr.mk.injEq] at e1
   obtain ⟨⟨rfl,-,-⟩,-,-⟩:=e1
   rw [h7] at h5
   simp only [Option.some.injEq,Obj.cells.injEq] at h5
   exact absurd h5.2.1 (by decide)
 ·exact ⟨hw.since hO1.2,fun b cs h=>(h.below hb).below hw.2⟩
theorem table_any (w:World) (ro:Option Addr) (rc:Nat) (no:Option Addr) (nc:Nat) (NK:List Nk) (G:Gr) (hG:GrW w ro G.rules.length rc no NK.length nc NK G) (hR:rightP G=true):
  Calls Tryz.prog 87 #[grv ro G.rules.length rc no NK.length nc] w fun e w'=>∃ ao cap bs,e=.returned (.slice ao G.rules.length cap)/\TabW w' ao cap G.rules.length bs (tabB G)/\Below w.heap.size w w':=by
 have hb:=(Below.refl _ w).alloc (Nat.le_refl _) (.cells #[.slice ro G.rules.length rc,.slice no NK.length nc] 25)
 obtain ⟨z,hz⟩:∃ z,w.alloc (.cells #[.slice ro G.rules.length rc,.slice no NK.length nc] 25)=z:=⟨_,rfl⟩
 obtain ⟨g,hg⟩:∃ g,w.heap.size=g:=⟨_,rfl⟩
 have hr:=hrow.new w #[.slice ro G.rules.length rc,.slice no NK.length nc] 25
 rw [hz] at hb hr
 rw [hg] at hr
 have HGR:=Lib.hid (hG.below hb)
 have HGG:=Lib.hid hg;have HZ:=Lib.hid hz;have HB:=Lib.hid hb;have H1:=Lib.hid hr
 have hsz:=right_sizes hR
 have HRT:=Lib.hid hR
 have hnl:G.nodes.length=NK.length:=by rw [← hG.eq,List.length_map]
 have HNL:=Lib.hid hnl
 obtain ⟨rn,hrn⟩:∃ n,G.rules.length=n:=⟨_,rfl⟩
 obtain ⟨nn,hnn⟩:∃ n,NK.length=n:=⟨_,rfl⟩
 have HRN:=Lib.hid hrn;have HNN:=Lib.hid hnn
 rw [hrn,hnn] at HZ H1 HGR ⊢
 have HSZ:Hid (1<=rn/\rn<=32/\nn<=2048):=by unfold Hid;rw [← hrn,← hnn,← hnl];exact hsz
 have hbr:=HGR.out.rul.bound
 have hbn:=HGR.out.nod.sv.bound
 clear hG hg hz hb hr hrn hnn hsz hR hnl
 unfold grv
 go_enter Tryz.func87,Tryz.ntmps87
 go_upto_region 1 with (fail)
 rw [HZ.out,HGG.out]
 go_wp2_with fail
 go_loopw [3,4] (fun v i wr=>∃ (k:Nat) (bs:Nat->Nat),k<=rn/\i=.int .i64 k/\Hid (Own z wr 112 1 v k ((List.range k).map (rowF rn bs)))/\Hid (∀ i,i < k->hrow wr (bs i) (arrF rn (bitF (tabB G i))) 4)) (fun _ i _=>rn - (intOf i).toNat)
 case atStart=>exact ⟨0,fun _=>0,Nat.zero_le _,rfl,Own.nil z 112 1,fun i hi=>by omega⟩
 case round=>
  obtain ⟨k,bs,hk,rfl,HO,HR⟩:=hrel
  obtain ⟨wo,rfl⟩:∃ wo:World,wo=wr:=⟨_,rfl⟩
  have HGk:=Lib.hid (HGR.out.below HO.out.2);have HHk:=Lib.hid (H1.out.below HO.out.2)
  have g0:=HHk.out.cell 0;have g1:=HHk.out.cell 1
  by_cases hlt:k < rn
  ·have hltI:(k:Int) < rn:=by omega
   have HLT:=Lib.hid hlt
   have hkG:k < G.rules.length:=by rw [HRN.out];exact hlt
   obtain ⟨b,hb1,hb2,hb3,hb4⟩:=right_rule HRT.out hkG
   have hmk2:=run_make_row' (P:=Tryz.prog) 112 4 (.bool false) 1 (by kernel_rfl) infoBool rfl .i64 .i64 rn (by have:=HSZ.out;omega) (by have:=HSZ.out;omega)
   rw [made_arrF] at hmk2
   go_upto_region 6 with (fail)
   have HY:Hid (hrow (wo.alloc (.cells (arrF rn fun _=>.bool false) 4)) wo.heap.size (arrF rn (bitF (tabR G b b))) 4):=by
    have h1:=hrow.new wo (arrF rn fun _=>.bool false) 4
    unfold Hid
    have e:arrF rn (bitF (tabR G b b))=arrF rn (fun _=>.bool false):=arrF_congr (fun j _=>by unfold bitF;rw [tabR_zero])
    rw [e];exact h1
   have HBY:=Lib.hid ((Below.refl _ wo).alloc (Nat.le_refl _) (.cells (arrF rn fun _=>.bool false) 4))
   clear hmk2 g0 g1
   obtain ⟨gb,hgb⟩:∃ g,wo.heap.size=g:=⟨_,rfl⟩
   have HGB:Hid (gb=wo.heap.size):=hgb.symm
   rw [hgb] at HY ⊢
   clear hgb
   revert HY HBY
   generalize wo.alloc (.cells (arrF rn fun _=>.bool false) 4)=wy
   intro HBY HY
   have HG1:=Lib.hid (HGk.out.below HBY.out);have HH1:=Lib.hid (HHk.out.below HBY.out)
   have g0:=HH1.out.cell 0;have g1:=HH1.out.cell 1
   obtain ⟨ra,rfl,r0,r1⟩:=HG1.out.rul.ru2 hkG
   rw [← ruAt_in hkG,hb1] at r1
   have HRB:=Lib.hid hb1
   by_cases hk1:k+1 < rn
   ·have hk1I:(k:Int)+1 < rn:=by omega
    have hk1G:k+1 < G.rules.length:=by rw [HRN.out];exact hk1
    obtain ⟨ra',hra',r0',r1'⟩:=HG1.out.rul.ru2 hk1G
    cases hra'
    obtain ⟨b',hb1',-,-,-⟩:=right_rule HRT.out hk1G
    rw [← ruAt_in hk1G,hb1'] at r1'
    have HEN:Hid (endI G k=b'):=by unfold Hid endI;rw [if_pos hk1G,hb1',Int.toNat_natCast]
    have hkt:((k:Int)+1).toNat=k+1:=by omega
    have hk0:0<=(k:Int)+1:=by omega
    have HBE:Hid (b<=b'):=by have:=HEN.out;unfold Hid;omega
    have HEE:Hid (b'<=nn):=by have:=HEN.out;have:=HNL.out;have:=HNN.out;unfold Hid;omega
    obtain ⟨ee,rfl⟩:∃ ee:Nat,ee=b':=⟨_,rfl⟩
    clear r0 r0' hb1' hb1 hb2 hb3 hb4 hkG hk1G hk1 hlt
    go_wp2_with fail
    go_loopw [7] (fun i wi=>∃ n:Nat,b<=n/\n<=ee/\i=.int .i64 n/\Hid (hrow wi gb (arrF rn (bitF (tabR G b n))) 4/\Below wo.heap.size wo wi)) (fun i _=>ee - (intOf i).toNat)
    case atStart=>exact ⟨b,Nat.le_refl _,HBE.out,rfl,HY.out,HBY.out⟩
    case round=>
     clear HY HBY
     obtain ⟨n,hn1,hn2,rfl,HI⟩:=hrel
     have HGn:=Lib.hid (HGk.out.below HI.out.2);have HHn:=Lib.hid (HHk.out.below HI.out.2)
     have g0:=HHn.out.cell 0;have g1:=HHn.out.cell 1
     by_cases hnt:n < ee
     ·have hntI:(n:Int) < ee:=by omega
      have HNT:=Lib.hid hnt
      have hnl:n < NK.length:=by rw [HNN.out];have:=HEE.out;omega
      have HTS:=Lib.hid (fun j=>tabR_succ G b n j hn1)
      obtain ⟨na,rfl,a0,-,-,-,-,-,a6,-⟩:=HGn.out.nod.sv.nd9 hnl
      have hnd:NK[n].1=ndAt G n:=by
       have h1:=HGn.out.eq
       have h2:n < G.nodes.length:=by rw [HNL.out];exact hnl
       unfold ndAt
       rw [List.getD_eq_getElem?_getD,List.getElem?_eq_getElem h2]
       have h3:(NK.map (·.1))[n]'(by simpa using hnl)=G.nodes[n]:=by simp only [h1]
       rw [List.getElem_map] at h3
       exact h3
      rw [hnd] at a0 a6
      have HKB:Hid ((n:Int)+1<=1000000):=by have:=HEE.out;have:=HSZ.out;unfold Hid;omega
      have hnn2:(n:Int) < nn:=by have:=HEE.out;omega
      have HN1:=Lib.hid hn1
      by_cases hk5:(ndAt G n).kind=5
      ·have hrc:=right_call HRT.out (i:=n) (by rw [HNL.out];exact hnl) hk5
       rw [HRN.out] at hrc
       obtain ⟨r,hrr⟩:∃ r:Nat,(ndAt G n).rule=r:=⟨(ndAt G n).rule.toNat,by omega⟩
       have hrl:r < rn:=by omega
       have hrI:(r:Int) < rn:=by omega
       rw [hk5] at a0
       rw [hrr] at a6
       have v0:wr.cell? ⟨gb,r,none⟩=some (.bool (tabR G b n r)):=(HI.out.1.cell r).trans (arrF_get _ _ _ hrl)
       have vf:=HI.out.1.frozen r
       have HNX:Hid (hrow (wr.setCell ⟨gb,r,none⟩ (.bool true)) gb (arrF rn (bitF (tabR G b (n+1)))) 4/\Below wo.heap.size wo (wr.setCell ⟨gb,r,none⟩ (.bool true))):=by
        refine ⟨?_,HI.out.2.setCell (by show wo.heap.size<=gb;have:=HGB.out;omega) _⟩
        have h1:=HI.out.1.setCell r (.bool true)
        rw [arrF_set] at h1
        refine (congrArg (fun a=>hrow _ gb a _) (arrF_congr fun j hj=>?_)).mp h1
        unfold bitF
        rw [HTS.out j,hk5,hrr]
        by_cases e:j=r
        ·subst e;simp
        ·have e2:¬ ((r:Int)=(j:Int)):=by omega
         simp [e,e2]
       clear hk5 hrr hnd hnl hrc hrl hnt hn1 hn2
       go_wp2_with fail
       have hkb:=HKB.out
       go_roundw
       case rel=>exact ⟨n+1,by have:=HN1.out;omega,by have:=HNT.out;omega,by go_num,HNX.out⟩
       case measure=>have:=HNT.out;simp [intOf];omega
      ·have HNX:Hid (hrow wr gb (arrF rn (bitF (tabR G b (n+1)))) 4/\Below wo.heap.size wo wr):=by
        refine ⟨?_,HI.out.2⟩
        refine (congrArg (fun a=>hrow _ gb a _) (arrF_congr fun j hj=>?_)).mp HI.out.1
        unfold bitF
        rw [HTS.out j,decide_eq_false hk5];simp
       obtain ⟨kd,hkd⟩:∃ v,(ndAt G n).kind=v:=⟨_,rfl⟩
       rw [hkd] at a0 hk5
       have hkq:decide (kd=5)=false:=decide_eq_false hk5
       have hkq2:(kd == 5)=false:=by rw [beq_eq_false_iff_ne];exact hk5
       clear hkd hk5 hnd hnl hnt hn1 hn2
       go_wp2_with fail
       have hkb:=HKB.out
       go_roundw
       case rel=>exact ⟨n+1,by have:=HN1.out;omega,by have:=HNT.out;omega,by go_num,HNX.out⟩
       case measure=>have:=HNT.out;simp [intOf];omega
     ·have hntI:¬ (n:Int) < ee:=by omega
      obtain rfl:n=ee:=by omega
      have HTE:Hid (hrow wr gb (arrF rn (bitF (tabB G k))) 4):=by
       have h1:=HI.out.1
       unfold Hid
       have e:tabB G k=tabR G b n:=by funext j;unfold tabB;rw [HRB.out,HEN.out,Int.toNat_natCast]
       rw [e];exact h1
      have HOw:=Lib.hid (HO.out.below HI.out.2)
      have HRw:=Lib.hid (fun i hi=>(HR.out i hi).below HI.out.2)
      have HB1:Hid ((k+1) * 24<=140737488355328/\k+1<=maxLen):=by have:=HSZ.out;have:=HLT.out;unfold Hid maxLen;omega
      have H1o:Hid (∀ u ∈ (#[.slice (some ⟨gb,0,none⟩) rn rn]:Array Value).toList,u.oneCell'=true):=by unfold Hid;simp [Value.oneCell']
      have HKB:Hid ((k:Int)+1<=1000000):=by have:=HLT.out;have:=HSZ.out;unfold Hid;omega
      clear g0 g1 hntI hn1 hn2 hnt
      go_wp2_with (at_builtin;refine wpList_appf _ z.heap.size rfl (.tmp 61) (.tmp 63) 107 112 rfl elRows _ k ((List.range k).map (rowF rn bs)) rfl (HOw.out.below ((Below.refl _ wr).alloc (Nat.le_refl _) (.cells #[.slice (some ⟨gb,0,none⟩) rn rn] 112))).1 (some ⟨wr.heap.size,0,none⟩) 1 1 [.slice (some ⟨gb,0,none⟩) rn rn] rfl (Sv.lit wr 112 #[.slice (some ⟨gb,0,none⟩) rn rn] 1 1 (by decide) rfl) H1o.out (by decide) HB1.out ?_;intro v' w8 hA8;have HA8:=Lib.hid hA8;clear hA8)
      have hkb:=HKB.out
      go_roundw
      case rel=>
       refine ⟨k+1,fun i=>if i=k then gb else bs i,by have:=HLT.out;omega,by go_num,?_,?_⟩
       ·unfold Hid
        have e:(List.range (k+1)).map (rowF rn (fun i=>if i=k then gb else bs i))=(List.range k).map (rowF rn bs) ++ [.slice (some ⟨gb,0,none⟩) rn rn]:=by
         rw [List.range_succ,List.map_append]
         congr 1
         ·refine List.map_congr_left (fun i hi=>?_)
          have:=List.mem_range.1 hi
          unfold rowF;simp only [if_neg (show ¬ i=k by omega)]
         ·simp [rowF]
        rw [e]
        exact (app_own HOw.out ((Below.refl _ wr).alloc (Nat.le_refl _) _) HA8.out).1
       ·intro i hi
        by_cases e:i=k
        ·subst e
         simp only [if_pos]
         exact (app_own HOw.out ((Below.refl _ wr).alloc (Nat.le_refl _) _) HA8.out).2 _ _ HTE.out
        ·simp only [if_neg e]
         exact (app_own HOw.out ((Below.refl _ wr).alloc (Nat.le_refl _) _) HA8.out).2 _ _ (HRw.out i (by omega))
      case measure=>have:=HLT.out;simp [intOf];omega
   ·have hk1I:¬ (k:Int)+1 < rn:=by omega
    have hk1G:¬ k+1 < G.rules.length:=by rw [HRN.out];exact hk1
    have HEN:Hid (endI G k=nn):=by unfold Hid endI;rw [if_neg hk1G,HNL.out,HNN.out]
    have HBE:Hid (b<=nn):=by have:=HEN.out;unfold Hid;omega
    have HEE:Hid (nn<=nn):=Nat.le_refl _
    clear r0 hb1 hb2 hb3 hb4 hkG hk1G hk1 hlt
    go_wp2_with fail
    go_loopw [7] (fun i wi=>∃ n:Nat,b<=n/\n<=nn/\i=.int .i64 n/\Hid (hrow wi gb (arrF rn (bitF (tabR G b n))) 4/\Below wo.heap.size wo wi)) (fun i _=>nn - (intOf i).toNat)
    case atStart=>exact ⟨b,Nat.le_refl _,HBE.out,rfl,HY.out,HBY.out⟩
    case round=>
     clear HY HBY
     obtain ⟨n,hn1,hn2,rfl,HI⟩:=hrel
     have HGn:=Lib.hid (HGk.out.below HI.out.2);have HHn:=Lib.hid (HHk.out.below HI.out.2)
     have g0:=HHn.out.cell 0;have g1:=HHn.out.cell 1
     by_cases hnt:n < nn
     ·have hntI:(n:Int) < nn:=by omega
      have HNT:=Lib.hid hnt
      have hnl:n < NK.length:=by rw [HNN.out];have:=HEE.out;omega
      have HTS:=Lib.hid (fun j=>tabR_succ G b n j hn1)
      obtain ⟨na,rfl,a0,-,-,-,-,-,a6,-⟩:=HGn.out.nod.sv.nd9 hnl
      have hnd:NK[n].1=ndAt G n:=by
       have h1:=HGn.out.eq
       have h2:n < G.nodes.length:=by rw [HNL.out];exact hnl
       unfold ndAt
       rw [List.getD_eq_getElem?_getD,List.getElem?_eq_getElem h2]
       have h3:(NK.map (·.1))[n]'(by simpa using hnl)=G.nodes[n]:=by simp only [h1]
       rw [List.getElem_map] at h3
       exact h3
      rw [hnd] at a0 a6
      have HKB:Hid ((n:Int)+1<=1000000):=by have:=HEE.out;have:=HSZ.out;unfold Hid;omega
      have hnn2:(n:Int) < nn:=by have:=HEE.out;omega
      have HN1:=Lib.hid hn1
      by_cases hk5:(ndAt G n).kind=5
      ·have hrc:=right_call HRT.out (i:=n) (by rw [HNL.out];exact hnl) hk5
       rw [HRN.out] at hrc
       obtain ⟨r,hrr⟩:∃ r:Nat,(ndAt G n).rule=r:=⟨(ndAt G n).rule.toNat,by omega⟩
       have hrl:r < rn:=by omega
       have hrI:(r:Int) < rn:=by omega
       rw [hk5] at a0
       rw [hrr] at a6
       have v0:wr.cell? ⟨gb,r,none⟩=some (.bool (tabR G b n r)):=(HI.out.1.cell r).trans (arrF_get _ _ _ hrl)
       have vf:=HI.out.1.frozen r
       have HNX:Hid (hrow (wr.setCell ⟨gb,r,none⟩ (.bool true)) gb (arrF rn (bitF (tabR G b (n+1)))) 4/\Below wo.heap.size wo (wr.setCell ⟨gb,r,none⟩ (.bool true))):=by
        refine ⟨?_,HI.out.2.setCell (by show wo.heap.size<=gb;have:=HGB.out;omega) _⟩
        have h1:=HI.out.1.setCell r (.bool true)
        rw [arrF_set] at h1
        refine (congrArg (fun a=>hrow _ gb a _) (arrF_congr fun j hj=>?_)).mp h1
        unfold bitF
        rw [HTS.out j,hk5,hrr]
        by_cases e:j=r
        ·subst e;simp
        ·have e2:¬ ((r:Int)=(j:Int)):=by omega
         simp [e,e2]
       clear hk5 hrr hnd hnl hrc hrl hnt hn1 hn2
       go_wp2_with fail
       have hkb:=HKB.out
       go_roundw
       case rel=>exact ⟨n+1,by have:=HN1.out;omega,by have:=HNT.out;omega,by go_num,HNX.out⟩
       case measure=>have:=HNT.out;simp [intOf];omega
      ·have HNX:Hid (hrow wr gb (arrF rn (bitF (tabR G b (n+1)))) 4/\Below wo.heap.size wo wr):=by
        refine ⟨?_,HI.out.2⟩
        refine (congrArg (fun a=>hrow _ gb a _) (arrF_congr fun j hj=>?_)).mp HI.out.1
        unfold bitF
        rw [HTS.out j,decide_eq_false hk5];simp
       obtain ⟨kd,hkd⟩:∃ v,(ndAt G n).kind=v:=⟨_,rfl⟩
       rw [hkd] at a0 hk5
       have hkq:decide (kd=5)=false:=decide_eq_false hk5
       have hkq2:(kd == 5)=false:=by rw [beq_eq_false_iff_ne];exact hk5
       clear hkd hk5 hnd hnl hnt hn1 hn2
       go_wp2_with fail
       have hkb:=HKB.out
       go_roundw
       case rel=>exact ⟨n+1,by have:=HN1.out;omega,by have:=HNT.out;omega,by go_num,HNX.out⟩
       case measure=>have:=HNT.out;simp [intOf];omega
     ·have hntI:¬ (n:Int) < nn:=by omega
      obtain rfl:n=nn:=by omega
      have HTE:Hid (hrow wr gb (arrF rn (bitF (tabB G k))) 4):=by
       have h1:=HI.out.1
       unfold Hid
       have e:tabB G k=tabR G b n:=by funext j;unfold tabB;rw [HRB.out,HEN.out,Int.toNat_natCast]
       rw [e];exact h1
      have HOw:=Lib.hid (HO.out.below HI.out.2)
      have HRw:=Lib.hid (fun i hi=>(HR.out i hi).below HI.out.2)
      have HB1:Hid ((k+1) * 24<=140737488355328/\k+1<=maxLen):=by have:=HSZ.out;have:=HLT.out;unfold Hid maxLen;omega
      have H1o:Hid (∀ u ∈ (#[.slice (some ⟨gb,0,none⟩) rn rn]:Array Value).toList,u.oneCell'=true):=by unfold Hid;simp [Value.oneCell']
      have HKB:Hid ((k:Int)+1<=1000000):=by have:=HLT.out;have:=HSZ.out;unfold Hid;omega
      clear g0 g1 hntI hn1 hn2 hnt
      go_wp2_with (at_builtin;refine wpList_appf _ z.heap.size rfl (.tmp 61) (.tmp 63) 107 112 rfl elRows _ k ((List.range k).map (rowF rn bs)) rfl (HOw.out.below ((Below.refl _ wr).alloc (Nat.le_refl _) (.cells #[.slice (some ⟨gb,0,none⟩) rn rn] 112))).1 (some ⟨wr.heap.size,0,none⟩) 1 1 [.slice (some ⟨gb,0,none⟩) rn rn] rfl (Sv.lit wr 112 #[.slice (some ⟨gb,0,none⟩) rn rn] 1 1 (by decide) rfl) H1o.out (by decide) HB1.out ?_;intro v' w8 hA8;have HA8:=Lib.hid hA8;clear hA8)
      have hkb:=HKB.out
      go_roundw
      case rel=>
       refine ⟨k+1,fun i=>if i=k then gb else bs i,by have:=HLT.out;omega,by go_num,?_,?_⟩
       ·unfold Hid
        have e:(List.range (k+1)).map (rowF rn (fun i=>if i=k then gb else bs i))=(List.range k).map (rowF rn bs) ++ [.slice (some ⟨gb,0,none⟩) rn rn]:=by
         rw [List.range_succ,List.map_append]
         congr 1
         ·refine List.map_congr_left (fun i hi=>?_)
          have:=List.mem_range.1 hi
          unfold rowF;simp only [if_neg (show ¬ i=k by omega)]
         ·simp [rowF]
        rw [e]
        exact (app_own HOw.out ((Below.refl _ wr).alloc (Nat.le_refl _) _) HA8.out).1
       ·intro i hi
        by_cases e:i=k
        ·subst e
         simp only [if_pos]
         exact (app_own HOw.out ((Below.refl _ wr).alloc (Nat.le_refl _) _) HA8.out).2 _ _ HTE.out
        ·simp only [if_neg e]
         exact (app_own HOw.out ((Below.refl _ wr).alloc (Nat.le_refl _) _) HA8.out).2 _ _ (HRw.out i (by omega))
      case measure=>have:=HLT.out;simp [intOf];omega
  ·have hltI:¬ (k:Int) < rn:=by omega
   obtain rfl:k=rn:=by omega
   obtain ⟨ao,cap,rfl,hs⟩:=HO.out.sv
   have HS:=Lib.hid hs
   clear hlt hk hs
   go_wp2_with fail
   go_ret
   exact ⟨_,_,rfl,⟨bs,HS.out,HR.out⟩,HB.out.trans (HO.out.2.mono HB.out.size)⟩
end Go.Proofs.YtgjhepblpdnkcaaGreatDoor
namespace Go.Proofs.YtgjhepblpdnkcaaGreatDoor
open Go.RowKit
set_option maxRecDepth 100000
set_option maxHeartbeats 8000000

/-- A row of truths, as a slice. -/
theorem sv_bits {w:World} {b n:Nat} {p:Nat->Bool} (h:hrow w b (arrF n (bitF p)) 4) (hn:n<=1000000):Sv w (some ⟨b,0,none⟩) n n 1 (arrF n (bitF p)).toList:=
 Sv.of_hrow h n 1 (by unfold maxLen;omega) (by simp [arrF])
theorem clrL_tab {G:Gr} (hR:rightP G=true) {r:Nat} (hr:r < G.rules.length):clrL G (r:Int)=lisF G.rules.length (fun k=>tabB G k r):=by
 unfold clrL
 rw [okR_pick hR hr,if_pos rfl,Int.toNat_natCast]
 exact lisF_congr (fun i hi=>edg_tab hR hi r)
theorem cldL_tab {G:Gr} (hR:rightP G=true) {r:Nat} (hr:r < G.rules.length):cldL G (r:Int)=lisF G.rules.length (tabB G r):=by
 unfold cldL
 rw [okR_pick hR hr,if_pos rfl,Int.toNat_natCast]
 exact lisF_congr (fun i hi=>edg_tab hR hr i)
theorem Rch.congr {E F:Nat->Nat->Bool} {n r i:Nat} (h:∀ a b,a < n->b < n->E a b=F a b) (hr:r < n) (hx:Rch E n r i):Rch F n r i:=by
 induction hx with
 | refl=>exact .refl
 | step h1 he hn ih=>exact .step ih ((h _ _ (h1.lt hr) hn) ▸ he) hn
theorem recL_tab {G:Gr} (hR:rightP G=true) {r:Nat} (hr:r < G.rules.length):recL G (r:Int)=lisF G.rules.length (rrB (tabB G) G.rules.length r):=by
 unfold recL
 rw [okR_pick hR hr,if_pos rfl,Int.toNat_natCast]
 refine lisF_congr (fun i hi=>?_)
 rw [Bool.eq_iff_iff,rcB_iff hr,rrB_iff hr i hi]
 exact ⟨Rch.congr (fun a b ha hb=>edg_tab hR ha b) hr,Rch.congr (fun a b ha hb=>(edg_tab hR ha b).symm) hr⟩

theorem rcallers_any (w:World) (ro:Option Addr) (rc:Nat) (no:Option Addr) (nc:Nat) (NK:List Nk) (G:Gr) (hG:GrW w ro G.rules.length rc no NK.length nc NK G) (rule:Int):
  Calls Tryz.prog 45 #[grv ro G.rules.length rc no NK.length nc,.int .i64 rule] w fun e w'=>∃ v,e=.returned v/\Own w w' 3 1 v (clrL G rule).length (inc (clrL G rule)):=by
 have hb:=(Below.refl _ w).alloc (Nat.le_refl _) (.cells #[.slice ro G.rules.length rc,.slice no NK.length nc] 25)
 obtain ⟨z,hz⟩:∃ z,w.alloc (.cells #[.slice ro G.rules.length rc,.slice no NK.length nc] 25)=z:=⟨_,rfl⟩
 obtain ⟨g,hg⟩:∃ g,w.heap.size=g:=⟨_,rfl⟩
 have hr:=hrow.new w #[.slice ro G.rules.length rc,.slice no NK.length nc] 25
 rw [hz] at hb hr
 rw [hg] at hr
 have HGR:=Lib.hid (hG.below hb)
 have HIS:=Lib.hid (ris_any z ro rc no nc NK G HGR.out rule)
 have HGG:=Lib.hid hg;have HZ:=Lib.hid hz;have HB:=Lib.hid hb;have H1:=Lib.hid hr
 have HTB:=Lib.hid (fun v (h:GrW v ro G.rules.length rc no NK.length nc NK G) (hR:rightP G=true)=>table_any v ro rc no nc NK G h hR)
 obtain ⟨rn,hrn⟩:∃ n,G.rules.length=n:=⟨_,rfl⟩
 have HRN:=Lib.hid hrn
 unfold grv at HIS HTB ⊢
 rw [hrn] at HIS HZ H1 HTB HGR ⊢
 clear hG hg hz hb hr hrn
 go_enter Tryz.func45,Tryz.ntmps45
 go_upto_region 1 with (fail)
 rw [HZ.out,HGG.out]
 go_wp2_with (refine load_gram rfl (.tmp 2) rfl g rfl _ H1.out rfl ?_)
 refine HIS.out.mono ?_
 rintro e y ⟨rfl,hb⟩
 have H2:=Lib.hid (H1.out.below hb);have HB2:=Lib.hid (HB.out.trans (hb.mono HB.out.size));have HG2:=Lib.hid (HGR.out.below hb)
 clear hb HIS H1 HB HZ HGR
 cases hok:okR G rule with
 | false=>
  have HL:Hid (clrL G rule=[]):=by unfold Hid clrL;rw [hok];rfl
  go_wp2_with fail
  go_ret
  refine ⟨_,rfl,?_⟩
  rw [HL.out]
  exact (Own.nil w 3 1).below HB2.out
 | true=>
  have hr0:0<=rule/\rule < rn/\rightP G=true:=by
   unfold okR at hok
   rw [HRN.out] at hok
   simp only [Bool.and_eq_true,decide_eq_true_eq] at hok
   exact ⟨hok.2.1,hok.2.2,hok.1⟩
  obtain ⟨r,rfl⟩:∃ r:Nat,rule=(r:Int):=⟨rule.toNat,by omega⟩
  have HRT:=Lib.hid hr0.2.2
  have hrl:r < rn:=by omega
  have hrI:(r:Int) < rn:=by omega
  have HRL:=Lib.hid hrl
  have hsz:=right_sizes hr0.2.2
  rw [HRN.out] at hsz
  have HSZ:=Lib.hid hsz
  have HL:=Lib.hid (clrL_tab HRT.out (r:=r) (by rw [HRN.out];exact hrl))
  rw [HRN.out] at HL
  clear hr0 hok hsz hrl
  go_wp2_with (refine load_gram rfl (.tmp 2) rfl g rfl _ H2.out rfl ?_)
  refine (HTB.out y HG2.out HRT.out).mono ?_
  rintro e x ⟨ao,cap,bs,rfl,ht,hb⟩
  have HT:=Lib.hid ht;have HBX:=Lib.hid (HB2.out.trans (hb.mono HB2.out.size))
  have hbt:=ht.sv.bound
  clear ht hb HTB HB2 HG2 H2
  have hmk2:=run_make_row' (P:=Tryz.prog) 112 4 (.bool false) 1 (by kernel_rfl) infoBool rfl .i64 .i64 rn (by have:=HSZ.out;omega) (by have:=HSZ.out;omega)
  rw [made_arrF] at hmk2
  go_upto_region 5 with (fail)
  have HY:Hid (hrow (x.alloc (.cells (arrF rn fun _=>.bool false) 4)) x.heap.size (arrF rn (bitF fun _=>false)) 4):=hrow.new x (arrF rn fun _=>.bool false) 4
  have HBY:=Lib.hid ((Below.refl _ x).alloc (Nat.le_refl _) (.cells (arrF rn fun _=>.bool false) 4))
  obtain ⟨gb,hgb⟩:∃ g,x.heap.size=g:=⟨_,rfl⟩
  have HGB:Hid (gb=x.heap.size):=hgb.symm
  rw [hgb] at HY ⊢
  clear hgb hmk2
  revert HY HBY
  generalize x.alloc (.cells (arrF rn fun _=>.bool false) 4)=wy
  intro HBY HY
  go_wp2_with fail
  go_loopw [7] (fun i wr=>∃ k:Nat,k<=rn/\i=.int .i64 k/\Hid (hrow wr gb (arrF rn (bitF fun j=>decide (j < k) && tabB G j r)) 4/\Below x.heap.size x wr)) (fun i _=>rn - (intOf i).toNat)
  case atStart=>
   refine ⟨0,Nat.zero_le _,rfl,?_,HBY.out⟩
   refine (congrArg (fun a=>hrow _ gb a _) (arrF_congr fun j hj=>?_)).mp HY.out
   unfold bitF;simp
  case round=>
   clear HY HBY
   obtain ⟨k,hk,rfl,HI⟩:=hrel
   by_cases hlt:k < rn
   ·have hltI:(k:Int) < rn:=by omega
    have HLT:=Lib.hid hlt
    obtain ⟨ta,rfl,t0,t1⟩:=(HT.out.below HI.out.2).at hlt HRL.out
    have v0:=(HI.out.1.cell k).trans (arrF_get _ _ _ hlt)
    have vf:=HI.out.1.frozen k
    unfold bitF at v0
    have HKB:Hid ((k:Int)+1<=1000000):=by have:=HSZ.out;unfold Hid;omega
    have HNX:Hid (hrow (wr.setCell ⟨gb,k,none⟩ (.bool (tabB G k r))) gb (arrF rn (bitF fun j=>decide (j < k+1) && tabB G j r)) 4/\Below x.heap.size x (wr.setCell ⟨gb,k,none⟩ (.bool (tabB G k r)))):=by
     refine ⟨?_,HI.out.2.setCell (by show x.heap.size<=gb;have:=HGB.out;omega) _⟩
     have h1:=HI.out.1.setCell k (.bool (tabB G k r))
     rw [arrF_set] at h1
     refine (congrArg (fun a=>hrow _ gb a _) (arrF_congr fun j hj=>?_)).mp h1
     unfold bitF
     by_cases e:j=k
     ·subst e;simp
     ·rw [if_neg e]
      congr 1
      show (decide (j < k) && tabB G j r)=(decide (j < k+1) && tabB G j r)
      congr 1
      rw [decide_eq_decide];omega
    clear hlt hk
    go_wp2_with fail
    have hkb:=HKB.out
    go_roundw
    case rel=>exact ⟨k+1,by have:=HLT.out;omega,by go_num,HNX.out⟩
    case measure=>have:=HLT.out;simp [intOf];omega
   ·have hltI:¬ (k:Int) < rn:=by omega
    obtain rfl:k=rn:=by omega
    have HIN:Hid (hrow wr gb (arrF k (bitF fun j=>tabB G j r)) 4):=by
     refine (congrArg (fun a=>hrow _ gb a _) (arrF_congr fun j hj=>?_)).mp HI.out.1
     unfold bitF;simp [hj]
    have HLS:=Lib.hid (listed_any wr (some ⟨gb,0,none⟩) k k (by have:=HSZ.out;omega) (fun j=>tabB G j r) (sv_bits HIN.out (by have:=HSZ.out;omega)))
    clear hlt hk
    go_wp2_with fail
    refine HLS.out.mono ?_
    rintro e u ⟨v,rfl,ho⟩
    have HO:=Lib.hid (ho.since (HBX.out.trans (HI.out.2.mono HBX.out.size)))
    clear ho HLS
    go_wp2_with fail
    go_ret
    refine ⟨_,rfl,?_⟩
    rw [HL.out]
    exact HO.out
theorem rcalled_any (w:World) (ro:Option Addr) (rc:Nat) (no:Option Addr) (nc:Nat) (NK:List Nk) (G:Gr) (hG:GrW w ro G.rules.length rc no NK.length nc NK G) (rule:Int):
  Calls Tryz.prog 46 #[grv ro G.rules.length rc no NK.length nc,.int .i64 rule] w fun e w'=>∃ v,e=.returned v/\Own w w' 3 1 v (cldL G rule).length (inc (cldL G rule)):=by
 have hb:=(Below.refl _ w).alloc (Nat.le_refl _) (.cells #[.slice ro G.rules.length rc,.slice no NK.length nc] 25)
 obtain ⟨z,hz⟩:∃ z,w.alloc (.cells #[.slice ro G.rules.length rc,.slice no NK.length nc] 25)=z:=⟨_,rfl⟩
 obtain ⟨g,hg⟩:∃ g,w.heap.size=g:=⟨_,rfl⟩
 have hr:=hrow.new w #[.slice ro G.rules.length rc,.slice no NK.length nc] 25
 rw [hz] at hb hr
 rw [hg] at hr
 have HGR:=Lib.hid (hG.below hb)
 have HIS:=Lib.hid (ris_any z ro rc no nc NK G HGR.out rule)
 have HGG:=Lib.hid hg;have HZ:=Lib.hid hz;have HB:=Lib.hid hb;have H1:=Lib.hid hr
 have HTB:=Lib.hid (fun v (h:GrW v ro G.rules.length rc no NK.length nc NK G) (hR:rightP G=true)=>table_any v ro rc no nc NK G h hR)
 obtain ⟨rn,hrn⟩:∃ n,G.rules.length=n:=⟨_,rfl⟩
 have HRN:=Lib.hid hrn
 unfold grv at HIS HTB ⊢
 rw [hrn] at HIS HZ H1 HTB HGR ⊢
 clear hG hg hz hb hr hrn
 go_enter Tryz.func46,Tryz.ntmps46
 go_upto_region 1 with (fail)
 rw [HZ.out,HGG.out]
 go_wp2_with (refine load_gram rfl (.tmp 2) rfl g rfl _ H1.out rfl ?_)
 refine HIS.out.mono ?_
 rintro e y ⟨rfl,hb⟩
 have H2:=Lib.hid (H1.out.below hb);have HB2:=Lib.hid (HB.out.trans (hb.mono HB.out.size));have HG2:=Lib.hid (HGR.out.below hb)
 clear hb HIS H1 HB HZ HGR
 cases hok:okR G rule with
 | false=>
  have HL:Hid (cldL G rule=[]):=by unfold Hid cldL;rw [hok];rfl
  go_wp2_with fail
  go_ret
  refine ⟨_,rfl,?_⟩
  rw [HL.out]
  exact (Own.nil w 3 1).below HB2.out
 | true=>
  have hr0:0<=rule/\rule < rn/\rightP G=true:=by
   unfold okR at hok
   rw [HRN.out] at hok
   simp only [Bool.and_eq_true,decide_eq_true_eq] at hok
   exact ⟨hok.2.1,hok.2.2,hok.1⟩
  obtain ⟨r,rfl⟩:∃ r:Nat,rule=(r:Int):=⟨rule.toNat,by omega⟩
  have HRT:=Lib.hid hr0.2.2
  have hrl:r < rn:=by omega
  have hrI:(r:Int) < rn:=by omega
  have HRL:=Lib.hid hrl
  have hsz:=right_sizes hr0.2.2
  rw [HRN.out] at hsz
  have HSZ:=Lib.hid hsz
  have HL:=Lib.hid (cldL_tab HRT.out (r:=r) (by rw [HRN.out];exact hrl))
  rw [HRN.out] at HL
  clear hr0 hok hsz hrl
  go_wp2_with (refine load_gram rfl (.tmp 2) rfl g rfl _ H2.out rfl ?_)
  refine (HTB.out y HG2.out HRT.out).mono ?_
  rintro e x ⟨ao,cap,bs,rfl,ht,hb⟩
  have HT:=Lib.hid ht;have HBX:=Lib.hid (HB2.out.trans (hb.mono HB2.out.size))
  have hbt:=ht.sv.bound
  clear ht hb HTB HB2 HG2 H2
  obtain ⟨ta,rfl,t0,-⟩:=HT.out.at HRL.out HRL.out
  have HLS:=Lib.hid (listed_any x (some ⟨bs r,0,none⟩) rn rn (by have:=HSZ.out;omega) (tabB G r) (sv_bits (HT.out.bit r HRL.out) (by have:=HSZ.out;omega)))
  go_wp2_with fail
  refine HLS.out.mono ?_
  rintro e u ⟨v,rfl,ho⟩
  have HO:=Lib.hid (ho.since HBX.out)
  clear ho HLS t0
  go_wp2_with fail
  go_ret
  refine ⟨_,rfl,?_⟩
  rw [HL.out]
  exact HO.out
theorem rreached_any (w:World) (ro:Option Addr) (rc:Nat) (no:Option Addr) (nc:Nat) (NK:List Nk) (G:Gr) (hG:GrW w ro G.rules.length rc no NK.length nc NK G) (rule:Int):
  Calls Tryz.prog 47 #[grv ro G.rules.length rc no NK.length nc,.int .i64 rule] w fun e w'=>∃ v,e=.returned v/\Own w w' 3 1 v (recL G rule).length (inc (recL G rule)):=by
 have hb:=(Below.refl _ w).alloc (Nat.le_refl _) (.cells #[.slice ro G.rules.length rc,.slice no NK.length nc] 25)
 obtain ⟨z,hz⟩:∃ z,w.alloc (.cells #[.slice ro G.rules.length rc,.slice no NK.length nc] 25)=z:=⟨_,rfl⟩
 obtain ⟨g,hg⟩:∃ g,w.heap.size=g:=⟨_,rfl⟩
 have hr:=hrow.new w #[.slice ro G.rules.length rc,.slice no NK.length nc] 25
 rw [hz] at hb hr
 rw [hg] at hr
 have HGR:=Lib.hid (hG.below hb)
 have HIS:=Lib.hid (ris_any z ro rc no nc NK G HGR.out rule)
 have HGG:=Lib.hid hg;have HZ:=Lib.hid hz;have HB:=Lib.hid hb;have H1:=Lib.hid hr
 have HTB:=Lib.hid (fun v (h:GrW v ro G.rules.length rc no NK.length nc NK G) (hR:rightP G=true)=>table_any v ro rc no nc NK G h hR)
 obtain ⟨rn,hrn⟩:∃ n,G.rules.length=n:=⟨_,rfl⟩
 have HRN:=Lib.hid hrn
 unfold grv at HIS HTB ⊢
 rw [hrn] at HIS HZ H1 HTB HGR ⊢
 clear hG hg hz hb hr hrn
 go_enter Tryz.func47,Tryz.ntmps47
 go_upto_region 1 with (fail)
 rw [HZ.out,HGG.out]
 go_wp2_with (refine load_gram rfl (.tmp 2) rfl g rfl _ H1.out rfl ?_)
 refine HIS.out.mono ?_
 rintro e y ⟨rfl,hb⟩
 have H2:=Lib.hid (H1.out.below hb);have HB2:=Lib.hid (HB.out.trans (hb.mono HB.out.size));have HG2:=Lib.hid (HGR.out.below hb)
 clear hb HIS H1 HB HZ HGR
 cases hok:okR G rule with
 | false=>
  have HL:Hid (recL G rule=[]):=by unfold Hid recL;rw [hok];rfl
  go_wp2_with fail
  go_ret
  refine ⟨_,rfl,?_⟩
  rw [HL.out]
  exact (Own.nil w 3 1).below HB2.out
 | true=>
  have hr0:0<=rule/\rule < rn/\rightP G=true:=by
   unfold okR at hok
   rw [HRN.out] at hok
   simp only [Bool.and_eq_true,decide_eq_true_eq] at hok
   exact ⟨hok.2.1,hok.2.2,hok.1⟩
  obtain ⟨r,rfl⟩:∃ r:Nat,rule=(r:Int):=⟨rule.toNat,by omega⟩
  have HRT:=Lib.hid hr0.2.2
  have hrl:r < rn:=by omega
  have hrI:(r:Int) < rn:=by omega
  have HRL:=Lib.hid hrl
  have hsz:=right_sizes hr0.2.2
  rw [HRN.out] at hsz
  have HSZ:=Lib.hid hsz
  have HL:=Lib.hid (recL_tab HRT.out (r:=r) (by rw [HRN.out];exact hrl))
  rw [HRN.out] at HL
  clear hr0 hok hsz hrl
  go_wp2_with (refine load_gram rfl (.tmp 2) rfl g rfl _ H2.out rfl ?_)
  refine (HTB.out y HG2.out HRT.out).mono ?_
  rintro e x ⟨ao,cap,bs,rfl,ht,hb⟩
  have HT:=Lib.hid ht;have HBX:=Lib.hid (HB2.out.trans (hb.mono HB2.out.size))
  have hbt:=ht.sv.bound
  clear ht hb HTB HB2 HG2 H2
  have hmk2:=run_make_row' (P:=Tryz.prog) 112 4 (.bool false) 1 (by kernel_rfl) infoBool rfl .i64 .i64 rn (by have:=HSZ.out;omega) (by have:=HSZ.out;omega)
  rw [made_arrF] at hmk2
  go_upto_region 5 with (fail)
  have HY:Hid (hrow (x.alloc (.cells (arrF rn fun _=>.bool false) 4)) x.heap.size (arrF rn (bitF fun _=>false)) 4):=hrow.new x (arrF rn fun _=>.bool false) 4
  have HBY:=Lib.hid ((Below.refl _ x).alloc (Nat.le_refl _) (.cells (arrF rn fun _=>.bool false) 4))
  obtain ⟨gb,hgb⟩:∃ g,x.heap.size=g:=⟨_,rfl⟩
  have HGB:Hid (gb=x.heap.size):=hgb.symm
  rw [hgb] at HY ⊢
  clear hgb hmk2
  revert HY HBY
  generalize x.alloc (.cells (arrF rn fun _=>.bool false) 4)=wy
  intro HBY HY
  have v0:=(HY.out.cell r).trans (arrF_get _ _ _ HRL.out)
  have vf:=HY.out.frozen r
  unfold bitF at v0
  have HZ0:Hid (hrow (wy.setCell ⟨gb,r,none⟩ (.bool true)) gb (arrF rn (bitF (setB (fun _=>false) r))) 4/\Below x.heap.size x (wy.setCell ⟨gb,r,none⟩ (.bool true))):=
   ⟨hrow_set HY.out r,HBY.out.setCell (by show x.heap.size<=gb;have:=HGB.out;omega) _⟩
  go_upto_region 6 with (fail)
  revert HZ0
  generalize wy.setCell ⟨gb,r,none⟩ (.bool true)=w1
  intro HZ0
  clear v0 vf HY HBY
  go_wp2_with fail
  go_loopw [7,8,9] (fun i _ _ wr=>∃ q:Nat,q<=rn/\i=.int .i64 q/\Hid (hrow wr gb (arrF rn (bitF (rnds (tabB G) rn q (setB (fun _=>false) r)))) 4/\Below x.heap.size x wr)) (fun i _ _ _=>rn - (intOf i).toNat)
  case atStart=>exact ⟨0,Nat.zero_le _,rfl,HZ0.out⟩
  case round=>
   clear HZ0
   obtain ⟨q,hq,rfl,HQ⟩:=hrel
   obtain ⟨wo,rfl⟩:∃ w:World,w=wr:=⟨_,rfl⟩
   have HKQ:Hid ((q:Int)+1<=1000000):=by have:=HSZ.out;unfold Hid;omega
   by_cases hqt:q < rn
   ·have hqI:(q:Int) < rn:=by omega
    have HQT:=Lib.hid hqt
    obtain ⟨T,hT⟩:∃ T,rnds (tabB G) rn q (setB (fun _=>false) r)=T:=⟨_,rfl⟩
    have HTT:=Lib.hid hT
    rw [hT] at HQ
    clear hqt hq hT
    go_wp2_with fail
    go_loopw [8,9] (fun i _ wr=>∃ a:Nat,a<=rn/\i=.int .i64 a/\Hid (hrow wr gb (arrF rn (bitF ((List.range a).foldl (rlx (tabB G)) T))) 4/\Below x.heap.size x wr)) (fun i _ _=>rn - (intOf i).toNat)
    case atStart=>exact ⟨0,Nat.zero_le _,rfl,HQ.out⟩
    case round=>
     clear HQ
     obtain ⟨a,ha,rfl,HA⟩:=hrel
     obtain ⟨wo2,rfl⟩:∃ w:World,w=wr:=⟨_,rfl⟩
     have HKA:Hid ((a:Int)+1<=1000000):=by have:=HSZ.out;unfold Hid;omega
     by_cases hat:a < rn
     ·have haI:(a:Int) < rn:=by omega
      have HAT:=Lib.hid hat
      have HFS:=Lib.hid (foldl_range_succ (rlx (tabB G)) T a)
      obtain ⟨U,hU⟩:∃ U,(List.range a).foldl (rlx (tabB G)) T=U:=⟨_,rfl⟩
      rw [hU] at HFS HA
      clear hat ha hU
      go_wp2_with fail
      cases hUa:U a with
      | false=>
       have HUA:=Lib.hid hUa
       have v0:=(HA.out.1.cell a).trans (arrF_get _ _ _ HAT.out)
       unfold bitF at v0
       rw [hUa] at v0
       clear hUa
       go_loopw [9] (fun i wr=>∃ b:Nat,i=.int .i64 b/\Hid (b=0)/\wr=wo2) (fun _ _=>0)
       case atStart=>exact ⟨0,rfl,rfl,rfl⟩
       case round=>
        obtain ⟨b,rfl,hb0,rfl⟩:=hrel
        have hbI:(b:Int) < rn:=by have:=HSZ.out;have:=hb0.out;omega
        go_wp2_with fail
        have hkb:=HKA.out
        go_roundw
        case rel=>
         refine ⟨a+1,by have:=HAT.out;omega,by go_num,?_⟩
         unfold Hid
         rw [HFS.out]
         have e:rlx (tabB G) U a=U:=by unfold rlx;rw [if_neg (by rw [HUA.out];decide)]
         rw [e];exact HA.out
        case measure=>have:=HAT.out;simp [intOf];omega
      | true=>
       have HUA:=Lib.hid hUa
       clear hUa
       go_loopw [9] (fun i wr=>∃ b:Nat,b<=rn/\i=.int .i64 b/\Hid (hrow wr gb (arrF rn (bitF fun j=>U j || (decide (j < b) && tabB G a j))) 4/\Below x.heap.size x wr)) (fun i _=>rn - (intOf i).toNat)
       case atStart=>
        refine ⟨0,Nat.zero_le _,rfl,?_,HA.out.2⟩
        refine (congrArg (fun c=>hrow _ gb c _) (arrF_congr fun j hj=>?_)).mp HA.out.1
        unfold bitF;simp
       case round=>
        clear HA
        obtain ⟨b,hb,rfl,HI⟩:=hrel
        by_cases hbt:b < rn
        ·have hbI:(b:Int) < rn:=by omega
         have HBT:=Lib.hid hbt
         have HKB:Hid ((b:Int)+1<=1000000):=by have:=HSZ.out;unfold Hid;omega
         have u0:=(HI.out.1.cell a).trans (arrF_get _ _ _ HAT.out)
         have v0:=(HI.out.1.cell b).trans (arrF_get _ _ _ hbt)
         have vf:=HI.out.1.frozen b
         unfold bitF at u0 v0
         simp only [] at u0 v0
         rw [HUA.out,Bool.true_or] at u0
         obtain ⟨ta,rfl,t0,t1⟩:=(HT.out.below HI.out.2).at HAT.out hbt
         have HNX:Hid (∀ c:Bool,c=(U b || tabB G a b)->hrow (wr.setCell ⟨gb,b,none⟩ (.bool c)) gb (arrF rn (bitF fun j=>U j || (decide (j < b+1) && tabB G a j))) 4/\Below x.heap.size x (wr.setCell ⟨gb,b,none⟩ (.bool c))):=by
          rintro c rfl
          refine ⟨?_,HI.out.2.setCell (by show x.heap.size<=gb;have:=HGB.out;omega) _⟩
          have h1:=HI.out.1.setCell b (.bool (U b || tabB G a b))
          rw [arrF_set] at h1
          refine (congrArg (fun c=>hrow _ gb c _) (arrF_congr fun j hj=>?_)).mp h1
          unfold bitF
          by_cases e:j=b
          ·subst e;simp
          ·rw [if_neg e]
           congr 1
           show (U j || (decide (j < b) && tabB G a j))=(U j || (decide (j < b+1) && tabB G a j))
           congr 2
           rw [decide_eq_decide];omega
         have hv:(U b || (decide (b < b) && tabB G a b))=U b:=by simp
         rw [hv] at v0
         clear hbt hb hv
         cases hUb:U b with
         | true=>
          rw [hUb] at v0 HNX
          have HN2:=Lib.hid (HNX.out true (by simp))
          clear hUb
          go_wp2_with fail
          have hkb:=HKB.out
          go_roundw
          case rel=>exact ⟨b+1,by have:=HBT.out;omega,by go_num,HN2.out⟩
          case measure=>have:=HBT.out;simp [intOf];omega
         | false=>
          rw [hUb] at v0 HNX
          have HN2:=Lib.hid (HNX.out (tabB G a b) (by simp))
          clear hUb
          go_wp2_with fail
          have hkb:=HKB.out
          go_roundw
          case rel=>exact ⟨b+1,by have:=HBT.out;omega,by go_num,HN2.out⟩
          case measure=>have:=HBT.out;simp [intOf];omega
        ·have hbI:¬ (b:Int) < rn:=by omega
         obtain rfl:b=rn:=by omega
         go_wp2_with fail
         have hkb:=HKA.out
         go_roundw
         case rel=>
          refine ⟨a+1,by have:=HAT.out;omega,by go_num,?_⟩
          unfold Hid
          rw [HFS.out]
          refine ⟨?_,HI.out.2⟩
          refine (congrArg (fun c=>hrow _ gb c _) (arrF_congr fun j hj=>?_)).mp HI.out.1
          unfold bitF
          rw [rlx_t (tabB G) HUA.out];simp [hj]
         case measure=>have:=HAT.out;simp [intOf];omega
     ·have haI:¬ (a:Int) < rn:=by omega
      obtain rfl:a=rn:=by omega
      clear hat ha
      go_wp2_with fail
      have hkb:=HKQ.out
      go_roundw
      case rel=>exact ⟨q+1,by have:=HQT.out;omega,by go_num,by have h:=HA.out;rw [← HTT.out] at h;exact h⟩
      case measure=>have:=HQT.out;simp [intOf];omega
   ·have hqI:¬ (q:Int) < rn:=by omega
    obtain rfl:q=rn:=by omega
    have HLS:=Lib.hid (listed_any wo (some ⟨gb,0,none⟩) q q (by have:=HSZ.out;omega) (rrB (tabB G) q r) (sv_bits HQ.out.1 (by have:=HSZ.out;omega)))
    clear hqt hq
    go_wp2_with fail
    refine HLS.out.mono ?_
    rintro e u ⟨v,rfl,ho⟩
    have HO:=Lib.hid (ho.since (HBX.out.trans (HQ.out.2.mono HBX.out.size)))
    clear ho HLS
    go_wp2_with fail
    go_ret
    refine ⟨_,rfl,?_⟩
    rw [HL.out]
    exact HO.out
end Go.Proofs.YtgjhepblpdnkcaaGreatDoor
namespace Go.Proofs.YtgjhepblpdnkcaaGreatDoor
open Go.RowKit

theorem owns_type {w:World} {B B':Nat} {e e':TypeId} {s s' n n':Nat} {v v':Value} {xs xs':List Value} {g:Nat} (h:w.ownsRow B e s v n xs) (h':w.ownsRow B' e' s' v' n' xs') (hv:v.ownBlock=some g) (hv':v'.ownBlock=some g):e=e':=by
 rcases h.2 with ⟨rfl,_⟩ | ⟨g1,c1,cur1,rfl,_,h1,_⟩
 ·cases hv
 rcases h'.2 with ⟨rfl,_⟩ | ⟨g2,c2,cur2,rfl,_,h2,_⟩
 ·cases hv'
 simp only [Value.ownBlock,Option.some.injEq] at hv hv'
 subst hv hv'
 rw [h1] at h2
 cases h2
 rfl

/-- The front of an owned row, whose cells have been written anew, is owned as it was. -/
theorem owns_front {w w':World} {B e s:Nat} {v v':Value} {n n':Nat} {xs xs':List Value} {g:Nat} (hs:0 < s) (h:w.ownsRow B e s v n xs) (h1:w.ownsRow B e s v' n' xs') (hv:v.ownBlock=some g) (hv':v'.ownBlock=some g)
  {m:Nat} {v2:Value} {ys:List Value} {cap:Nat} (e1:v'=.slice (some ⟨g,0,none⟩) n' cap) (e2:v2=.slice (some ⟨g,0,none⟩) m cap) (h2:w'.ownsRow B e s v2 m ys) (hnm:n<=m) (hx:ys.take (n * s)=xs):w'.ownsRow B e s v n xs:=by
 subst e1 e2
 refine ⟨h.1,?_⟩
 rcases h.2 with ⟨rfl,_⟩ | ⟨g1,c1,cur1,rfl,hb1,k1,a1,a2,a3,a4⟩
 ·cases hv
 simp only [Value.ownBlock,Option.some.injEq] at hv
 subst hv
 rcases h1.2 with ⟨h0,_⟩ | ⟨g2,c2,cur2,h0,_,k2,_,_,b3,_⟩
 ·cases h0
 cases h0
 rcases h2.2 with ⟨h0,_⟩ | ⟨g3,c3,cur3,h0,_,k3,d1,d2,d3,d4⟩
 ·cases h0
 cases h0
 rw [k1] at k2
 cases k2
 obtain rfl:c1=cap:=by
  have:c1 * s=cap * s:=a3.symm.trans b3
  exact Nat.eq_of_mul_eq_mul_right hs this
 refine .inr ⟨g1,c1,cur3,rfl,hb1,k3,a1,a2,d3,?_⟩
 rw [← hx,← d4,List.take_take,Nat.min_eq_left (Nat.mul_le_mul_right _ hnm)]

section
variable {α:Type} (f:α->List Value) (B e s:Nat)

/-- Rows of the call's own, K of them, and m others, the i-th of these over the i-th or anew; what belongs tq one lies apart from what belongs tq another. -/
structure Two (w:World) (K:Nat) (R:Nat->Value) (Y:Nat->List α) (m:Nat) (G:Nat->Value) (Z:Nat->List α):Prop where
 own1:∀ i,i < K->w.ownsRow B e s (R i) (Y i).length ((Y i).flatMap f)
 own2:∀ i,i < m->w.ownsRow B e s (G i) (Z i).length ((Z i).flatMap f)
 front:∀ i,i < m->∃ r,Z i=Y i ++ r
 ap:∀ i j g,i < K->j < K->((R i).ownBlock=some g∨(i < m/\(G i).ownBlock=some g))->((R j).ownBlock=some g∨(j < m/\(G j).ownBlock=some g))->i=j

variable {f B e s} {w w':World} {K m:Nat} {R G:Nat->Value} {Y Z:Nat->List α}

theorem Two.fr (h:Two f B e s w K R Y m G Z) (hm:m<=K) {F:Nat->Prop} (hf:Fr F w w') (hF:∀ i g,i < K->((R i).ownBlock=some g∨(i < m/\(G i).ownBlock=some g))->¬ F g):Two f B e s w' K R Y m G Z:=
 ⟨fun i hi=>owns_fr (h.own1 i hi) hf (fun g hg=>hF i g hi (.inl hg)),fun i hi=>owns_fr (h.own2 i hi) hf (fun g hg=>hF i g (by omega) (.inr ⟨hi,hg⟩)),h.front,h.ap⟩
theorem Two.below (h:Two f B e s w K R Y m G Z) (hm:m<=K) (hb:Below w.heap.size w w'):Two f B e s w' K R Y m G Z:=
 h.fr hm (Fr.of_below (F:=fun _=>False) hb) (fun _ _ _ _ h=>h)
/-- A write tq a block of another type touches none of them. -/
theorem Two.far (h:Two f B e s w K R Y m G Z) {B' e' s' n':Nat} {v':Value} {xs':List Value} {g:Nat} (ho:w.ownsRow B' e' s' v' n' xs') (hv:v'.ownBlock=some g) (he:e' ≠ e) (hm:m<=K) (hf:Fr (fun k=>k=g) w w'):Two f B e s w' K R Y m G Z:=by
 refine h.fr hm hf ?_
 rintro i g' hi hb rfl
 rcases hb with hb | ⟨hi',hb⟩
 ·exact he (owns_type ho (h.own1 i hi) hv hb)
 ·exact he (owns_type ho (h.own2 i hi') hv hb)
theorem Two.none (h:Two f B e s w K R Y m G Z):Two f B e s w K R Y 0 G Z:=
 ⟨h.own1,fun i hi=>absurd hi (by omega),fun i hi=>absurd hi (by omega),fun i j g hi hj h1 h2=>h.ap i j g hi hj (h1.elim .inl (fun h=>absurd h.1 (by omega))) (h2.elim .inl (fun h=>absurd h.1 (by omega)))⟩
theorem Two.start (h1:∀ i,i < K->w.ownsRow B e s (R i) (Y i).length ((Y i).flatMap f)) (h2:∀ i j g,i < K->j < K->(R i).ownBlock=some g->(R j).ownBlock=some g->i=j) (G:Nat->Value) (Z:Nat->List α):Two f B e s w K R Y 0 G Z:=
 ⟨h1,fun i hi=>absurd hi (by omega),fun i hi=>absurd hi (by omega),fun i j g hi hj h3 h4=>h2 i j g hi hj (h3.elim id (fun h=>absurd h.1 (by omega))) (h4.elim id (fun h=>absurd h.1 (by omega)))⟩

def upd {β:Type} (F:Nat->β) (k:Nat) (x:β):Nat->β:=fun i=>if i=k then x else F i
theorem upd_same {β:Type} (F:Nat->β) (k:Nat) (x:β):upd F k x k=x:=if_pos rfl
theorem upd_other {β:Type} (F:Nat->β) {k i:Nat} (x:β) (h:i ≠ k):upd F k x i=F i:=if_neg h
theorem upd_upd {β:Type} (F:Nat->β) (k:Nat) (x y:β):upd (upd F k x) k y=upd F k y:=by
 funext i;unfold upd;split <;> rfl

/-- The next of the others is the row itself. -/
theorem Two.next (h:Two f B e s w K R Y m G Z) (hm:m < K):Two f B e s w K R Y (m+1) (upd G m (R m)) (upd Z m (Y m)):=by
 refine ⟨h.own1,fun i hi=>?_,fun i hi=>?_,fun i j g hi hj h1 h2=>h.ap i j g hi hj ?_ ?_⟩
 ·by_cases e:i=m
  ·subst e;rw [upd_same,upd_same];exact h.own1 i hm
  ·rw [upd_other _ _ e,upd_other _ _ e];exact h.own2 i (by omega)
 ·by_cases e:i=m
  ·subst e;rw [upd_same];exact ⟨[],by simp⟩
  ·rw [upd_other _ _ e];exact h.front i (by omega)
 ·rcases h1 with h1 | ⟨h1,h3⟩
  ·exact .inl h1
  ·by_cases e:i=m
   ·subst e;rw [upd_same] at h3;exact .inl h3
   ·rw [upd_other _ _ e] at h3;exact .inr ⟨by omega,h3⟩
 ·rcases h2 with h2 | ⟨h2,h3⟩
  ·exact .inl h2
  ·by_cases e:j=m
   ·subst e;rw [upd_same] at h3;exact .inl h3
   ·rw [upd_other _ _ e] at h3;exact .inr ⟨by omega,h3⟩

/-- Something is appended tq the last of the others. -/
theorem Two.app (hs:0 < s) (hfl:∀ x,(f x).length=s) (h:Two f B e s w K R Y (m+1) G Z) (hm:m < K) (hB:B<=w.heap.size) {ys:List α} {v':Value} (hA:AppTo w B e s (G m) (Z m).length ((Z m).flatMap f) ys.length (ys.flatMap f) v' w'):
  Two f B e s w' K R Y (m+1) (upd G m v') (upd Z m (Z m ++ ys)):=by
 have hlen:∀ l:List α,(l.flatMap f).length=l.length * s:=fun l=>by
  induction l with
  | nil=>simp
  | cons x l ih=>simp only [List.flatMap_cons,List.length_append,ih,hfl,List.length_cons,Nat.succ_mul];omega
 rcases hA with ⟨g,cap,e1,e2,hf,ho,ho'⟩ | ho
 ·have hbm:(G m).ownBlock=some g:=by rw [e1];rfl
  have hne:∀ i g',i < K->i ≠ m->((R i).ownBlock=some g'∨(i < m+1/\(G i).ownBlock=some g'))->¬ g'=g:=by
   rintro i g' hi hne hb rfl
   exact hne (h.ap i m g' hi hm hb (.inr ⟨by omega,hbm⟩))
  refine ⟨fun i hi=>?_,fun i hi=>?_,fun i hi=>?_,fun i j g' hi hj h1 h2=>h.ap i j g' hi hj ?_ ?_⟩
  ·by_cases e':i=m
   ·subst e'
    by_cases hb:(R i).ownBlock=some g
    ·obtain ⟨r,hr⟩:=h.front i (by omega)
     refine owns_front (v':=G i) hs (h.own1 i hi) (h.own2 i (by omega)) hb hbm e1 e2 ho (by rw [hr];simp;omega) ?_
     rw [hr,List.flatMap_append,List.append_assoc,← hlen (Y i),List.take_left]
    ·refine owns_fr (h.own1 i hi) hf ?_
     rintro g' hg' rfl
     exact hb hg'
   ·exact owns_fr (h.own1 i hi) hf (fun g' hg'=>hne i g' hi e' (.inl hg'))
  ·by_cases e':i=m
   ·subst e'
    rw [upd_same,upd_same,List.length_append,List.flatMap_append]
    exact ho
   ·rw [upd_other _ _ e',upd_other _ _ e']
    exact owns_fr (h.own2 i hi) hf (fun g' hg'=>hne i g' (by omega) e' (.inr ⟨hi,hg'⟩))
  ·by_cases e':i=m
   ·subst e';rw [upd_same];obtain ⟨r,hr⟩:=h.front i hi;exact ⟨r ++ ys,by rw [hr,List.append_assoc]⟩
   ·rw [upd_other _ _ e'];exact h.front i hi
  ·rcases h1 with h1 | ⟨h1,h3⟩
   ·exact .inl h1
   ·by_cases e':i=m
    ·subst e';rw [upd_same,e2] at h3;exact .inr ⟨h1,by rw [hbm];exact h3⟩
    ·rw [upd_other _ _ e'] at h3;exact .inr ⟨h1,h3⟩
  ·rcases h2 with h2 | ⟨h2,h3⟩
   ·exact .inl h2
   ·by_cases e':j=m
    ·subst e';rw [upd_same,e2] at h3;exact .inr ⟨h2,by rw [hbm];exact h3⟩
    ·rw [upd_other _ _ e'] at h3;exact .inr ⟨h2,h3⟩
 ·have hT:=h.below (by omega) ho.2
  have hold:∀ i g',i < K->((R i).ownBlock=some g'∨(i < m+1/\(G i).ownBlock=some g'))->g' < w.heap.size:=by
   rintro i g' hi (hb | ⟨hi',hb⟩)
   ·exact ((h.own1 i hi).lt g' hb).2
   ·exact ((h.own2 i hi').lt g' hb).2
  have hnew:∀ g',v'.ownBlock=some g'->w.heap.size<=g':=fun g' hg'=>(ho.1.lt g' hg').1
  have key:∀ i g',i < K->((R i).ownBlock=some g'∨(i < m+1/\(upd G m v' i).ownBlock=some g'))->((R i).ownBlock=some g'∨(i < m+1/\(G i).ownBlock=some g'))∨(i=m/\v'.ownBlock=some g'):=by
   rintro i g' hi (hb | ⟨hi',hb⟩)
   ·exact .inl (.inl hb)
   ·by_cases e':i=m
    ·subst e';rw [upd_same] at hb;exact .inr ⟨rfl,hb⟩
    ·rw [upd_other _ _ e'] at hb;exact .inl (.inr ⟨hi',hb⟩)
  refine ⟨hT.own1,fun i hi=>?_,fun i hi=>?_,fun i j g' hi hj h1 h2=>?_⟩
  ·by_cases e':i=m
   ·subst e'
    rw [upd_same,upd_same,List.length_append,List.flatMap_append]
    exact ho.1.mono hB
   ·rw [upd_other _ _ e',upd_other _ _ e'];exact hT.own2 i hi
  ·by_cases e':i=m
   ·subst e';rw [upd_same];obtain ⟨r,hr⟩:=h.front i hi;exact ⟨r ++ ys,by rw [hr,List.append_assoc]⟩
   ·rw [upd_other _ _ e'];exact h.front i hi
  ·rcases key i g' hi h1 with k1 | ⟨k1,k1'⟩ <;> rcases key j g' hj h2 with k2 | ⟨k2,k2'⟩
   ·exact h.ap i j g' hi hj k1 k2
   ·have:=hold i g' hi k1;have:=hnew g' k2';omega
   ·have:=hold j g' hj k2;have:=hnew g' k1';omega
   ·omega

/-- One element of a row is written. -/
theorem Two.put (h:Two f B e s w K R Y 0 G Z) {k:Nat} (hk:k < K) {g:Nat} (hg:(R k).ownBlock=some g) {x:α} {i:Nat} (hf:Fr (fun b=>b=g) w w') (ho:w'.ownsRow B e s (R k) (Y k).length (((Y k).set i x).flatMap f)):
  Two f B e s w' K R (upd Y k ((Y k).set i x)) 0 G Z:=by
 refine Two.start (fun j hj=>?_) (fun i j g hi hj h1 h2=>h.ap i j g hi hj (.inl h1) (.inl h2)) G Z
 by_cases e':j=k
 ·subst e';rw [upd_same,List.length_set];exact ho
 ·rw [upd_other _ _ e']
  refine owns_fr (h.own1 j hj) hf ?_
  rintro g' hg' rfl
  exact e' (h.ap j k g' hj hk (.inl hg') (.inl hg))
end
end Go.Proofs.YtgjhepblpdnkcaaGreatDoor
namespace Go.Proofs.YtgjhepblpdnkcaaGreatDoor
open Go.RowKit
set_option maxRecDepth 100000
set_option maxHeartbeats 2000000

/-- The mark of a place in a list. -/
def mkI (k i:Int):Int:=1000003 * (k+7)+i
theorem mark_any (w:World) (k i:Int) (h0:0<=k) (h1:k<=100000) (h2:0<=i) (h3:i<=10000):
  Calls Tryz.prog 100 #[.int .i64 k,.int .i64 i] w fun r w'=>r=.returned (.int .i64 (mkI k i))/\w=w':=by
 go_enter Tryz.func100,Tryz.ntmps100
 go_wp2_with fail
 go_ret
 exact ⟨rfl,rfl⟩
theorem one_new (w:World) (t:TypeId) (x:Value):∀ j u,[x][j]?=some u->(w.alloc (.cells #[x] t)).cell? ((⟨w.heap.size,0,none⟩:Addr).add j)=some u:=
 fun j u h=>World.news_of_block (heap_alloc_new w (.cells #[x] t)) j u h
end Go.Proofs.YtgjhepblpdnkcaaGreatDoor
