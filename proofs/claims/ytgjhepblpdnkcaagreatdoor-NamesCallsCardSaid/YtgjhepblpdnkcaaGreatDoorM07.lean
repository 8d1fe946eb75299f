/- Walks and plain laws: Vc Vd Ve Av Ax Na Nb. -/
import Derived.Test.YtgjhepblpdnkcaaGreatDoorM06
import Derived.Maps.OwnIn
import Derived.Maps.AppendAt
import Derived.Test.YtgjhepblpdnkcaaGreatDoorM02
import Derived.Test.YtgjhepblpdnkcaaGreatDoorProg
import Derived.ChangeKeysEq
import Derived.Lib.Strings
import Derived.WalkLawsBesides
import Derived.WalkSpells
namespace Go.Proofs.YtgjhepblpdnkcaaGreatDoor
open Go.RowKit Go.Shelf
attribute [local go_sem] Oper.semAt_some
set_option maxRecDepth 100000
set_option maxHeartbeats 1000000

theorem cell_lt {W:World} {k o:Nat} {v:Value} (h:W.cell? ⟨k,o,none⟩=some v):k < W.heap.size:=by
 obtain ⟨cs,t,fr,hh⟩:=cell_cells h
 exact (Array.getElem?_eq_some_iff.1 hh).1
theorem BoxOk.below {b n₀:Nat} {W W':World} (h:BoxOk b n₀ W) (hb:Below W.heap.size W W'):BoxOk b n₀ W':=by
 obtain ⟨ao,n,c,h1,h2⟩:=h
 exact ⟨ao,n,c,(hb.cell (p:=⟨b,0,none⟩) (cell_lt h1)).trans h1,fun a ha=>⟨(h2 a ha).1,Nat.lt_of_lt_of_le (h2 a ha).2 hb.size⟩⟩
def enW (x:Wd×Bool):Array Value:=#[.agg (wdD x.1),.bool x.2]
theorem grown_of {W W':World} (h:Below W.heap.size W W'):W.grownBy W' none:=⟨h.os,h.tape,h.output,h.size,fun k hk _=>h.block k hk⟩
theorem each1_stops (s:ByteArray) (hs:s.size<=1000000) (b B n₀ n:Nat) (H:Nat->Prop) (hH:H B) (w:World) (hc:w.cell? ⟨B,0,none⟩=some (.string s)) (hn:n₀<=w.heap.size) (hb:BoxOk b n₀ w) (hn1:1<=n) (hBn:B < n₀):
  SeqStopsK Fence.wide n Tryz.prog 117 #[.pointer (some ⟨B,0,none⟩)] enW (KpW b n₀ H) (fun xs=>xs=yieldsOf s.data.toList) (fun pre=>pre <+: yieldsOf s.data.toList) (yieldsOf s.data.toList).length w:=fun l J Jx W hW hJ hJx hY h0=>by
 have HC:=Lib.hid hc
 have HS:=Lib.hid hs
 have HJ:=Lib.hid hJ;have HJx:=Lib.hid hJx;have HY:=Lib.hid hY;have H0:=Lib.hid h0;have HW:=Lib.hid hW;have HN:=Lib.hid hn;have HBx:=Lib.hid hb
 clear hc hs hJ hJx hY h0 hW hn hb
 refine callsIn_of_wp Tryz.func117 rfl trivial ?_ rfl
 simp only [Tryz.ntmps117,List.size_toArray,List.length_cons,List.length_nil,Nat.reduceAdd,Nat.reduceSub,Array.replicate_succ,Array.replicate_zero,List.push_toArray,List.append_toArray,List.nil_append,List.cons_append]
 gi_wp2
 gi_loopw [3] (fun p wr=>∃ (k f:Nat) (pre:List (Wd×Bool)),p=.int .i64 k/\k<=s.size/\Hid (s.size < f+k/\yieldsOf s.data.toList=pre ++ yieldsF s.data.toList f k/\J pre wr/\BoxOk b n₀ wr/\W.heap.size<=wr.heap.size)/\Hid (wr.cell? ⟨B,0,none⟩=some (.string s)))
  (fun p _=>s.size+1 - (intOf p).toNat)
 case atStart=>
  have hWc:W.cell? ⟨B,0,none⟩=some (.string s):=(HW.out.cell (p:=⟨B,0,none⟩) (cell_lt HC.out)).trans HC.out
  exact ⟨0,s.size+1,[],by go_num,Nat.zero_le _,⟨by omega,by rw [← ba_len];rfl,H0.out,HBx.out.below HW.out,Nat.le_refl _⟩,hWc⟩
 case round=>
  obtain ⟨k,f,pre,rfl,hk,HI,HCr⟩:=hrel
  have hcr:=HCr.out
  have HNx:=Lib.hid (fun x=>next_any s k x HS.out hk)
  cases hq:nextW s.data.toList k with
  | none=>
   rw [hq] at HNx
   unfold nxV wd0 wdA at HNx
   have HSk:=Lib.hid (fun x=>skip_in s k x HS.out hk)
   have HK:=Lib.hid hk;clear hk
   have HQ:=Lib.hid hq;clear hq
   gi_wp2
   refine ⟨trivial,(callsIn_wide.2 (HNx.out _)).mono ?_⟩
   rintro e x ⟨rfl,hb⟩
   have HB1:=Lib.hid hb
   have hbA:=hb.alloc hb.size (.cells #[.int .i64 0,.int .i64 0,.int .i64 0,.string ⟨#[]⟩,.int .i64 0,.int .u64 0,.int .u64 0,.int .u64 0,.int .u64 0] 82)
   have hcA:(x.alloc (.cells #[.int .i64 0,.int .i64 0,.int .i64 0,.string ⟨#[]⟩,.int .i64 0,.int .u64 0,.int .u64 0,.int .u64 0,.int .u64 0] 82)).cell? ⟨B,0,none⟩=some (.string s):=(hbA.cell (p:=⟨B,0,none⟩) (cell_lt HCr.out)).trans HCr.out
   have HBA:=Lib.hid hbA;clear hb hbA hcr
   gi_wp2
   refine ⟨trivial,(callsIn_wide.2 (HSk.out _)).mono ?_⟩
   rintro e y ⟨rfl,hb2⟩
   have HR:=Lib.hid ((hrow.new x _ 82).below hb2)
   have hbY:=HBA.out.trans (hb2.mono HBA.out.size)
   have hgx:wr.heap.size<=x.heap.size:=HB1.out.size
   have HYB:=Lib.hid hbY
   clear hcA hb2 hbY HBA HB1
   generalize x.heap.size=g4 at *
   obtain ⟨_,w1,_⟩:=HR.out.c9
   obtain ⟨_,f1,_⟩:=HR.out.f9
   have HR2:=Lib.hid (HR.out.setCell 1 (.int .i64 ((k:Int)+(skp false (s.data.toList.drop k):Nat))))
   have HB2:=Lib.hid (HYB.out.setCell (p:=⟨g4,1,none⟩) hgx (.int .i64 ((k:Int)+(skp false (s.data.toList.drop k):Nat))))
   generalize hz:y.setCell ⟨g4,1,none⟩ (.int .i64 ((k:Int)+(skp false (s.data.toList.drop k):Nat)))=z at HR2 HB2
   have HZ:=Lib.hid hz
   obtain ⟨c0,c1,c2,c3,c4,c5,c6,c7,c8⟩:=HR2.out.c9
   have hcz:z.cell? ⟨B,0,none⟩=some (.string s):=(HB2.out.cell (p:=⟨B,0,none⟩) (cell_lt HCr.out)).trans HCr.out
   have HYS:Hid (yieldsOf s.data.toList=pre ++ [(badW (k+skp false (s.data.toList.drop k)),false)]):=by
    unfold Hid
    rw [HI.out.2.1,yields_none (by rw [ba_len];exact HI.out.1) (by rw [ba_len];exact HK.out) HQ.out]
   obtain ⟨fn,tmps,assign,body,hy,hR⟩:=HY.out pre (badW (k+skp false (s.data.toList.drop k)),false) z (HJ.out pre wr z none HI.out.2.2.1 (grown_of HB2.out) (by simp)) (by rw [HYS.out];simp)
   have hy2:(Instr.yield l #[.agg #[.int .i64 0,.int .i64 ((k:Int)+(skp false (s.data.toList.drop k):Nat)),.int .i64 0,.string ⟨#[]⟩,.int .i64 0,.int .u64 0,.int .u64 0,.int .u64 0,.int .u64 0],.bool false]).run Tryz.prog z=.ok (.round l fn tmps assign body) z:=hy
   have HRo:=Lib.hid hR
   clear hR hy
   clear HSk HNx HYB
   gi_wp2
   refine HRo.out.mono ?_
   rintro e W' (⟨rfl,hJ',hk⟩ | ⟨rfl,hJx'⟩)
   ·clear hk
    have HJ':=Lib.hid hJ';clear hJ'
    gi_wp2
    refine bodyPost_ret (results_none rfl _ _ _) rfl ?_
    exact ⟨⟨_,rfl⟩,.inl ⟨_,HYS.out.symm,HJ'.out⟩⟩
   ·have HJ':=Lib.hid hJx';clear hJx'
    gi_wp2
    refine bodyPost_ret (results_none rfl _ _ _) rfl ?_
    exact ⟨⟨_,rfl⟩,.inr ⟨_,⟨[],by rw [List.append_nil];exact HYS.out.symm⟩,HJ'.out⟩⟩
  | some d=>
   rw [hq] at HNx
   unfold nxV wdD wdA at HNx
   have HK:=Lib.hid hk;clear hk
   have HQ:=Lib.hid hq;clear hq
   gi_wp2
   refine ⟨trivial,(callsIn_wide.2 (HNx.out _)).mono ?_⟩
   rintro e x ⟨rfl,hb⟩
   have hgx:wr.heap.size<=x.heap.size:=hb.size
   have HB2:=Lib.hid (hb.alloc hb.size (.cells #[.int .i64 d.kind,.int .i64 d.at_,.int .i64 d.nx,.string (tx d.tx),.int .i64 d.lv,.int .u64 (clsW d.cl 0),.int .u64 (clsW d.cl 1),.int .u64 (clsW d.cl 2),.int .u64 (clsW d.cl 3)] 82))
   have HR2:=Lib.hid (hrow.new x #[.int .i64 d.kind,.int .i64 d.at_,.int .i64 d.nx,.string (tx d.tx),.int .i64 d.lv,.int .u64 (clsW d.cl 0),.int .u64 (clsW d.cl 1),.int .u64 (clsW d.cl 2),.int .u64 (clsW d.cl 3)] 82)
   clear hb hcr HNx
   generalize hz:x.alloc (.cells #[.int .i64 d.kind,.int .i64 d.at_,.int .i64 d.nx,.string (tx d.tx),.int .i64 d.lv,.int .u64 (clsW d.cl 0),.int .u64 (clsW d.cl 1),.int .u64 (clsW d.cl 2),.int .u64 (clsW d.cl 3)] 82)=z at HR2 HB2
   obtain ⟨c0,c1,c2,c3,c4,c5,c6,c7,c8⟩:=HR2.out.c9
   have hcz:z.cell? ⟨B,0,none⟩=some (.string s):=(HB2.out.cell (p:=⟨B,0,none⟩) (cell_lt HCr.out)).trans HCr.out
   have HYL:Hid (pre.length < (yieldsOf s.data.toList).length/\(pre ++ [(d,true)]) <+: yieldsOf s.data.toList):=by
    unfold Hid
    rw [HI.out.2.1]
    have hlt:s.data.toList.length < f+k:=by rw [ba_len];exact HI.out.1
    have hkl:k<=s.data.toList.length:=by rw [ba_len];exact HK.out
    by_cases hc:d.kind=1
    ·rw [yields_end hlt hkl HQ.out hc];simp
    ·obtain ⟨gf,e,_⟩:=yields_more hlt hkl HQ.out hc
     rw [e];exact ⟨by simp,⟨yieldsF s.data.toList gf d.nx,by simp⟩⟩
   obtain ⟨fn,tmps,assign,body,hy,hR⟩:=HY.out pre (d,true) z (HJ.out pre wr z none HI.out.2.2.1 (grown_of HB2.out) (by simp)) HYL.out.1
   have hy2:(Instr.yield l #[.agg #[.int .i64 d.kind,.int .i64 d.at_,.int .i64 d.nx,.string (tx d.tx),.int .i64 d.lv,.int .u64 (clsW d.cl 0),.int .u64 (clsW d.cl 1),.int .u64 (clsW d.cl 2),.int .u64 (clsW d.cl 3)],.bool true]).run Tryz.prog z=.ok (.round l fn tmps assign body) z:=hy
   have HRo:=Lib.hid hR
   clear hR hy
   have HBz:=Lib.hid (HI.out.2.2.2.1.below HB2.out)
   have HNr:Hid (¬ RowAt b z x.heap.size):=fun ⟨a,q,c,h1,h2⟩=>by
    obtain ⟨ao,q',c',e1,e2⟩:=HI.out.2.2.2.1
    have e3:=(HB2.out.cell (p:=⟨b,0,none⟩) (cell_lt e1)).trans e1
    rw [h1] at e3
    cases e3
    have:=(e2 a rfl).2
    omega
   have HNB:Hid (¬ RowAt b z B):=fun ⟨a,q,c,h1,h2⟩=>by
    obtain ⟨ao,q',c',e1,e2⟩:=HI.out.2.2.2.1
    have e3:=(HB2.out.cell (p:=⟨b,0,none⟩) (cell_lt e1)).trans e1
    rw [h1] at e3
    cases e3
    have:=(e2 a rfl).1
    omega
   have HG:Hid (n₀<=x.heap.size):=by have h1:=HN.out;have h2:=HW.out.size;have h3:=HI.out.2.2.2.2;unfold Hid;omega
   have HZw:Hid (W.heap.size<=z.heap.size):=Nat.le_trans HI.out.2.2.2.2 HB2.out.size
   gi_wp2
   generalize x.heap.size=g4 at *
   refine HRo.out.mono ?_
   rintro e W' (⟨rfl,hJ',hkp⟩ | ⟨rfl,hJx'⟩)
   ·obtain ⟨kp1,kp2,_,kp4⟩:=hkp HBz.out
    have HR3:=Lib.hid (show hrow W' g4 _ 82 from (kp4 g4 _ _ _ HR2.out.h (.inr HG.out) HNr.out).trans HR2.out)
    have HJ':=Lib.hid hJ'
    have hcB:W'.cell? ⟨B,0,none⟩=some (.string s):=by
     obtain ⟨cs,ty,fr,hh⟩:=cell_cells hcz
     have e:=kp4 B cs ty fr hh (.inl hH) HNB.out
     have:W'.cell? ⟨B,0,none⟩=z.cell? ⟨B,0,none⟩:=by unfold World.cell?;simp only [e]
     exact this.trans hcz
    have HCB:=Lib.hid hcB
    have HBW:=Lib.hid kp1
    have HSW:=Lib.hid (Nat.le_trans HZw.out kp2)
    clear hJ' hkp kp1 kp2 kp4 hcz hy2 hz c0 c1 c2 c3 c4 c5 c6 c7 c8 hcB
    obtain ⟨d0,_,d2,_⟩:=HR3.out.c9
    by_cases hc:d.kind=1
    ·have hcI:(((d.kind:Nat):Int) == 1)=true:=by rw [hc];rfl
     have HYS:Hid (pre ++ [(d,true)]=yieldsOf s.data.toList):=by
      unfold Hid
      rw [HI.out.2.1,yields_end (by rw [ba_len];exact HI.out.1) (by rw [ba_len];exact HK.out) HQ.out hc]
     clear hc
     gi_wp2
     refine bodyPost_ret (results_none rfl _ _ _) rfl ?_
     exact ⟨⟨_,rfl⟩,.inl ⟨_,HYS.out,HJ'.out⟩⟩
    ·have hcI:(((d.kind:Nat):Int) == 1)=false:=by simp;omega
     obtain ⟨gf,e1,e2,e3,e4⟩:=yields_more (by rw [ba_len];exact HI.out.1) (by rw [ba_len];exact HK.out) HQ.out hc
     rw [ba_len] at e3 e4
     have HY1:Hid (yieldsOf s.data.toList=pre ++ [(d,true)] ++ yieldsF s.data.toList gf d.nx):=by
      unfold Hid
      rw [HI.out.2.1,e1];simp
     have HE2:=Lib.hid e2;have HE3:=Lib.hid e3;have HE4:=Lib.hid e4
     clear hc e1 e2 e3 e4
     gi_wp2
     go_roundw
     case rel=>exact ⟨d.nx,gf,pre ++ [(d,true)],by go_num,HE3.out,⟨HE4.out,HY1.out,HJ'.out,HBW.out,HSW.out⟩,HCB.out⟩
     case measure=>have h1:=HE2.out;have h2:=HE3.out;simp [intOf];omega
   ·have HJ':=Lib.hid hJx';clear hJx'
    gi_wp2
    refine bodyPost_ret (results_none rfl _ _ _) rfl ?_
    exact ⟨⟨_,rfl⟩,.inr ⟨_,HYL.out.2,HJ'.out⟩⟩
end Go.Proofs.YtgjhepblpdnkcaaGreatDoor
namespace Go.Proofs.YtgjhepblpdnkcaaGreatDoor
open Go.RowKit Go.Shelf
attribute [local go_sem] Oper.semAt_some
set_option maxRecDepth 100000
set_option maxHeartbeats 1000000

theorem each_any (s:ByteArray) (w:World):Calls Tryz.prog 74 #[.string s] w fun e w'=>e=.returned (.func (.func 117) #[] #[.pointer (some ⟨w.heap.size,0,none⟩)])/\w'=w.alloc (.cells #[.string s] 9):=by
 go_enter Tryz.func74,Tryz.ntmps74
 go_wp2_with fail
 go_ret
 exact ⟨rfl,rfl⟩
/-- Between two rounds. -/
def AllI (w:World) (pre:List (Wd×Bool)) (W:World):Prop:=
 (∃ v,Boxed W w.heap.size 69 v/\W.ownsRow (w.heap.size+4) 82 9 v pre.length (pre.flatMap fun x=>(wdD x.1).toList))/\hrow W (w.heap.size+1) #[.int .i64 0] 3/\hrow W (w.heap.size+2) #[.int .i64 0] 32/\(∀ x ∈ pre,x.2=true)/\Below w.heap.size w W/\w.heap.size+4<=W.heap.size
/-- Behind a round that has left. -/
def AllX (w:World) (pre:List (Wd×Bool)) (W:World):Prop:=
 ∃ ws d,pre=ws ++ [(d,false)]/\hrow W w.heap.size #[.slice none 0 0] 69/\hrow W (w.heap.size+1) #[.int .i64 (d:Wd).at_] 3/\hrow W (w.heap.size+2) #[.int .i64 7] 32/\Below w.heap.size w W
theorem AllI.below {w W W':World} {pre:List (Wd×Bool)} (h:AllI w pre W) (hb:Below W.heap.size W W'):AllI w pre W':=by
 obtain ⟨⟨v,h1,h2⟩,h3,h4,h5,h6,h7⟩:=h
 exact ⟨⟨v,h1.kept (grown_of hb) (by simp),h2.kept (grown_of hb) (by cases v.ownBlock <;> simp)⟩,h3.below hb,h4.below hb,h5,h6.trans (hb.mono h6.size),Nat.le_trans h7 hb.size⟩
theorem AllI.size {w W:World} {pre:List (Wd×Bool)} (h:AllI w pre W):w.heap.size+4<=W.heap.size:=h.2.2.2.2.2
theorem kpW_below {b n₀:Nat} {H:Nat->Prop} {W W':World} (hb:Below W.heap.size W W'):KpW b n₀ H W W':=fun hB=>by
 refine ⟨hB.below hb,hb.size,fun k ⟨a,n,c,h1,h2⟩=>.inl ⟨a,n,c,?_,h2⟩,fun k cs t fr hk _ _=>hb.block k (Array.getElem?_eq_some_iff.1 hk).1⟩
 obtain ⟨ao,q,c',e1,_⟩:=hB
 exact (hb.cell (p:=⟨b,0,none⟩) (cell_lt e1)).symm.trans h1
theorem hrow.own {W W':World} {g B:Nat} {cs:Array Value} {t:TypeId} {row:Option Nat} (h:hrow W g cs t) (hg:W.grownBy W' row) (hr:∀ r,row=some r->B<=r/\∃ o:Obj,W.heap[r]?=some o/\o.isCells=false):hrow W' g cs t:=
 (hg.block g h.lt (fun e=>by obtain ⟨o,ho,hc⟩:=(hr g e.symm).2;rw [h.h] at ho;cases ho;cases hc)).trans h
theorem AllI.own (w:World) (B:Nat) (hB:w.heap.size<=B):OwnFrom B (fun pre W=>AllI w pre W):=by
 rintro pre W W' row ⟨⟨v,h1,h2⟩,h3,h4,h5,h6,h7⟩ hg hr
 obtain ⟨v',a,c,_⟩:=holdsRow_own (β:=List (Wd×Bool)) (w.heap.size+4) w.heap.size 69 82 9 (fun pre=>pre.length) (fun pre=>pre.flatMap fun x=>(wdD x.1).toList) (fun _ _=>True) pre W W' row ⟨v,h1,h2,trivial⟩ hg (fun r e=>(hr r e).2)
 exact ⟨⟨v',a,c⟩,h3.own hg hr,h4.own hg hr,h5,h6.grown hg h6.size (fun k e=>Nat.le_trans hB (hr k e).1),Nat.le_trans h7 hg.size⟩
theorem AllX.own (w:World) (B:Nat) (hB:w.heap.size<=B) (c:Code):OwnFrom B (fun pre W=>c=.ret/\AllX w pre W):=by
 rintro pre W W' row ⟨hc,ws,e,h1,h2,h3,h4,h5⟩ hg hr
 exact ⟨hc,ws,e,h1,h2.own hg hr,h3.own hg hr,h4.own hg hr,h5.grown hg h5.size (fun k e=>Nat.le_trans hB (hr k e).1)⟩
theorem AllI.bad {w W:World} {pre:List (Wd×Bool)} (h:AllI w pre W) (d:Wd):
  AllX w (pre ++ [(d,false)]) (((W.setCell ⟨w.heap.size,0,none⟩ (.slice none 0 0)).setCell ⟨w.heap.size+1,0,none⟩ (.int .i64 d.at_)).setCell ⟨w.heap.size+2,0,none⟩ (.int .i64 7)).drew:=by
 obtain ⟨⟨v,b1,b2⟩,a1,e1,_,hbl,hsz⟩:=h
 have b1':hrow W w.heap.size #[v] 69:=b1
 have x1:=((hrow.setCell b1' 0 (.slice none 0 0)).fr (Fr.setCell _ ⟨w.heap.size+1,0,none⟩ (.int .i64 d.at_)) (by simp)).fr (Fr.setCell _ ⟨w.heap.size+2,0,none⟩ (.int .i64 7)) (by simp)
 have x2:=(hrow.setCell (a1.fr (Fr.setCell _ ⟨w.heap.size,0,none⟩ (.slice none 0 0)) (by simp)) 0 (.int .i64 d.at_)).fr (Fr.setCell _ ⟨w.heap.size+2,0,none⟩ (.int .i64 7)) (by simp)
 have x3:=hrow.setCell ((e1.fr (Fr.setCell _ ⟨w.heap.size,0,none⟩ (.slice none 0 0)) (by simp)).fr (Fr.setCell _ ⟨w.heap.size+1,0,none⟩ (.int .i64 d.at_)) (by simp)) 0 (.int .i64 7)
 exact ⟨pre,d,rfl,x1,x2,x3,(((hbl.setCell (p:=⟨w.heap.size,0,none⟩) (Nat.le_refl _) _).setCell (p:=⟨w.heap.size+1,0,none⟩) (by simp) _).setCell (p:=⟨w.heap.size+2,0,none⟩) (by simp) _).drew⟩
/-- The world in which the loop begins. -/
theorem all0b (w:World) (s:ByteArray):((((w.alloc (.cells #[.slice none 0 0] 69)).alloc (.cells #[.int .i64 0] 3)).alloc (.cells #[.int .i64 0] 32)).alloc (.cells #[.string s] 9)).cell? ⟨w.heap.size,0,none⟩=some (.slice none 0 0):=
 ((((Boxed.new w 69 (.slice none 0 0)).alloc _).alloc _).alloc _).cell
theorem all0c (w:World) (s:ByteArray):((((w.alloc (.cells #[.slice none 0 0] 69)).alloc (.cells #[.int .i64 0] 3)).alloc (.cells #[.int .i64 0] 32)).alloc (.cells #[.string s] 9)).cell? ⟨w.heap.size+3,0,none⟩=some (.string s):=by
 have:=(Boxed.new (((w.alloc (.cells #[.slice none 0 0] 69)).alloc (.cells #[.int .i64 0] 3)).alloc (.cells #[.int .i64 0] 32)) 9 (.string s)).cell
 simpa using this
theorem all0 (w:World) (s:ByteArray):AllI w [] ((((w.alloc (.cells #[.slice none 0 0] 69)).alloc (.cells #[.int .i64 0] 3)).alloc (.cells #[.int .i64 0] 32)).alloc (.cells #[.string s] 9)):=by
 have h1:=((((Boxed.new w 69 (.slice none 0 0)).alloc (.cells #[.int .i64 0] 3)).alloc (.cells #[.int .i64 0] 32)).alloc (.cells #[.string s] 9))
 have h2:=(((Boxed.new (w.alloc (.cells #[.slice none 0 0] 69)) 3 (.int .i64 0)).alloc (.cells #[.int .i64 0] 32)).alloc (.cells #[.string s] 9))
 have h3:=((Boxed.new ((w.alloc (.cells #[.slice none 0 0] 69)).alloc (.cells #[.int .i64 0] 3)) 32 (.int .i64 0)).alloc (.cells #[.string s] 9))
 simp only [World.size_alloc] at h2 h3
 refine ⟨⟨_,h1,World.ownsRow_nil _ _ _ _⟩,h2,h3,(fun x hx=>absurd hx (by simp)),?_,by simp⟩
 exact ((((Below.refl _ w).alloc (Nat.le_refl _) _).alloc (by simp) _).alloc (by simp;omega) _).alloc (by simp;omega) _
theorem wd_inf:(Tryz.prog.info? 82).map (fun i=>(i.zero,i.size,i.bytes))=some (some (.agg #[.int .i64 0,.int .i64 0,.int .i64 0,.string ⟨#[]⟩,.int .i64 0,.int .u64 0,.int .u64 0,.int .u64 0,.int .u64 0]),9,80):=by kernel_rfl
theorem cell_row_new (W:World) (cs:Array Value) (t:TypeId):∀ (j:Nat) u,cs.toList[j]?=some u->(W.alloc (.cells cs t)).cell? ((⟨W.heap.size,0,none⟩:Addr).add j)=some u:=fun j u h=>by
 have e:(⟨W.heap.size,0,none⟩:Addr).add j=⟨W.heap.size,j,none⟩:=by unfold Addr.add;split <;> simp_all
 rw [e,(hrow.new W cs t).cell j]
 simpa using h
theorem yields_len (l:List UInt8):∀ (f k:Nat),(yieldsF l f k).length<=f
 | 0,_=>Nat.le_refl _
 | f+1,k=>by
  unfold yieldsF
  cases nextW l k with
  | none=>simp
  | some w=>
   simp only []
   split
   ·simp
   ·have:=yields_len l f w.nx
    simp;omega
/-- One word more onto the row. -/
theorem append_word {F:Fence} {nF:Nat} {ops:Array Oper} {rest:List Oper} {o:Oper} {a:Act} {Q:Exit->Act->World->Prop} (hgd:o.guard=none) (s x:Operand)
 (ho:o.op=.call { callee:=.builtin .append,args:=#[s,x],argTypes:=#[69,69] })
 (b:Nat) (W:World) (n:Nat) (xs:List Value) (v:Value) (hrow:W.ownsRow b 82 9 v n xs) (hsz:b<=W.heap.size) (cs:Array Value) (hcs:cs.toList.length=9) (h1:∀ u ∈ cs.toList,u.oneCell'=true) (hn:n<=16385) (hs:a.eval s=v) (hx:a.eval x=.slice (some ⟨W.heap.size,0,none⟩) 1 1)
 (h:∀ g c w1,w1.ownsRow b 82 9 (.slice (some ⟨g,0,none⟩) (n+1) c) (n+1) (xs ++ cs.toList)->(W.alloc (.cells cs 82)).grownBy w1 v.ownBlock->(some g=v.ownBlock∨g=W.heap.size+1)->wpListIn F nF Tryz.prog ops Q rest (a.put o.dst (.slice (some ⟨g,0,none⟩) (n+1) c)) w1):
 wpListIn F nF Tryz.prog ops Q (o :: rest) a (W.alloc (.cells cs 82)):=by
 obtain ⟨i0,hi,hz0,hz1,hz2⟩:=info_parts wd_inf
 refine wpListIn_append_own_at (W.alloc (.cells cs 82)) hgd s x 69 ho b 82 i0 _ 9 80 Tryz.underlying69 hi hz0 hz1 hz2 rfl (by decide) v n xs hs (hrow.alloc _) ⟨W.heap.size,0,none⟩ 1 1 cs.toList hx (by rw [hcs]) (cell_row_new W cs _) h1 (by unfold maxLen;omega) (by omega) (by simp;omega) ?_
 intro v' w1 hown hgrow _ hat
 obtain ⟨g,c,rfl⟩:=ownsRow_succ hown
 refine h g c w1 hown hgrow ?_
 rcases hat with h | h
 ·exact .inl h
 ·exact .inr (by simpa [Value.ownBlock] using h)
/-- .. and stored: what a round must show. -/
theorem AllI.more {w W w1:World} {pre:List (Wd×Bool)} {H:Nat->Prop} {v:Value} {d:Wd} {g c:Nat} {tmp:Obj} (hH:¬ H w.heap.size) (hI:AllI w pre W) (hv:Boxed W w.heap.size 69 v) (hrow:W.ownsRow (w.heap.size+4) 82 9 v pre.length (pre.flatMap fun x=>(wdD x.1).toList))
 (hown:w1.ownsRow (w.heap.size+4) 82 9 (.slice (some ⟨g,0,none⟩) (pre.length+1) c) (pre.length+1) ((pre.flatMap fun x=>(wdD x.1).toList) ++ (wdD d).toList)) (hgrow:(W.alloc tmp).grownBy w1 v.ownBlock) (hat:some g=v.ownBlock∨g=W.heap.size+1):
 Boxed w1 w.heap.size 69 v/\KeepsOthers W (w1.setCell ⟨w.heap.size,0,none⟩ (.slice (some ⟨g,0,none⟩) (pre.length+1) c))/\KpW w.heap.size (w.heap.size+4) H W (w1.setCell ⟨w.heap.size,0,none⟩ (.slice (some ⟨g,0,none⟩) (pre.length+1) c))/\AllI w (pre ++ [(d,true)]) (w1.setCell ⟨w.heap.size,0,none⟩ (.slice (some ⟨g,0,none⟩) (pre.length+1) c)):=by
 obtain ⟨_,a1,e1,hpre,hbl,hsz⟩:=hI
 have hte:69 ≠ 82:=by decide
 obtain ⟨k1,k2,k3,k4,_⟩:=hv.appended (n₀:=0) hte ⟨hrow.1,hrow.2.imp id fun ⟨g,c,u,h,_,r⟩=>⟨g,c,u,h,Nat.zero_le _,r⟩⟩ (Nat.zero_le _) (Nat.zero_le _) (v':=.slice (some ⟨g,0,none⟩) (pre.length+1) c) (m:=pre.length+1) ⟨hown.1,hown.2.imp id fun ⟨g,c,u,h,_,r⟩=>⟨g,c,u,h,Nat.zero_le _,r⟩⟩ hgrow
 have k3':(w1.setCell ⟨w.heap.size,0,none⟩ (.slice (some ⟨g,0,none⟩) (pre.length+1) c)).ownsRow (w.heap.size+4) 82 9 (.slice (some ⟨g,0,none⟩) (pre.length+1) c) (pre.length+1) ((pre.flatMap fun x=>(wdD x.1).toList) ++ (wdD d).toList):=hown.kept (grownBy_setCell' w1 _ _) (.inr (k1.not_row hte hown).symm)
 have hgt:∀ r,v.ownBlock=some r->w.heap.size+4<=r/\r < W.heap.size:=by
  intro r hr
  rcases hrow.2 with ⟨rfl,_⟩ | ⟨g,cap,cur,rfl,hb,hgb,_⟩
  ·cases hr
  ·cases hr;exact ⟨hb,(Array.getElem?_eq_some_iff.1 hgb).1⟩
 have hs1:W.heap.size+1<=w1.heap.size:=by simpa using hgrow.size
 have hw1:∀ k,k < W.heap.size->some k ≠ v.ownBlock->w1.heap[k]?=W.heap[k]?:=fun k hk hne=>(hgrow.block k (by simp;omega) hne).trans (Below.heap_alloc _ _ _ hk)
 have hw2:∀ k,k < W.heap.size->some k ≠ v.ownBlock->k ≠ w.heap.size->(w1.setCell ⟨w.heap.size,0,none⟩ (.slice (some ⟨g,0,none⟩) (pre.length+1) c)).heap[k]?=W.heap[k]?:=fun k hk hne hd=>(Below.heap_setCell _ _ _ k hd).trans (hw1 k hk hne)
 have hsz2:(w1.setCell ⟨w.heap.size,0,none⟩ (.slice (some ⟨g,0,none⟩) (pre.length+1) c)).heap.size=w1.heap.size:=by simp
 have hglt:g < w1.heap.size:=by
  rcases hown.2 with ⟨h,_⟩ | ⟨g',cap,cur,h,hb,hgb,_⟩
  ·cases h
  ·cases h;exact (Array.getElem?_eq_some_iff.1 hgb).1
 have hgge:w.heap.size+4<=g:=by
  rcases hown.2 with ⟨h,_⟩ | ⟨g',cap,cur,h,hb,hgb,_⟩
  ·cases h
  ·cases h;exact hb
 refine ⟨k1,k4,fun hB=>⟨⟨_,_,_,k2.cell,fun a ha=>?_⟩,by omega,fun k ⟨a,n,c',h1,h2⟩=>?_,fun k cs t fr hk hH' hn=>?_⟩,⟨⟨_,k2,?_⟩,?_,?_,?_,?_,by omega⟩⟩
 ·cases ha;exact ⟨hgge,by rw [hsz2];exact hglt⟩
 ·rw [k2.cell] at h1
  cases h1
  subst h2
  rcases hat with h | h
  ·left
   obtain ⟨a',n',c',h3,_⟩:=hB
   rcases hrow.2 with ⟨rfl,_⟩ | ⟨g'',cap,cur,rfl,_⟩
   ·cases h
   ·cases h
    exact ⟨_,_,_,hv.cell,rfl⟩
  ·right;simp only at h ⊢;omega
 ·have hkl:k < W.heap.size:=(Array.getElem?_eq_some_iff.1 hk).1
  by_cases hd:k=w.heap.size
  ·subst hd
   rcases hH' with h | h
   ·exact absurd h hH
   ·omega
  ·refine hw2 k hkl (fun e=>hn ?_) hd
   rcases hrow.2 with ⟨rfl,_⟩ | ⟨g'',cap,cur,rfl,_⟩
   ·cases e
   ·cases e
    exact ⟨_,_,_,hv.cell,rfl⟩
 ·simpa using k3'
 ·exact (hw2 _ a1.lt (fun e=>by have:=hgt _ e.symm;omega) (by omega)).trans a1
 ·exact (hw2 _ e1.lt (fun e=>by have:=hgt _ e.symm;omega) (by omega)).trans e1
 ·intro x hx
  rcases List.mem_append.1 hx with h | h
  ·exact hpre x h
  ·simp at h;subst h;rfl
 ·exact ⟨hgrow.os.trans hbl.os,hgrow.tape.trans hbl.tape,hgrow.output.trans hbl.output,by have:=hbl.size;omega,fun k hk=>(hw2 k (by omega) (fun e=>by have:=hgt _ e.symm;omega) (by omega)).trans (hbl.block k hk)⟩
end Go.Proofs.YtgjhepblpdnkcaaGreatDoor
namespace Go.Proofs.YtgjhepblpdnkcaaGreatDoor
open Go.RowKit Go.Shelf
attribute [local go_sem] Oper.semAt_some
set_option maxRecDepth 100000
set_option maxHeartbeats 1000000

theorem loadVar_plain {P:Program} {w:World} {t:TypeId} {a:Addr} {v:Value} (ht:(isAgg t).run P w=.ok false w) (h:w.cell? a=some v):(loadVar t a).run P w=.ok v w:=by
 simp [loadVar,ht,h,go_sem]
/-- Three results that lie in cells. -/
theorem results_c3 {P:Program} {fn:Func} {p q r:Tmp} {tp tq tr:TypeId} (h:fn.results=#[.cell p tp,.cell q tq,.cell r tr]) (tmps:Array Value) (w:World) (a b c:Addr) (u v z:Value)
  (hp:tmps.getD p undef=.pointer (some a)) (hq:tmps.getD q undef=.pointer (some b)) (hr:tmps.getD r undef=.pointer (some c))
  (h1:(loadVar tp a).run P w=.ok u w) (h2:(loadVar tq b).run P w=.ok v w) (h3:(loadVar tr c).run P w=.ok z w):
  (results fn tmps).run P w=.ok (.tuple #[u,v,z]) w:=by
 have hp':tmps[p]?.getD undef=.pointer (some a):=by simpa using hp
 have hq':tmps[q]?.getD undef=.pointer (some b):=by simpa using hq
 have hr':tmps[r]?.getD undef=.pointer (some c):=by simpa using hr
 simp [results,h,hp',hq',hr',asAddr,h1,h2,h3]
theorem owns_heap {W W':World} {b b' e size n:Nat} {v:Value} {xs:List Value} (h:W.ownsRow b e size v n xs) (hbb:b'<=b) (hk:∀ k cs t fr,b<=k->W.heap[k]?=some (.cells cs t fr)->W'.heap[k]?=W.heap[k]?):W'.ownsRow b' e size v n xs:=by
 refine ⟨h.1,?_⟩
 rcases h.2 with h | ⟨g,cap,cur,h1,h2,h3,h4⟩
 ·exact .inl h
 ·exact .inr ⟨g,cap,cur,h1,Nat.le_trans hbb h2,(hk g _ _ _ h2 h3).trans h3,h4⟩
/-- What words.All tells. -/
def AllP (l:List UInt8) (w:World) (e:Ending) (w':World):Prop:=match (wordsOf l).2 with
 | none=>∃ v,e=.returned (.tuple #[v,.int .i64 0,.int .i64 0])/\Own w w' 82 9 v (wordsOf l).1.length ((wordsOf l).1.flatMap fun x=>(wdD x).toList)
 | some p=>e=.returned (.tuple #[.slice none 0 0,.int .i64 p,.int .i64 7])/\Below w.heap.size w w'
theorem yields_of (l:List UInt8):yieldsOf l=(wordsOf l).1.map (·,true) ++ (match (wordsOf l).2 with | some e=>[(badW e,false)] | none=>[]):=yields_words l _ _
theorem AllI.done {w W:World} {l:List UInt8} (h:AllI w (yieldsOf l) W):(wordsOf l).2=none/\∃ v,Boxed W w.heap.size 69 v/\W.ownsRow (w.heap.size+4) 82 9 v (wordsOf l).1.length ((wordsOf l).1.flatMap fun x=>(wdD x).toList)/\hrow W (w.heap.size+1) #[.int .i64 0] 3/\hrow W (w.heap.size+2) #[.int .i64 0] 32/\Below w.heap.size w W:=by
 obtain ⟨⟨v,b1,b2⟩,a1,e1,hp,hb,_⟩:=h
 rw [yields_of] at b2 hp
 cases hq:(wordsOf l).2 with
 | some p=>
  rw [hq] at hp
  exact absurd (hp (badW p,false) (by simp)) (by simp)
 | none=>
  rw [hq] at b2
  simp only [List.append_nil,List.length_map,List.flatMap_map] at b2
  exact ⟨rfl,v,b1,b2,a1,e1,hb⟩
theorem AllX.stop {w W:World} {l:List UInt8} {pre:List (Wd×Bool)} (h:AllX w pre W) (hp:pre <+: yieldsOf l):∃ p,(wordsOf l).2=some p/\hrow W w.heap.size #[.slice none 0 0] 69/\hrow W (w.heap.size+1) #[.int .i64 p] 3/\hrow W (w.heap.size+2) #[.int .i64 7] 32/\Below w.heap.size w W:=by
 obtain ⟨ws,d,rfl,h1,h2,h3,h4⟩:=h
 have hm:(d,false) ∈ yieldsOf l:=hp.subset (by simp)
 rw [yields_of] at hm
 cases hq:(wordsOf l).2 with
 | none=>rw [hq] at hm;simp at hm
 | some p=>
  rw [hq] at hm
  simp at hm
  subst hm
  exact ⟨p,rfl,h1,h2,h3,h4⟩
theorem all_any (s:ByteArray) (w:World) (hs:s.size<=16384):Calls Tryz.prog 34 #[.string s] w fun e w'=>AllP s.data.toList w e w':=by
 refine (callsIn_wide (n:=3)).1 ?_
 refine callsIn_of_wp_marks Tryz.func34 rfl trivial ?_ rfl
 simp only [Tryz.ntmps34,List.size_toArray,List.length_cons,List.length_nil,Nat.reduceAdd,Nat.reduceSub,Array.replicate_succ,Array.replicate_zero,List.push_toArray,List.append_toArray,List.nil_append,List.cons_append]
 have hsI:¬ (16384:Int) < s.size:=by omega
 gi_wp2
 refine ⟨trivial,(callsIn_wide.2 (each_any s _)).mono ?_⟩
 rintro e x ⟨rfl,rfl⟩
 have hcs:=(hrow.new (((w.alloc (.cells #[.slice none 0 0] 69)).alloc (.cells #[.int .i64 0] 3)).alloc (.cells #[.int .i64 0] 32)) #[.string s] 9).cell 0
 have hbx:=(hrow.new w #[.slice none 0 0] 69)
 have HCS:=Lib.hid hcs;have HBX:=Lib.hid hbx;have HS:=Lib.hid hs;clear hcs hbx hs hsI
 gi_wp2
 refine wpIn_rangeFunc_ownH rfl (by omega) (gf:=117) (lb:=#[.pointer (some ⟨w.heap.size+3,0,none⟩)]) rfl trivial (enters_of Tryz.func117 (by kernel_rfl) rfl)
  (each1_stops s (by have:=HS.out;omega) w.heap.size (w.heap.size+3) (w.heap.size+4) _ (fun k=>k=w.heap.size+3) rfl _ (all0c w s) (by simp) ⟨none,0,0,all0b w s,fun a h=>by cases h⟩ (by omega) (by omega))
  kpW_t (fun W l o o' _ h hc _=>kpW_b W l o o' h hc) (Below.refl _ _) (fun _=>rfl)
  (fun pre W=>AllI w pre W) (fun c pre W=>c=.ret/\AllX w pre W) (AllI.own w _ (by simp;omega)) (AllX.own w _ (by simp;omega)) (all0 w s)
  (fun x a' W=>∃ Bx,w.heap.size+4<=Bx/\hrow W Bx (wdD x.1) 82/\a'={ tmps:=#[.string s,undef,.pointer (some ⟨w.heap.size,0,none⟩),.pointer (some ⟨w.heap.size+1,0,none⟩),.pointer (some ⟨w.heap.size+2,0,none⟩),.pointer (some ⟨Bx,0,none⟩),.bool x.2,.string s,.int .i64 s.size,.bool false,.string s,.func (.func 117) #[] #[.pointer (some ⟨w.heap.size+3,0,none⟩)],.agg (wdD x.1),.bool x.2,undef,undef,undef,undef,undef,undef,undef,undef,undef],defers:=[] }) (fun x a' _ W W' row ⟨Bx,h1,h2,h3⟩ hg hr=>⟨Bx,h1,h2.own hg hr,h3⟩) ?assign ?body ?done ?stop
 case assign=>
  intro l pre x W K hi hK
  have HK:=Lib.hid hK;have HI:=Lib.hid hi;clear hK hi
  dsimp only [enW]
  unfold wdD wdA at *
  gi_wp2
  exact HK.out _ _ ((KeepsOthers.alloc _ _).from _) (kpW_below ((Below.refl _ W).alloc (Nat.le_refl _) _)) (HI.out.below ((Below.refl _ W).alloc (Nat.le_refl _) _)) ⟨W.heap.size,HI.out.size,hrow.new _ _ _,rfl⟩
 case body=>
  rintro l pre ⟨d,q⟩ a' W hl ⟨r,hr⟩ hI ⟨Bx,hB,hW,rfl⟩ hlen
  obtain ⟨c0,c1,c2,c3,c4,c5,c6,c7,c8⟩:=hrow.c9 (show hrow W Bx #[.int .i64 d.kind,.int .i64 d.at_,.int .i64 d.nx,.string (tx d.tx),.int .i64 d.lv,.int .u64 (clsW d.cl 0),.int .u64 (clsW d.cl 1),.int .u64 (clsW d.cl 2),.int .u64 (clsW d.cl 3)] 82 from hW)
  have HI:=Lib.hid hI;have HW:=Lib.hid hW;have HL:=Lib.hid hl
  clear hI hW hl hr
  cases q with
  | false=>
   obtain ⟨⟨v,b1,b2⟩,a1,e1,hpre,hbl,hsz⟩:=HI.out
   have k0:=b1.cell
   have k1:=a1.cell 0
   have k2:=e1.cell 0
   have f0:=hrow.frozen b1 0
   have f1:=a1.frozen 0
   have f2:=e1.frozen 0
   clear b1 b2 a1 e1 hpre hbl hsz
   gi_wp2
   have HX:=Lib.hid (AllI.bad HI.out d)
   gi_region
   all_goals
    gi_wp2
    exact ⟨((((KeepsOthers.setCell _ _ _).trans (KeepsOthers.setCell _ _ _)).trans (KeepsOthers.setCell _ _ _)).trans (KeepsOthers.drew _)).from _,rfl,HX.out⟩
  | true=>
   obtain ⟨⟨v,b1,b2⟩,a1,e1,hpre,hbl,hsz⟩:=HI.out
   have k0:=b1.cell
   have f0:=hrow.frozen b1 0
   have HV:=Lib.hid b2
   have HB1:=Lib.hid b1
   have HPL:=Lib.hid (show pre.length<=16385 by have h1:=yields_len s.data.toList (s.data.toList.length+1) 0;have h2:=HS.out;have h3:=ba_len s;unfold yieldsOf at hlen;omega)
   have HSZ:=Lib.hid hsz
   have HNH:=Lib.hid (show ¬ (fun k=>k=w.heap.size+3) w.heap.size from fun h=>by simp at h)
   have HOC:=Lib.hid (show ∀ u ∈ (#[.int .i64 d.kind,.int .i64 d.at_,.int .i64 d.nx,.string (tx d.tx),.int .i64 d.lv,.int .u64 (clsW d.cl 0),.int .u64 (clsW d.cl 1),.int .u64 (clsW d.cl 2),.int .u64 (clsW d.cl 3)]:Array Value).toList,u.oneCell'=true by simp [Value.oneCell'])
   clear b1 b2 a1 e1 hpre hbl hsz hlen
   gi_wp2_with (gi_at_builtin;refine append_word rfl _ _ rfl (w.heap.size+4) W pre.length _ v HV.out HSZ.out #[.int .i64 d.kind,.int .i64 d.at_,.int .i64 d.nx,.string (tx d.tx),.int .i64 d.lv,.int .u64 (clsW d.cl 0),.int .u64 (clsW d.cl 1),.int .u64 (clsW d.cl 2),.int .u64 (clsW d.cl 3)] rfl HOC.out HPL.out rfl rfl ?_;intro g c w1 hown' hgrow hat;obtain ⟨k1,k2,k3,k4⟩:=AllI.more (H:=fun k=>k=w.heap.size+3) HNH.out HI.out HB1.out HV.out hown' hgrow hat;have kc:=k1.cell;have kf:=hrow.frozen k1 0;have K2:=Lib.hid k2;have K3:=Lib.hid k3;have K4:=Lib.hid k4;clear k1 k2 k3 k4 hown' hgrow hat)
   exact ⟨K2.out.from _,K3.out,K4.out⟩
 case done=>
  rintro D ys W hD rfl hI hK
  obtain ⟨hq,v,b1,b2,a1,e1,hb⟩:=hI.done
  obtain ⟨ao,cap,rfl,_⟩:=Sv.of_owns b2
  have HQ:=Lib.hid hq;have HV:=Lib.hid b2;have HB:=Lib.hid hb
  have k0:=b1.cell
  have k1:=a1.cell 0
  have k2:=e1.cell 0
  have f0:=hrow.frozen b1 0
  have f1:=a1.frozen 0
  have f2:=e1.frozen 0
  clear hq b2 hb hI
  have HD:=Lib.hid (show w.heap.size+4<=D by simpa using hD)
  have X0:=Lib.hid (show hrow W w.heap.size #[.slice ao (wordsOf s.data.toList).1.length cap] 69 from b1)
  have X1:=Lib.hid a1
  have X2:=Lib.hid e1
  clear b1 a1 e1 hD
  gi_wp2
  obtain ⟨W2,hW2⟩:∃ W2,((W.setCell ⟨w.heap.size,0,none⟩ (.slice ao (wordsOf s.data.toList).1.length cap)).setCell ⟨w.heap.size+1,0,none⟩ (.int .i64 0)).setCell ⟨w.heap.size+1+1,0,none⟩ (.int .i64 0)=W2:=⟨_,rfl⟩
  have hb2:∀ k,k ≠ w.heap.size->k ≠ w.heap.size+1->k ≠ w.heap.size+2->W2.heap[k]?=W.heap[k]?:=fun k h0 h1 h2=>by
   rw [← hW2];exact (Below.heap_setCell _ _ _ k h2).trans ((Below.heap_setCell _ _ _ k h1).trans (Below.heap_setCell _ _ _ k h0))
  have hBl:Below w.heap.size w W2:=by
   rw [← hW2];exact ((HB.out.setCell (p:=⟨w.heap.size,0,none⟩) (Nat.le_refl _) _).setCell (p:=⟨w.heap.size+1,0,none⟩) (by simp) _).setCell (p:=⟨w.heap.size+1+1,0,none⟩) (by simp;omega) _
  have y0:hrow W2 w.heap.size #[.slice ao (wordsOf s.data.toList).1.length cap] 69:=by
   rw [← hW2];exact ((hrow.setCell X0.out 0 _).fr (Fr.setCell _ ⟨w.heap.size+1,0,none⟩ (.int .i64 0)) (by simp)).fr (Fr.setCell _ ⟨w.heap.size+1+1,0,none⟩ (.int .i64 0)) (by simp;omega)
  have y1:hrow W2 (w.heap.size+1) #[.int .i64 0] 3:=by
   rw [← hW2];exact (hrow.setCell (X1.out.fr (Fr.setCell _ ⟨w.heap.size,0,none⟩ _) (by simp)) 0 (.int .i64 0)).fr (Fr.setCell _ ⟨w.heap.size+1+1,0,none⟩ (.int .i64 0)) (by simp)
  have y2:hrow W2 (w.heap.size+2) #[.int .i64 0] 32:=by
   rw [← hW2];exact hrow.setCell ((X2.out.fr (Fr.setCell _ ⟨w.heap.size,0,none⟩ _) (by simp)).fr (Fr.setCell _ ⟨w.heap.size+1,0,none⟩ (.int .i64 0)) (by simp)) 0 (.int .i64 0)
  have hK2:W2.heap[D]?=some (.deferred (some [])):=(hb2 D (by have:=HD.out;omega) (by have:=HD.out;omega) (by have:=HD.out;omega)).trans hK
  rw [hW2]
  refine ⟨by simp,.inl ⟨_,_,rfl,run_takeDeferred hK2,?_⟩⟩
  have hne:∀ k,k < w.heap.size+4->k ≠ D:=fun k h e=>by have:=HD.out;omega
  have b1':=hrow.cell ((World.putObj_heap_other (o:=.deferred none) (hne (w.heap.size) (by omega))).trans y0) 0
  have a1':=hrow.cell ((World.putObj_heap_other (o:=.deferred none) (hne (w.heap.size+1) (by omega))).trans y1) 0
  have e1':=hrow.cell ((World.putObj_heap_other (o:=.deferred none) (hne (w.heap.size+2) (by omega))).trans y2) 0
  refine ⟨_,results_c3 rfl _ _ _ _ _ _ _ _ rfl rfl rfl (loadVar_plain (by simp) b1') (loadVar_plain (by simp) a1') (loadVar_plain (by simp) e1'),?_⟩
  unfold AllP
  rw [HQ.out]
  refine ⟨_,rfl,owns_heap HV.out (by omega) (fun k cs t fr hk hc=>?_),hBl.trans (belowK_b (w:=w) (Nat.le_refl _) W2 D _ _ (by have:=HD.out;omega) hK2 rfl rfl)⟩
  have hkD:k ≠ D:=fun e=>by subst e;rw [hK] at hc;cases hc
  exact (World.putObj_heap_other hkD).trans (hb2 k (by omega) (by omega) (by omega))
 case stop=>
  rintro D c pre W hD hp ⟨rfl,hX⟩ hK
  obtain ⟨p,hq,b1,a1,e1,hb⟩:=hX.stop hp
  have HQ:=Lib.hid hq;have HB:=Lib.hid hb
  clear hq hb hX hp
  gi_wp2
  refine ⟨by simp,.inl ⟨_,_,rfl,run_takeDeferred hK,?_⟩⟩
  have hne:∀ k,k < w.heap.size+4->k ≠ D:=fun k h e=>by simp at hD;omega
  have b1':=hrow.cell ((World.putObj_heap_other (o:=.deferred none) (hne (w.heap.size) (by omega))).trans b1) 0
  have a1':=hrow.cell ((World.putObj_heap_other (o:=.deferred none) (hne (w.heap.size+1) (by omega))).trans a1) 0
  have e1':=hrow.cell ((World.putObj_heap_other (o:=.deferred none) (hne (w.heap.size+2) (by omega))).trans e1) 0
  refine ⟨_,results_c3 rfl _ _ _ _ _ _ _ _ rfl rfl rfl (loadVar_plain (by simp) b1') (loadVar_plain (by simp) a1') (loadVar_plain (by simp) e1'),?_⟩
  unfold AllP
  rw [HQ.out]
  exact ⟨rfl,HB.out.trans (belowK_b (w:=w) (Nat.le_refl _) W D _ _ (by simp at hD;omega) hK rfl rfl)⟩
end Go.Proofs.YtgjhepblpdnkcaaGreatDoor
namespace Go.Proofs.YtgjhepblpdnkcaaGreatDoor
open Go.RowKit
set_option maxRecDepth 100000
set_option maxHeartbeats 1000000

section
theorem u64_und:Tryz.prog.underlying 41=some (.int .u64):=by kernel_rfl
theorem part_u64 (w:World) (cs:Array Value) (o:Nat) (v:Value) (h:cs[o]?=some v):(part 41 cs o).run Tryz.prog w=.ok v w:=by
 have ha:(isAgg 41).run Tryz.prog w=.ok false w:=by simp [isAgg,run_underlying u64_und]
 unfold part
 simp [ha,h]
theorem eq_u64 (w:World) (d:Nat) (x y:Int):(Op.equalIn (d+1) 41 (.int .u64 x) (.int .u64 y)).run Tryz.prog w=.ok (x == y) w:=by
 simp [Op.equalIn,run_underlying u64_und]
theorem items_step (w:World) (d:Nat) (xs ys:Array Value) (i:Nat) (is:List Nat) (x y:Int) (hx:xs[i * 1]?=some (.int .u64 x)) (hy:ys[i * 1]?=some (.int .u64 y)):
  (Op.eqItems (d+1) 41 1 xs ys (i :: is)).run Tryz.prog w=if (x == y)=true then (Op.eqItems (d+1) 41 1 xs ys is).run Tryz.prog w else .ok false w:=by
 simp only [Op.eqItems,Sem.run_bind,part_u64 w _ _ _ hx,part_u64 w _ _ _ hy,Result.andThen_ok,eq_u64]
 cases x == y <;> rfl
theorem cls_eqd (d:Nat) (w:World) (a b c e a' b' c' e':Int):(Op.equalIn (d+2) 43 (.agg #[.int .u64 a,.int .u64 b,.int .u64 c,.int .u64 e]) (.agg #[.int .u64 a',.int .u64 b',.int .u64 c',.int .u64 e'])).run Tryz.prog w=.ok (a == a' && b == b' && c == c' && e == e') w:=by
 obtain ⟨i,hi⟩:=Option.isSome_iff_exists.1 (show (Tryz.prog.info? 41).isSome=true by kernel_rfl)
 rw [run_equalIn_array (P:=Tryz.prog) w (d+1) (e:=41) (n:=4) (i:=i) _ _ Tryz.underlying43 hi]
 rw [show Tryz.prog.cellsOf 41=1 by kernel_rfl,show List.range 4=[0,1,2,3] from rfl]
 rw [items_step w d _ _ 0 _ a a' rfl rfl,items_step w d _ _ 1 _ b b' rfl rfl,items_step w d _ _ 2 _ c c' rfl rfl,items_step w d _ _ 3 _ e e' rfl rfl]
 have h0:(Op.eqItems (d+1) 41 1 #[.int .u64 a,.int .u64 b,.int .u64 c,.int .u64 e] #[.int .u64 a',.int .u64 b',.int .u64 c',.int .u64 e'] []).run Tryz.prog w=.ok true w:=by simp [Op.eqItems]
 rw [h0]
 cases a == a' <;> cases b == b' <;> cases c == c' <;> cases e == e' <;> rfl
/-- Two classes are compared word by word. -/
theorem cls_eq (w:World) (a b c d a' b' c' d':Int):(Op.equalIn 10000 43 (.agg #[.int .u64 a,.int .u64 b,.int .u64 c,.int .u64 d]) (.agg #[.int .u64 a',.int .u64 b',.int .u64 c',.int .u64 d'])).run Tryz.prog w=.ok (a == a' && b == b' && c == c' && d == d') w:=by
 rw [show (10000:Nat)=9998+2 from rfl]
 exact cls_eqd 9998 w a b c d a' b' c' d'
end
end Go.Proofs.YtgjhepblpdnkcaaGreatDoor
namespace Go.Proofs.YtgjhepblpdnkcaaGreatDoor
open Go.RowKit
set_option maxRecDepth 100000
set_option maxHeartbeats 4000000

theorem fl_len {α:Type} {f:α->List Value} {s:Nat} (hf:∀ x,(f x).length=s):∀ l:List α,(l.flatMap f).length=l.length * s
 | []=>by simp
 | x :: l=>by rw [List.flatMap_cons,List.length_append,hf,fl_len hf l,List.length_cons,Nat.succ_mul];omega
theorem fl_at {α:Type} {f:α->List Value} {s:Nat} (hf:∀ x,(f x).length=s):∀ (l:List α) (i:Nat) (hi:i < l.length) (j:Nat),j < s->(l.flatMap f)[i * s+j]?=(f l[i])[j]?
 | x :: l,0,_,j,hj=>by rw [List.flatMap_cons,Nat.zero_mul,Nat.zero_add,List.getElem?_append_left (by rw [hf];exact hj)];rfl
 | x :: l,i+1,hi,j,hj=>by
  rw [List.flatMap_cons,List.getElem?_append_right (by rw [hf,Nat.succ_mul];omega),hf]
  have e:(i+1) * s+j - s=i * s+j:=by rw [Nat.succ_mul];omega
  rw [e]
  exact fl_at hf l i (by simpa using hi) j hj
theorem Sv.at {α:Type} {f:α->List Value} {s:Nat} (hf:∀ x,(f x).length=s) {w:World} {ao:Option Addr} {n cap:Nat} {l:List α} (h:Sv w ao n cap s (l.flatMap f)) (hs:0 < s) (i:Nat) (hi:i < l.length):
  ∃ a,ao=some a/\∀ j v,(f l[i])[j]?=some v->w.cell? ((a.add (i * s)).add j)=some v:=by
 have hl:=fl_len hf l
 have hb:i * s+s<=l.length * s:=by rw [← Nat.succ_mul];exact Nat.mul_le_mul_right s (by omega)
 obtain ⟨a,ha,_⟩:=h.cell (i * s) (by omega)
 refine ⟨a,ha,fun j v hj=>?_⟩
 have hjs:j < s:=by have:=(List.getElem?_eq_some_iff.1 hj).1;rw [hf] at this;exact this
 obtain ⟨a',ha',hc⟩:=h.cell (i * s+j) (by omega)
 rw [ha] at ha';cases ha'
 rw [add_add,hc,fl_at hf l i hi j hjs,hj]
theorem add_off (a:Addr) (i j:Nat) (hj:0 < j):(a.add i).add j=⟨(a.add i).block,(a.add i).off+j,none⟩:=by
 unfold Addr.add
 by_cases h:i=0 <;> simp [h,show j ≠ 0 by omega]
theorem wdD_len (d:Wd):(wdD d).toList.length=9:=rfl
end Go.Proofs.YtgjhepblpdnkcaaGreatDoor
namespace Go.Proofs.YtgjhepblpdnkcaaGreatDoor
open Go.RowKit

structure Nd where
 kind:Int
 c0:Int
 c1:Int
 c2:Int
 c3:Int
 text:ByteArray
 rule:Int
 lev:Int
 kids:List Int
structure Ru where
 name:ByteArray
 body:Int
structure Gr where
 rules:List Ru
 nodes:List Nd
def bt (w:List Int) (p:Nat):Int:=w.getD p (-1)
theorem bt_get {l:List Int} {p:Nat} (h:p < l.length):l[p]=bt l p:=by simp [bt,List.getD_eq_getElem?_getD,h]
theorem Sv.n_eq {α:Type} {f:α->List Value} {s:Nat} (hf:∀ x,(f x).length=s) (hs:0 < s) {w:World} {ao:Option Addr} {n cap:Nat} {l:List α} (h:Sv w ao n cap s (l.flatMap f)):l.length=n:=by
 have:=h.len
 rw [fl_len hf] at this
 exact Nat.eq_of_mul_eq_mul_right hs this
def inc (l:List Int):List Value:=l.map fun c=>.int .i64 c
def ruc (r:Ru):List Value:=[.string r.name,.int .i64 r.body]
def ndc (p:Nd×(Option Addr×Nat)):List Value:=[.int .i64 p.1.kind,.int .u64 p.1.c0,.int .u64 p.1.c1,.int .u64 p.1.c2,.int .u64 p.1.c3,.string p.1.text,.int .i64 p.1.rule,.int .i64 p.1.lev,.slice p.2.1 p.1.kids.length p.2.2]
theorem ruc_len (r:Ru):(ruc r).length=2:=rfl
theorem ndc_len (p:Nd×(Option Addr×Nat)):(ndc p).length=9:=rfl

/-- The nodes, each with the place of its kids. -/
structure NdW (w:World) (no:Option Addr) (nn nc:Nat) (NK:List (Nd×(Option Addr×Nat))):Prop where
 sv:Sv w no nn nc 9 (NK.flatMap ndc)
 kids:∀ p ∈ NK,Sv w p.2.1 p.1.kids.length p.2.2 1 (inc p.1.kids)
 txt:∀ p ∈ NK,p.1.text.size<=9223372036854775807
structure GrW (w:World) (ro:Option Addr) (rn rc:Nat) (no:Option Addr) (nn nc:Nat) (NK:List (Nd×(Option Addr×Nat))) (G:Gr):Prop where
 rul:Sv w ro rn rc 2 (G.rules.flatMap ruc)
 nam:∀ r ∈ G.rules,r.name.size<=9223372036854775807
 nod:NdW w no nn nc NK
 eq:NK.map (·.1)=G.nodes
def grv (ro:Option Addr) (rn rc:Nat) (no:Option Addr) (nn nc:Nat):Value:=.agg #[.slice ro rn rc,.slice no nn nc]
theorem NdW.below {w w':World} {no:Option Addr} {nn nc:Nat} {NK:List (Nd×(Option Addr×Nat))} (h:NdW w no nn nc NK) (hb:Below w.heap.size w w'):NdW w' no nn nc NK:=
 ⟨h.sv.below hb,fun p hp=>(h.kids p hp).below hb,h.txt⟩
theorem GrW.below {w w':World} {ro:Option Addr} {rn rc:Nat} {no:Option Addr} {nn nc:Nat} {NK:List (Nd×(Option Addr×Nat))} {G:Gr} (h:GrW w ro rn rc no nn nc NK G) (hb:Below w.heap.size w w'):GrW w' ro rn rc no nn nc NK G:=
 ⟨h.rul.below hb,h.nam,h.nod.below hb,h.eq⟩
theorem inc_len (l:List Int):(inc l).length=l.length:=by simp [inc]
theorem Sv.intc {w:World} {ao:Option Addr} {n cap:Nat} {l:List Int} (h:Sv w ao n cap 1 (inc l)) (k:Nat) (hk:k < l.length):∃ a,ao=some a/\w.cell? (a.add k)=some (.int .i64 (bt l k)):=by
 obtain ⟨a,ha,hc⟩:=h.cell k (by rw [inc_len];exact hk)
 exact ⟨a,ha,by rw [hc];simp [inc,hk,bt_get hk]⟩
theorem Sv.int_len {w:World} {ao:Option Addr} {n cap:Nat} {l:List Int} (h:Sv w ao n cap 1 (inc l)):l.length=n:=by
 have:=h.len;rw [inc_len] at this;omega
theorem Sv.ru2 {w:World} {ao:Option Addr} {n cap:Nat} {t:List Ru} (h:Sv w ao n cap 2 (t.flatMap ruc)) {k:Nat} (hk:k < t.length):
  ∃ a,ao=some a/\w.cell? (a.add (k * 2))=some (.string t[k].name)/\w.cell? ⟨(a.add (k * 2)).block,(a.add (k * 2)).off+1,none⟩=some (.int .i64 t[k].body):=by
 obtain ⟨a,ha,hc⟩:=h.at ruc_len (by decide) k hk
 refine ⟨a,ha,hc 0 _ rfl,?_⟩
 have:=hc 1 _ rfl
 rw [add_off _ _ _ (by decide)] at this
 exact this

theorem Sv.nd9 {w:World} {ao:Option Addr} {n cap:Nat} {t:List (Nd×(Option Addr×Nat))} (h:Sv w ao n cap 9 (t.flatMap ndc)) {k:Nat} (hk:k < t.length):
  ∃ a,ao=some a/\w.cell? (a.add (k * 9))=some (.int .i64 t[k].1.kind)/\w.cell? ⟨(a.add (k * 9)).block,(a.add (k * 9)).off+1,none⟩=some (.int .u64 t[k].1.c0)/\w.cell? ⟨(a.add (k * 9)).block,(a.add (k * 9)).off+2,none⟩=some (.int .u64 t[k].1.c1)/\w.cell? ⟨(a.add (k * 9)).block,(a.add (k * 9)).off+3,none⟩=some (.int .u64 t[k].1.c2)/\w.cell? ⟨(a.add (k * 9)).block,(a.add (k * 9)).off+4,none⟩=some (.int .u64 t[k].1.c3)/\w.cell? ⟨(a.add (k * 9)).block,(a.add (k * 9)).off+5,none⟩=some (.string t[k].1.text)/\w.cell? ⟨(a.add (k * 9)).block,(a.add (k * 9)).off+6,none⟩=some (.int .i64 t[k].1.rule)/\w.cell? ⟨(a.add (k * 9)).block,(a.add (k * 9)).off+7,none⟩=some (.int .i64 t[k].1.lev)/\w.cell? ⟨(a.add (k * 9)).block,(a.add (k * 9)).off+8,none⟩=some (.slice t[k].2.1 t[k].1.kids.length t[k].2.2):=by
 obtain ⟨a,ha,hc⟩:=h.at ndc_len (by decide) k hk
 refine ⟨a,ha,hc 0 _ rfl,?_,?_,?_,?_,?_,?_,?_,?_⟩
 ·have:=hc 1 _ rfl;rw [add_off _ _ _ (by decide)] at this;exact this
 ·have:=hc 2 _ rfl;rw [add_off _ _ _ (by decide)] at this;exact this
 ·have:=hc 3 _ rfl;rw [add_off _ _ _ (by decide)] at this;exact this
 ·have:=hc 4 _ rfl;rw [add_off _ _ _ (by decide)] at this;exact this
 ·have:=hc 5 _ rfl;rw [add_off _ _ _ (by decide)] at this;exact this
 ·have:=hc 6 _ rfl;rw [add_off _ _ _ (by decide)] at this;exact this
 ·have:=hc 7 _ rfl;rw [add_off _ _ _ (by decide)] at this;exact this
 ·have:=hc 8 _ rfl;rw [add_off _ _ _ (by decide)] at this;exact this

end Go.Proofs.YtgjhepblpdnkcaaGreatDoor
namespace Go.Proofs.YtgjhepblpdnkcaaGreatDoor
open Go.RowKit
set_option maxRecDepth 100000
set_option maxHeartbeats 2000000

theorem sameIn_any (w:World) (ao bo:Option Addr) (n ac bc:Nat) (t:List Int) (ha:Sv w ao n ac 1 (inc t)) (hb:Sv w bo n bc 1 (inc t)):
  Calls Tryz.prog 62 #[.slice ao n ac,.slice bo n bc] w fun r w'=>r=.returned (.bool true)/\Below w.heap.size w w':=by
 obtain ⟨h1,h2⟩:=ha.bound
 obtain ⟨h3,h4⟩:=hb.bound
 have hl:=ha.int_len
 have HA:=Lib.hid ha;have HB:=Lib.hid hb;have HL:=Lib.hid hl
 clear ha hb hl
 go_enter Tryz.func62,Tryz.ntmps62
 go_wp2_with fail
 go_loopw [5] (fun i wr=>∃ k:Nat,k<=n/\i=.int .i64 k/\Hid (Below w.heap.size w wr)) (fun i _=>n - (intOf i).toNat)
 case atStart=>exact ⟨0,by omega,rfl,Below.refl _ _⟩
 case round=>
  obtain ⟨k,hk,rfl,HBr⟩:=hrel
  by_cases hlt:k < n
  ·have hlt':(k:Int) < n:=by omega
   have hkl:k < t.length:=by have:=HL.out;omega
   obtain ⟨a,rfl,a0⟩:=(HA.out.below HBr.out).intc k hkl
   obtain ⟨b,rfl,b0⟩:=(HB.out.below HBr.out).intc k hkl
   generalize bt t k=x at *
   clear hkl
   go_wp2_with fail
   go_quiet (fail)
   go_wp2_with fail
   go_roundw
   case rel=>exact ⟨k+1,by omega,by go_num,HBr.out.trans (below_drewN (Below.refl _ _) _ |>.mono HBr.out.size)⟩
   case measure=>simp [intOf];omega
  ·have hge:(n:Int)<=k:=by omega
   go_wp2_with fail
   go_ret
   exact ⟨rfl,HBr.out⟩
theorem sameRu_any (w:World) (ao bo:Option Addr) (n ac bc:Nat) (t:List Ru) (ha:Sv w ao n ac 2 (t.flatMap ruc)) (hb:Sv w bo n bc 2 (t.flatMap ruc)):
  Calls Tryz.prog 40 #[.slice ao n ac,.slice bo n bc] w fun r w'=>r=.returned (.bool true)/\Below w.heap.size w w':=by
 obtain ⟨h1,h2⟩:=ha.bound
 obtain ⟨h3,h4⟩:=hb.bound
 have hl:=ha.n_eq ruc_len (by decide)
 have HA:=Lib.hid ha;have HB:=Lib.hid hb;have HL:=Lib.hid hl
 clear ha hb hl
 go_enter Tryz.func40,Tryz.ntmps40
 go_wp2_with fail
 go_loopw [5] (fun i wr=>∃ k:Nat,k<=n/\i=.int .i64 k/\Hid (Below w.heap.size w wr)) (fun i _=>n - (intOf i).toNat)
 case atStart=>exact ⟨0,by omega,rfl,Below.refl _ _⟩
 case round=>
  obtain ⟨k,hk,rfl,HBr⟩:=hrel
  by_cases hlt:k < n
  ·have hlt':(k:Int) < n:=by omega
   have hkl:k < t.length:=by have:=HL.out;omega
   obtain ⟨a,rfl,a0,a1⟩:=(HA.out.below HBr.out).ru2 hkl
   obtain ⟨b,rfl,b0,b1⟩:=(HB.out.below HBr.out).ru2 hkl
   generalize t[k]=x at *
   obtain ⟨x1,x2⟩:=x
   simp only [] at a0 a1 b0 b1
   clear hkl
   go_wp2_with fail
   go_quiet (fail)
   go_wp2_with fail
   go_roundw
   case rel=>exact ⟨k+1,by omega,by go_num,HBr.out.trans (below_drewN (Below.refl _ _) _ |>.mono HBr.out.size)⟩
   case measure=>simp [intOf];omega
  ·have hge:(n:Int)<=k:=by omega
   go_wp2_with fail
   go_ret
   exact ⟨rfl,HBr.out⟩

end Go.Proofs.YtgjhepblpdnkcaaGreatDoor
