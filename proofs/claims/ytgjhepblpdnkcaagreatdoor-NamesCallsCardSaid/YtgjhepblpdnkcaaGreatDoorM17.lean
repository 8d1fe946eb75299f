/- Walks and plain laws: Kg Kh Jq Lb Gh. -/
import Derived.Test.YtgjhepblpdnkcaaGreatDoorM15
import Derived.Test.YtgjhepblpdnkcaaGreatDoorM16
import Derived.Lib.Slices
namespace Go.Proofs.YtgjhepblpdnkcaaGreatDoor
open Go.RowKit Go.Shelf
attribute [local go_sem] Oper.semAt_some
set_option maxRecDepth 100000
set_option maxHeartbeats 8000000

theorem callsIn_round {l n:Nat} {P:Program} {f:FuncId} {args:Array Value} {w:World} {R:Ending->World->Prop} (h:Calls P f args w R):CallsIn (Fence.wide.inRound l) n P f args w R:=(callsIn_wide (n:=n)).2 h
theorem SgnI.below {L:List Wd} {B gr d i n:Nat} {w:World} {v:Value} {wr x:World} (h:SgnI L B gr d i w v wr n) (hb:Below wr.heap.size wr x):SgnI L B gr d i w v x n:=
 ⟨owns_fr h.own (Fr.of_below (F:=fun _=>False) hb) (fun _ _=>id),h.rd.below hb,h.fr.trans (Fr.of_below (F:=fun _=>False) hb) (fun _ _ e=>e.elim)⟩
theorem SufI.below {L:List Wd} {B gr d i n:Nat} {w:World} {v:Value} {G:Nat} {pf:Pt} {jf:Nat} {wr x:World} {p:Pt} {b j:Nat} (h:SufI L B gr d i n w v G pf jf wr p b j) (hb:Below wr.heap.size wr x):SufI L B gr d i n w v G pf jf x p b j where
 cell:=h.cell.below hb
 pt:=PtW.fr (G:=fun _=>False) (Fr.of_below hb) (fun _ _=>id) (fun _ h=>h) _ _ h.pt
 eq:=h.eq
 lt:=h.lt
 ge:=h.ge
 own:=owns_fr h.own (Fr.of_below (F:=fun _=>False) hb) (fun _ _=>id)
 ne:=h.ne
 rd:=h.rd.below hb
 fr:=h.fr.trans (Fr.of_below (F:=fun _=>False) hb) (fun _ _ e=>e.elim)
theorem item_walk (L:List Wd) (gr B i d n:Nat) (w:World) (q:Rs Pt) (hW:WsOk L) (hL:L.length<=100000) (hrd:RdW L B gr i d w) (hi:i+n < L.length) (hd:d<=500)
  (hs:∀ k,k < n->(hereW L (i+k) [33] || hereW L (i+k) [38])=true) (hs2:(hereW L (i+n) [33] || hereW L (i+n) [38])=false) (hqb:∀ p j,q=.ok p j->j < L.length/\i+n < j)
  (HX:∀ B x,RdW L B gr (i+n) d x->Calls Tryz.prog 188 #[ptr gr] x fun e w'=>PrP L B gr d q x e w'):
  Calls Tryz.prog 158 #[ptr gr] w fun e w'=>PrP L B gr d (itmR L i n q) w e w':=by
 have HL:=Lib.hid hL;have HD:=Lib.hid hd;have HWs:=Lib.hid hW;have HXs:=Lib.hid HX;have HS:=Lib.hid hs;have HS2:=Lib.hid hs2;have HQ:=Lib.hid hqb;have HI:=Lib.hid hi
 have HBw:=Lib.hid hrd.le
 have HGR:Hid (gr < B):=hrd.lt
 have HI0:=Lib.hid (SgnI.start hrd)
 clear hrd hi hd hL hW HX hs hs2 hqb
 refine (callsIn_wide (n:=3)).1 ?_
 refine callsIn_of_wp_marks Tryz.func158 rfl trivial ?_ rfl
 simp only [Tryz.ntmps158,List.size_toArray,List.length_cons,List.length_nil,Nat.reduceAdd,Nat.reduceSub,Array.replicate_succ,Array.replicate_zero,List.push_toArray,List.append_toArray,List.nil_append,List.cons_append]
 refine wpIn_wide.2 ?_
 unfold ptr at *
 go_wp2_with fail
 go_loopw [3] (fun v wr=>∃ k,k<=n/\Hid (SgnI L B gr d i w v wr k)) (fun _ wr=>i+n - posOf wr gr)
 case atStart=>exact ⟨0,Nat.zero_le _,HI0.out⟩
 case round=>
  obtain ⟨k,hk,HR⟩:=hrel
  have hik:i+k < L.length:=by have:=HI.out;omega
  have hhl:=here_lit L B gr (i+k) d wr HR.out.rd hik [[33],[38]] 2 #[.string ⟨#[33]⟩,.string ⟨#[38]⟩] rfl rfl (by decide)
  simp only [List.any_cons,List.any_nil,Bool.or_false] at hhl
  have HH:=Lib.hid hhl
  clear hhl
  by_cases hkn:k < n
  ·rw [HS.out k hkn] at HH
   have HT:=Lib.hid (fun x (hx:Below wr.heap.size wr x)=>take_any L B gr (i+k) d x (HR.out.rd.below hx) hik HL.out)
   have HN:Hid (k<=1000000):=by have:=HL.out;unfold Hid;omega
   have HK:=Lib.hid hkn
   have HIK:=Lib.hid hik
   clear hik hkn hk
   unfold ptr at HT
   go_wp2_with fail
   refine HH.out.mono ?_
   rintro e x1 ⟨rfl,hb1⟩
   have HT1:=Lib.hid (HT.out x1 hb1);have HB1:=Lib.hid hb1
   clear HH HT hb1
   go_wp2_with fail
   refine HT1.out.mono ?_
   rintro e x2 ⟨rfl,hr2,hf2⟩
   have HF2:=Lib.hid ((Fr.of_below (F:=fun k=>k=gr) HB1.out).trans hf2 (fun _ _ h=>h))
   have HR2:=Lib.hid hr2
   have HO2:=Lib.hid (owns_fr HR.out.own HF2.out (fun q hq e=>by have:=(HR.out.own.lt q hq).1;have:=HGR.out;have:=HBw.out;omega))
   have HS3:Hid (w.heap.size<=x2.heap.size):=Nat.le_trans HR.out.fr.size HF2.out.size
   clear HT1 hr2 hf2 HB1
   unfold wdD wdA
   go_wp2_with (refine app_word2 rfl (.tmp 13) (.tmp 18) rfl w.heap.size u3 k _ rfl HO2.out _ (wdAt L (i+k)) rfl rfl HN.out HS3.out ?_;intro v' w' ho hg hb;have HM:=Lib.hid (SgnI.more HR.out HBw.out HF2.out HR2.out ho hg);clear ho hg hb)
   go_roundw
   case rel=>exact ⟨k+1,by have:=HK.out;omega,HM.out⟩
   case measure=>
    have h1:=HM.out.rd.pos;have h2:=HR.out.rd.pos;have h3:=HK.out
    rw [h1,h2];omega
  ·obtain rfl:k=n:=by omega
   rw [HS2.out] at HH
   clear hik hkn hk
   go_wp2_with fail
   refine HH.out.mono ?_
   rintro e x1 ⟨rfl,hb1⟩
   have HR1:=Lib.hid (HR.out.below hb1)
   have HX1:=Lib.hid (HXs.out x1.heap.size x1 (HR1.out.rd.base (by have:=HR1.out.fr.size;have:=HGR.out;have:=HBw.out;omega) (Nat.le_refl _)))
   clear HH hb1 HXs HR
   cases q with
   | err c a=>
    go_wp2_with fail
    refine HX1.out.mono ?_
    rintro e x2 ⟨rfl,hf⟩
    have HF:=Lib.hid (HR1.out.fr.trans hf (fun _ _ h=>h))
    clear hf HX1 HR1
    unfold badE
    go_wp2_with fail
    exact ⟨rfl,HF.out⟩
   | ok p j=>
    go_wp2_with fail
    refine HX1.out.mono ?_
    rintro e x2 ⟨b,rfl,hp,hr,hf⟩
    have HJ:=Lib.hid (HQ.out p j rfl)
    have HI2:=Lib.hid (SufI.start HR1.out HBw.out hp (hr.base (Nat.lt_of_lt_of_le HGR.out (Nat.le_refl _)) (by have:=HR1.out.fr.size;have:=hf.size;have:=HBw.out;omega)) hf HJ.out.1 (Nat.lt_of_lt_of_le HGR.out HBw.out))
    clear hp hr hf HX1
    have HE:Hid (itmR L i k (Rs.ok p j)=Rs.ok (wrapB L i k (sufF L L.length p j).1) (sufF L L.length p j).2):=rfl
    revert HE HI2
    generalize (sufF L L.length p j).1=pf
    generalize (sufF L L.length p j).2=jf
    intro HI2 HE
    unfold ptr
    go_wp2_with fail
    unfold ptr at HI2
    revert HI2
    generalize x2.alloc (.cells #[.pointer (some ⟨b,0,none⟩)] 139)=x3
    generalize x2.heap.size=G
    intro HI2
    clear HJ HQ HR1
    have HS2':Hid (∀ q,q < k->(hereW L (i+q) [33] || hereW L (i+q) [38])=true):=HS.out
    clear HS HS2
    go_loopw [] (fun wr=>∃ (p':Pt) (b' j':Nat),Hid (SufI L B gr d i k w u3 G pf jf wr p' b' j')) (fun wr=>L.length - posOf wr gr)
    case atStart=>exact ⟨_,_,_,HI2.out⟩
    case round=>
     obtain ⟨p',b',j',HR⟩:=hrel
     have hhl:=here_lit L B gr j' d wr HR.out.rd HR.out.lt [[42],[43],[63]] 3 #[.string ⟨#[42]⟩,.string ⟨#[43]⟩,.string ⟨#[63]⟩] rfl rfl (by decide)
     simp only [List.any_cons,List.any_nil,Bool.or_false] at hhl
     have HH:=Lib.hid hhl
     clear hhl
     cases hany:(hereW L j' [42] || (hereW L j' [43] || hereW L j' [63])) with
     | true=>
      rw [hany] at HH
      obtain ⟨K,hK⟩:∃ K:Nat,(hereW L j' [42]=true/\K=8)∨(hereW L j' [43]=true/\K=9)∨(hereW L j' [63]=true/\K=10):=by
       simp only [Bool.or_eq_true] at hany
       rcases hany with h | h | h
       ·exact ⟨8,.inl ⟨h,rfl⟩⟩
       ·exact ⟨9,.inr (.inl ⟨h,rfl⟩)⟩
       ·exact ⟨10,.inr (.inr ⟨h,rfl⟩)⟩
      have HK:=Lib.hid hK
      have HT:=Lib.hid (fun x (hx:Below wr.heap.size wr x)=>take_any L B gr j' d x (HR.out.rd.below hx) HR.out.lt HL.out)
      clear hK hany
      unfold ptr at HT
      go_wp2_with fail
      refine HH.out.mono ?_
      rintro e x4 ⟨rfl,hb4⟩
      have HT1:=Lib.hid (HT.out x4 hb4);have HB4:=Lib.hid hb4
      clear HH HT hb4
      go_wp2_with fail
      refine HT1.out.mono ?_
      rintro e x5 ⟨rfl,hr5,hf5⟩
      have HF5:=Lib.hid ((Fr.of_below (F:=fun k=>k=gr) HB4.out).trans hf5 (fun _ _ h=>h))
      have HR5:=Lib.hid hr5
      clear HT1 hr5 hf5 HB4
      have hjL:=HR.out.lt
      obtain ⟨wd,hwd⟩:∃ wd,wdAt L j'=wd:=⟨_,rfl⟩
      have HWD:=Lib.hid hwd
      rw [hwd]
      clear hwd hjL
      unfold wdD wdA
      go_upto_region 7 with (fail)
      have hb6:=(Below.refl _ x5).alloc (Nat.le_refl _) (.cells #[.int .i64 wd.kind,.int .i64 wd.at_,.int .i64 wd.nx,.string (tx wd.tx),.int .i64 wd.lv,.int .u64 (clsW wd.cl 0),.int .u64 (clsW wd.cl 1),.int .u64 (clsW wd.cl 2),.int .u64 (clsW wd.cl 3)] 82)
      have HW6:=Lib.hid (hrow.new x5 #[.int .i64 wd.kind,.int .i64 wd.at_,.int .i64 wd.nx,.string (tx wd.tx),.int .i64 wd.lv,.int .u64 (clsW wd.cl 0),.int .u64 (clsW wd.cl 1),.int .u64 (clsW wd.cl 2),.int .u64 (clsW wd.cl 3)] 82)
      have HF6:=Lib.hid (HF5.out.trans (Fr.of_below (F:=fun k=>k=gr) hb6) (fun _ _ h=>h))
      have HR6:=Lib.hid (HR5.out.below hb6)
      clear hb6 HF5 HR5
      revert HW6 HF6 HR6
      generalize x5.alloc (.cells #[.int .i64 wd.kind,.int .i64 wd.at_,.int .i64 wd.nx,.string (tx wd.tx),.int .i64 wd.lv,.int .u64 (clsW wd.cl 0),.int .u64 (clsW wd.cl 1),.int .u64 (clsW wd.cl 2),.int .u64 (clsW wd.cl 3)] 82)=x6
      generalize x5.heap.size=g5
      intro HW6 HF6 HR6
      have HG6:=Lib.hid (HR.out.cell.fr HF6.out (fun e=>by have h1:=HR.out.ge;have h2:=HGR.out;have h3:=HBw.out;have:G=gr:=e;omega))
      have HP6:=Lib.hid (PtW.fr (H:=fun k=>B<=k/\k ≠ G) HF6.out (fun k hk e=>by have h1:=hk.1;have h2:=HGR.out;have:k=gr:=e;omega) (fun _ h=>h) _ _ HR.out.pt)
      obtain ⟨y,hy⟩:∃ y,x6.drew=y:=⟨_,rfl⟩
      have hb7:Below x6.heap.size x6 y:=by rw [← hy];exact (Below.refl _ _).drew
      have HW7:=Lib.hid (HW6.out.below hb7)
      have HG7:=Lib.hid (HG6.out.below hb7)
      have HR7:=Lib.hid (HR6.out.below hb7)
      have HF7:=Lib.hid (HF6.out.trans (Fr.of_below (F:=fun k=>k=gr) hb7) (fun _ _ h=>h))
      have HP7:=Lib.hid (PtW.fr (G:=fun _=>False) (H:=fun k=>B<=k/\k ≠ G) (Fr.of_below hb7) (fun _ _=>id) (fun _ h=>h) _ _ HP6.out)
      have HY:=Lib.hid hy
      clear hb7 HW6 HG6 HR6 HF6 HP6 hy
      have HZ:Hid (∀ l0:Bool,Below y.heap.size y (bif l0 then y.alloc (.map bhE 3) else y)):=by
       intro l0
       cases l0 with
       | true=>exact (Below.refl _ _).alloc (Nat.le_refl _) _
       | false=>exact Below.refl _ _
      have HLK:Hid ((Instr.lookup 265 (.map (some y.heap.size)) (.string (tx wd.tx)) false).run Tryz.prog (y.alloc (.map bhE 3))=.ok (.int .i64 K) (y.alloc (.map bhE 3))):=by
       refine look_bh (heap_alloc_new _ _) _ K ?_
       rw [← HWD.out]
       rcases HK.out with ⟨h,e⟩ | ⟨h,e⟩ | ⟨h,e⟩
       ·exact .inl ⟨by rw [(here_kind h).2];rfl,e⟩
       ·exact .inr (.inl ⟨by rw [(here_kind h).2];rfl,e⟩)
       ·exact .inr (.inr ⟨by rw [(here_kind h).2];rfl,e⟩)
      refine (wpIn_wide (n:=3)).1 ?_
      refine wpIn_over_region rfl rfl 31 (.map (some y.heap.size)) (.pointer (some ⟨g5,3,none⟩)) (.string (tx wd.tx)) (.int .i64 K) (.pointer (some ⟨g5,1,none⟩)) (.int .i64 wd.at_) (.pointer (some ⟨b',0,none⟩)) (y.alloc (.map bhE 3)) (by decide +kernel) (by decide +kernel) (by decide +kernel) ?h0 ?h1 ?h2 ?h3 ?h4 ?h5 ?h6 ?ht
      case h0=>
       rw [HY.out]
       intro l1 l2 l4 l5 l6
       refine ⟨_,rfl,fun K hK=>?_⟩
       simp only [tmO,cond_true,cond_false,List.setIfInBounds_toArray,List.set_cons_succ,List.set_cons_zero,Nat.reduceAdd,Array.getD_eq_getD_getElem?,List.getElem?_toArray,List.getElem?_cons_succ,List.getElem?_cons_zero,Option.getD_some] at hK ⊢
       gi_wp2
       refine ⟨trivial,(callsIn_wide.2 (behind_any y)).mono ?_⟩
       rintro e w' ⟨rfl,rfl⟩
       gi_wp2
       exact hK
      case h1=>
       rw [HY.out]
       intro l0 l4 l5 l6
       generalize (bif l0 then y.alloc (.map bhE 3) else y)=z
       refine ⟨_,rfl,fun K hK=>?_⟩
       simp only [tmO,cond_true,cond_false,List.setIfInBounds_toArray,List.set_cons_succ,List.set_cons_zero,Nat.reduceAdd,Array.getD_eq_getD_getElem?,List.getElem?_toArray,List.getElem?_cons_succ,List.getElem?_cons_zero,Option.getD_some] at hK ⊢
       gi_wp2
       exact hK
      case h2=>
       rw [HY.out]
       intro l0 l4 l5 l6
       have hz:=HZ.out l0
       generalize (bif l0 then y.alloc (.map bhE 3) else y)=z at *
       have c3:=(HW7.out.below hz).cell 3
       refine ⟨_,rfl,fun K hK=>?_⟩
       simp only [tmO,cond_true,cond_false,List.setIfInBounds_toArray,List.set_cons_succ,List.set_cons_zero,Nat.reduceAdd,Array.getD_eq_getD_getElem?,List.getElem?_toArray,List.getElem?_cons_succ,List.getElem?_cons_zero,Option.getD_some] at hK ⊢
       clear hz
       gi_wp2
       exact hK
      case h3=>
       intro l4 l5 l6
       have hlk:=HLK.out
       refine ⟨_,rfl,fun K hK=>?_⟩
       simp only [tmO,cond_true,cond_false,List.setIfInBounds_toArray,List.set_cons_succ,List.set_cons_zero,Nat.reduceAdd,Array.getD_eq_getD_getElem?,List.getElem?_toArray,List.getElem?_cons_succ,List.getElem?_cons_zero,Option.getD_some] at hK ⊢
       gi_wp2
       exact hK
      case h4=>
       rw [HY.out]
       intro l0 l1 l2 l3 l6
       generalize (bif l0 then y.alloc (.map bhE 3) else y)=z
       refine ⟨_,rfl,fun K hK=>?_⟩
       simp only [tmO,cond_true,cond_false,List.setIfInBounds_toArray,List.set_cons_succ,List.set_cons_zero,Nat.reduceAdd,Array.getD_eq_getD_getElem?,List.getElem?_toArray,List.getElem?_cons_succ,List.getElem?_cons_zero,Option.getD_some] at hK ⊢
       gi_wp2
       exact hK
      case h5=>
       rw [HY.out]
       intro l0 l1 l2 l3 l6
       have hz:=HZ.out l0
       generalize (bif l0 then y.alloc (.map bhE 3) else y)=z at *
       have c1:=(HW7.out.below hz).cell 1
       refine ⟨_,rfl,fun K hK=>?_⟩
       simp only [tmO,cond_true,cond_false,List.setIfInBounds_toArray,List.set_cons_succ,List.set_cons_zero,Nat.reduceAdd,Array.getD_eq_getD_getElem?,List.getElem?_toArray,List.getElem?_cons_succ,List.getElem?_cons_zero,Option.getD_some] at hK ⊢
       clear hz
       gi_wp2
       exact hK
      case h6=>
       rw [HY.out]
       intro l0 l1 l2 l3 l4 l5
       have hz:=HZ.out l0
       generalize (bif l0 then y.alloc (.map bhE 3) else y)=z at *
       have cG:=(HG7.out.below hz).cell 0
       unfold ptr at cG
       refine ⟨_,rfl,fun K hK=>?_⟩
       simp only [tmO,cond_true,cond_false,List.setIfInBounds_toArray,List.set_cons_succ,List.set_cons_zero,Nat.reduceAdd,Array.getD_eq_getD_getElem?,List.getElem?_toArray,List.getElem?_cons_succ,List.getElem?_cons_zero,Option.getD_some] at hK ⊢
       clear hz
       gi_wp2
       exact hK
      case ht=>
       have hz:=HZ.out true
       simp only [cond_true] at hz
       have HR8:=Lib.hid (HR7.out.below hz)
       have HF8:=Lib.hid (HF7.out.trans (Fr.of_below (F:=fun k=>k=gr) hz) (fun _ _ h=>h))
       have HV:=Lib.hid (over_anyF (fun k=>B<=k/\k ≠ G) K wd.at_ b' p' (y.alloc (.map bhE 3)) (PtW.fr (G:=fun _=>False) (Fr.of_below hz) (fun _ _=>id) (fun _ h=>h) _ _ HP7.out) (fun k hk=>⟨by have:=HR8.out.le;omega,by have:=(HG7.out.below hz).lt;omega⟩))
       have HG8:=Lib.hid (HG7.out.below hz)
       clear hz HW7 HG7 HR7 HF7 HP7 HY HZ HLK
       revert HR8 HF8 HV HG8
       generalize hwz:y.alloc (.map bhE 3)=z
       intro HR8 HF8 HV HG8
       clear hwz
       unfold ptr at HV
       refine ⟨_,_,rfl,rfl,?_⟩
       simp only [tmO,cond_true,List.setIfInBounds_toArray,List.set_cons_succ,List.set_cons_zero,Nat.reduceAdd,Array.getD_eq_getD_getElem?,List.getElem?_toArray,List.getElem?_cons_succ,List.getElem?_cons_zero,Option.getD_some]
       gi_wp2
       refine ⟨trivial,(callsIn_wide.2 HV.out).mono ?_⟩
       rintro e x8 ⟨b8,rfl,hp8,hb8⟩
       have HR9:=Lib.hid (HR8.out.below hb8)
       have HF9:=Lib.hid (HF8.out.trans (Fr.of_below (F:=fun k=>k=gr) hb8) (fun _ _ h=>h))
       have HP9:=Lib.hid hp8
       have hg9:=HG8.out.below hb8
       have c9:=hg9.cell 0
       have f9:=hg9.frozen 0
       clear hp8 hb8 HV HR8 HF8 HG8 hg9
       unfold ptr at c9
       have HM:Hid (SufI L B gr d i k w u3 G pf jf (x8.setCell ⟨G,0,none⟩ (ptr b8)) (ovr K (wdAt L j').at_ p') b8 (j'+1)):=SufI.more HR.out HWs.out HBw.out (Nat.lt_of_lt_of_le HGR.out HBw.out) HK.out HF9.out HR9.out (by rw [HWD.out];exact HP9.out)
       unfold ptr at HM
       gi_wp2
       exact ⟨⟨_,_,_,HM.out⟩,by have h1:=HM.out.rd.pos;have h2:=HR.out.rd.pos;have h3:=HM.out.lt;have h4:=HR.out.lt;rw [h1,h2];omega⟩
     | false=>
      rw [hany] at HH
      simp only [Bool.or_eq_false_iff] at hany
      obtain ⟨rfl,rfl⟩:=HR.out.done hany.1 hany.2.1 hany.2.2
      obtain ⟨ao,cap,rfl,-⟩:=Sv.of_owns HR.out.own
      clear hany
      go_wp2_with fail
      refine HH.out.mono ?_
      rintro e x4 ⟨rfl,hb4⟩
      have HR4:=Lib.hid (HR.out.below hb4)
      clear HH hb4 HI2
      go_wp2_with fail
      refine (back_any _ _ _ _).mono ?_
      rintro e xb ⟨rfl,hxb⟩
      have hbb:Below x4.heap.size x4 xb:=by rw [hxb];exact (Below.refl _ _).alloc (Nat.le_refl _) _
      have HRb:=Lib.hid (HR4.out.below hbb)
      have HBX:=Lib.hid (show hrow xb x4.heap.size #[.slice ao k cap] 69 by rw [hxb];exact hrow.new _ _ _)
      have HGX:Hid (G < x4.heap.size):=HR4.out.cell.lt
      clear hbb hxb HR4
      generalize x4.heap.size=gb at *
      have hown:=HRb.out.own
      obtain ⟨ao',cap',e0,hsv⟩:=Sv.of_owns hown
      cases e0
      have HSV:=Lib.hid hsv
      have HAO:Hid (∀ a,ao=some a->a.block ≠ G):=fun a ha e=>HRb.out.ne (by subst ha;exact congrArg some e)
      have hlen:=sgnL_len L i k
      have HLN:=Lib.hid hlen
      have HSQ:=Lib.hid (back1_stops (sgnL L i k) ao cap gb G 2 xb (by rw [hlen];exact HBX.out.cell 0) (by rw [hlen];exact HSV.out) (Nat.ne_of_gt HGX.out) HAO.out (by have:=HI.out;have:=HL.out;omega))
      have HB0:Hid (BkI L B gr d j' G w p' [] xb):=⟨⟨b',HRb.out.cell,HRb.out.pt⟩,HRb.out.rd,HRb.out.fr⟩
      have HGE:=Lib.hid HRb.out.ge
      have HGL:Hid (G < xb.heap.size):=HRb.out.cell.lt
      have HWB:Hid (w.heap.size<=xb.heap.size):=HRb.out.fr.size
      clear hown hsv hlen HSV HAO HRb HR HBX HGX
      go_wp2_with fail
      refine (wpIn_wide (n:=3)).1 ?_
      refine wpIn_back rfl HSQ.out HBw.out HWB.out HB0.out ?assign ?body ?done
      case assign=>
       intro l pre x W K hI hK hW
       have HK:=Lib.hid hK;have HI':=Lib.hid hI
       clear hK hI
       simp only [List.setIfInBounds_toArray,List.set_cons_succ,List.set_cons_zero] at HK ⊢
       unfold wdD wdA at *
       gi_wp2
       have hb:=(Below.refl _ W).alloc (Nat.le_refl _) (.cells #[.int .i64 x.2.kind,.int .i64 x.2.at_,.int .i64 x.2.nx,.string (tx x.2.tx),.int .i64 x.2.lv,.int .u64 (clsW x.2.cl 0),.int .u64 (clsW x.2.cl 1),.int .u64 (clsW x.2.cl 2),.int .u64 (clsW x.2.cl 3)] 82)
       exact HK.out W.heap.size _ ((KeepsOthers.alloc _ _).from _) (kpC_fr (Fr.of_below (F:=fun _=>False) hb) (fun _ e=>e.elim)) (HI'.out.below hb) hW (hrow.new _ _ _)
      case body=>
       intro l pre x Bx W hI hBx hW
       have HI':=Lib.hid hI
       obtain ⟨⟨b',hg,hp⟩,hr,hf⟩:=hI
       unfold wdD wdA at hW ⊢
       obtain ⟨y,hy⟩:∃ y,W.drew=y:=⟨_,rfl⟩
       have hb7:Below W.heap.size W y:=by rw [← hy];exact (Below.refl _ _).drew
       have HW7:=Lib.hid (hW.below hb7)
       have HG7:=Lib.hid (hg.below hb7)
       have HP7:=Lib.hid (PtW.fr (G:=fun _=>False) (H:=fun k=>B<=k/\k ≠ G) (Fr.of_below hb7) (fun _ _=>id) (fun _ h=>h) _ _ hp)
       have HB7:=Lib.hid hb7
       have HLE:=Lib.hid (hr.below hb7).le
       have HY:=Lib.hid hy
       have HXW:=Lib.hid (Nat.le_trans hBx (Nat.le_of_lt hW.lt))
       clear hb7 hW hg hp hr hf hy hBx
       have HZ:Hid (∀ l0:Bool,Below y.heap.size y (bif l0 then y.alloc (.map ahE 2) else y)):=by
        intro l0
        cases l0 with
        | true=>exact (Below.refl _ _).alloc (Nat.le_refl _) _
        | false=>exact Below.refl _ _
       have HLK:Hid ((Instr.lookup 265 (.map (some y.heap.size)) (.string (tx x.2.tx)) false).run Tryz.prog (y.alloc (.map ahE 2))=.ok (.int .i64 (ahT x.2.tx)) (y.alloc (.map ahE 2))):=look_ah2 (heap_alloc_new _ _) _
       simp only [List.setIfInBounds_toArray,List.set_cons_succ,List.set_cons_zero]
       refine wpIn_block ?_
       refine wpIn_over_region rfl rfl 43 (.map (some y.heap.size)) (.pointer (some ⟨Bx,3,none⟩)) (.string (tx x.2.tx)) (.int .i64 (ahT x.2.tx)) (.pointer (some ⟨Bx,1,none⟩)) (.int .i64 x.2.at_) (.pointer (some ⟨b',0,none⟩)) (y.alloc (.map ahE 2)) (by decide +kernel) (by decide +kernel) (by decide +kernel) ?h0 ?h1 ?h2 ?h3 ?h4 ?h5 ?h6 ?ht
       case h0=>
        rw [HY.out]
        intro l1 l2 l4 l5 l6
        refine ⟨_,rfl,fun K hK=>?_⟩
        simp only [tmO,cond_true,cond_false,List.setIfInBounds_toArray,List.set_cons_succ,List.set_cons_zero,Nat.reduceAdd,Array.getD_eq_getD_getElem?,List.getElem?_toArray,List.getElem?_cons_succ,List.getElem?_cons_zero,Option.getD_some] at hK ⊢
        gi_wp2
        refine ⟨trivial,(callsIn_round (ahead_any y)).mono ?_⟩
        rintro e w' ⟨rfl,rfl⟩
        gi_wp2
        exact hK
       case h1=>
        rw [HY.out]
        intro l0 l4 l5 l6
        generalize (bif l0 then y.alloc (.map ahE 2) else y)=z
        refine ⟨_,rfl,fun K hK=>?_⟩
        simp only [tmO,cond_true,cond_false,List.setIfInBounds_toArray,List.set_cons_succ,List.set_cons_zero,Nat.reduceAdd,Array.getD_eq_getD_getElem?,List.getElem?_toArray,List.getElem?_cons_succ,List.getElem?_cons_zero,Option.getD_some] at hK ⊢
        gi_wp2
        exact hK
       case h2=>
        rw [HY.out]
        intro l0 l4 l5 l6
        have hz:=HZ.out l0
        generalize (bif l0 then y.alloc (.map ahE 2) else y)=z at *
        have c3:=(HW7.out.below hz).cell 3
        refine ⟨_,rfl,fun K hK=>?_⟩
        simp only [tmO,cond_true,cond_false,List.setIfInBounds_toArray,List.set_cons_succ,List.set_cons_zero,Nat.reduceAdd,Array.getD_eq_getD_getElem?,List.getElem?_toArray,List.getElem?_cons_succ,List.getElem?_cons_zero,Option.getD_some] at hK ⊢
        clear hz
        gi_wp2
        exact hK
       case h3=>
        intro l4 l5 l6
        have hlk:=HLK.out
        refine ⟨_,rfl,fun K hK=>?_⟩
        simp only [tmO,cond_true,cond_false,List.setIfInBounds_toArray,List.set_cons_succ,List.set_cons_zero,Nat.reduceAdd,Array.getD_eq_getD_getElem?,List.getElem?_toArray,List.getElem?_cons_succ,List.getElem?_cons_zero,Option.getD_some] at hK ⊢
        gi_wp2
        exact hK
       case h4=>
        rw [HY.out]
        intro l0 l1 l2 l3 l6
        generalize (bif l0 then y.alloc (.map ahE 2) else y)=z
        refine ⟨_,rfl,fun K hK=>?_⟩
        simp only [tmO,cond_true,cond_false,List.setIfInBounds_toArray,List.set_cons_succ,List.set_cons_zero,Nat.reduceAdd,Array.getD_eq_getD_getElem?,List.getElem?_toArray,List.getElem?_cons_succ,List.getElem?_cons_zero,Option.getD_some] at hK ⊢
        gi_wp2
        exact hK
       case h5=>
        rw [HY.out]
        intro l0 l1 l2 l3 l6
        have hz:=HZ.out l0
        generalize (bif l0 then y.alloc (.map ahE 2) else y)=z at *
        have c1:=(HW7.out.below hz).cell 1
        refine ⟨_,rfl,fun K hK=>?_⟩
        simp only [tmO,cond_true,cond_false,List.setIfInBounds_toArray,List.set_cons_succ,List.set_cons_zero,Nat.reduceAdd,Array.getD_eq_getD_getElem?,List.getElem?_toArray,List.getElem?_cons_succ,List.getElem?_cons_zero,Option.getD_some] at hK ⊢
        clear hz
        gi_wp2
        exact hK
       case h6=>
        rw [HY.out]
        intro l0 l1 l2 l3 l4 l5
        have hz:=HZ.out l0
        generalize (bif l0 then y.alloc (.map ahE 2) else y)=z at *
        have cG:=(HG7.out.below hz).cell 0
        unfold ptr at cG
        refine ⟨_,rfl,fun K hK=>?_⟩
        simp only [tmO,cond_true,cond_false,List.setIfInBounds_toArray,List.set_cons_succ,List.set_cons_zero,Nat.reduceAdd,Array.getD_eq_getD_getElem?,List.getElem?_toArray,List.getElem?_cons_succ,List.getElem?_cons_zero,Option.getD_some] at hK ⊢
        clear hz
        gi_wp2
        exact hK
       case ht=>
        have hz:=HZ.out true
        simp only [cond_true] at hz
        have HB8:=Lib.hid (HB7.out.trans (hz.mono HB7.out.size))
        have HG8:=Lib.hid (HG7.out.below hz)
        have HV:=Lib.hid (over_anyF (fun k=>B<=k/\k ≠ G) (ahT x.2.tx) x.2.at_ b' (wrapF p' pre) (y.alloc (.map ahE 2)) (PtW.fr (G:=fun _=>False) (Fr.of_below hz) (fun _ _=>id) (fun _ h=>h) _ _ HP7.out) (fun k hk=>⟨by have:=HLE.out;have:=hz.size;omega,by have:=HG8.out.lt;omega⟩))
        clear hz HW7 HG7 HB7 HP7 HY HZ HLK HLE
        revert HB8 HG8 HV
        generalize y.alloc (.map ahE 2)=z
        intro HB8 HG8 HV
        unfold ptr at HV
        refine ⟨_,_,rfl,rfl,?_⟩
        simp only [tmO,cond_true,List.setIfInBounds_toArray,List.set_cons_succ,List.set_cons_zero,Nat.reduceAdd,Array.getD_eq_getD_getElem?,List.getElem?_toArray,List.getElem?_cons_succ,List.getElem?_cons_zero,Option.getD_some]
        gi_wp2
        refine ⟨trivial,(callsIn_round HV.out).mono ?_⟩
        rintro e x8 ⟨b8,rfl,hp8,hb8⟩
        have HB9:=Lib.hid (HB8.out.trans (hb8.mono HB8.out.size))
        have HP9:=Lib.hid hp8
        have hg9:=HG8.out.below hb8
        have c9:=hg9.cell 0
        have f9:=hg9.frozen 0
        clear hp8 hb8 HV HB8 HG8 hg9
        unfold ptr at c9
        have HM:=Lib.hid (BkI.more (x:=x) HI'.out HBw.out HGE.out HGL.out HB9.out HP9.out)
        unfold ptr at HM
        gi_wp2
        exact ⟨HM.out.1,HM.out.2.1,HM.out.2.2,Nat.le_trans HXW.out HM.out.1.size⟩
      case done=>
       intro D W hD hI hK
       have HI':=Lib.hid hI
       obtain ⟨⟨b9,hg,hp⟩,hr,hf⟩:=hI
       have c0:=hg.cell 0
       unfold ptr at c0
       have HP:=Lib.hid hp;have HR:=Lib.hid hr;have HF:=Lib.hid hf;have HK:=Lib.hid hK
       clear hg hp hr hf hK
       go_wp2_with fail
       refine ⟨by simp,.inl ⟨_,_,rfl,run_takeDeferred HK.out,?_⟩⟩
       refine ⟨_,results_tmp rfl _ _ _,?_⟩
       rw [HE.out]
       have hg:=Fr.grown (grownBy_putObj' W D (.deferred none))
       have hnc:∀ k,Cl W k->¬ some D=some k:=fun k ⟨cs,t,fr,hc⟩ e=>by cases e;rw [HK.out] at hc;cases hc
       have hDw:w.heap.size<=D:=Nat.le_trans HWB.out hD
       refine ⟨b9,rfl,?_,HR.out.fr hg (fun k e=>?_),HF.out.trans hg (fun k hk e=>?_)⟩
       ·rw [← wrapF_all (sgnL L i k) rfl HS2'.out]
        exact PtW.fr hg (fun k hk e=>hnc k hk.2 e) (fun k hk=>hk.1.1) _ _ (PtW.cl _ _ HP.out)
       ·have:=HBw.out;cases e;omega
       ·cases e;omega
end Go.Proofs.YtgjhepblpdnkcaaGreatDoor
namespace Go.Proofs.YtgjhepblpdnkcaaGreatDoor
open Go.RowKit

theorem item_step (L:List Wd) (gr:Nat) (hW:WsOk L) (hL:L.length<=100000) (f:Nat) (HP:∀ f',f'<=f->PrC L gr 188 .prim f'):PrC L gr 158 .item (f+1):=by
 intro B i d w r e hrd hi hd
 obtain ⟨n,f',q,h1,h2,h3,h4,h5,rfl⟩:=item_sgn hW (f+1) i [] r hi e
 exact item_walk L gr B i d n w q hW hL hrd h2 hd h3 h4 (fun p j er=>by obtain ⟨a,b,c⟩:=prs_bd hW f' .prim [] (i+n) d p j h2 (by rw [h5,er]);exact ⟨a,c⟩) (fun B' x hx=>HP f' (by omega) B' (i+n) d x q h5 hx h2 hd)
theorem alt_all (L:List Wd) (gr:Nat) (hW:WsOk L) (hL:L.length<=100000) (f:Nat):PrC L gr 78 .alt f:=
 (prC_all L gr hW hL (fun f=>item_step L gr hW hL f) f f (Nat.le_refl f)).1
end Go.Proofs.YtgjhepblpdnkcaaGreatDoor
namespace Go.Proofs.YtgjhepblpdnkcaaGreatDoor
open Go.RowKit

theorem kidsAt_app:∀ (n:Nat) (a b:List Pt),kidsAt n (a ++ b)=kidsAt n a ++ kidsAt (n+szL a) b
 | n,[],b=>by simp [kidsAt,szL]
 | n,p :: a,b=>by
  show kidsAt n (p :: (a ++ b))=_
  simp only [kidsAt,szL,List.cons_append]
  rw [kidsAt_app (n+p.sz) a b,Nat.add_assoc]
theorem flatL_app:∀ (n:Nat) (a b:List Pt),flatL n (a ++ b)=flatL n a ++ flatL (n+szL a) b
 | n,[],b=>by simp [flatL,szL]
 | n,p :: a,b=>by
  show flatL n (p :: (a ++ b))=_
  simp only [flatL,szL]
  rw [flatL_app (n+p.sz) a b,Nat.add_assoc,List.append_assoc]
theorem kidsAt_next {ks:List Pt} {n i:Nat} (h:i < ks.length):kidsAt n (ks.take (i+1))=kidsAt n (ks.take i) ++ [n+szL (ks.take i)]:=by
 rw [← List.take_append_getElem h,kidsAt_app];rfl
theorem flatL_next {ks:List Pt} {n i:Nat} (h:i < ks.length):flatL n (ks.take (i+1))=flatL n (ks.take i) ++ flat (n+szL (ks.take i)) ks[i]:=by
 rw [← List.take_append_getElem h,flatL_app]
 simp [flatL]
/-- A node, a rule, as they are laid. -/
def Rn.nd (x:Rn):Nd:=⟨x.kind,clsW x.cl 0,clsW x.cl 1,clsW x.cl 2,clsW x.cl 3,Go.Proofs.YtgjhepblpdnkcaaGreatDoor.tx x.tx,0,x.lv,x.kids.map fun (k:Nat)=>(k:Int)⟩
def Rr.ru (r:Rr):Ru:=⟨tx r.nm,r.body⟩
/-- A tree of what was read. -/
structure TrW (w:World) (gt:Nat) (τ:Nat->Nat) (R:List Rr) (N:List Rn):Prop where
 ex:∃ (v1 v2 v3 v4 v5:Value) (NK:List Nk),hrow w gt #[v1,v2,v3,v4,v5] 29/\TrR w τ v1 v2 v3 v4 v5 (R.map Rr.ru) NK NK (R.map fun r=>(r.at_:Int)) (N.map fun x=>(x.at_:Int)) (N.map fun x=>tx x.nm)/\NK.map (·.1)=N.map Rn.nd
 tag:τ gt=1
theorem TrW.below {w w':World} {gt:Nat} {τ:Nat->Nat} {R:List Rr} {N:List Rn} (h:TrW w gt τ R N) (hb:Below w.heap.size w w'):TrW w' gt τ R N:=by
 obtain ⟨⟨v1,v2,v3,v4,v5,NK,h1,h2,h3⟩,h4⟩:=h
 exact ⟨⟨v1,v2,v3,v4,v5,NK,h1.below hb,h2.below hb,h3⟩,h4⟩
/-- What touches none of the tree's blocks keeps it. -/
theorem TrW.fr {F:Nat->Prop} {w w':World} {gt:Nat} {τ:Nat->Nat} {R:List Rr} {N:List Rn} (h:TrW w gt τ R N) (hf:Fr F w w') (hF:∀ k,k < w.heap.size->τ k ≠ 0->¬ F k):TrW w' gt τ R N:=by
 obtain ⟨⟨v1,v2,v3,v4,v5,NK,h1,h2,h3⟩,h4⟩:=h
 exact ⟨⟨v1,v2,v3,v4,v5,NK,h1.fr hf (hF gt h1.lt (by omega)),h2.fr hf (fun k hk e=>hF k hk (by omega)),h3⟩,h4⟩
/-- The five slices of a tree, as a grammar that lies in memory. -/
theorem TrW.gr {w:World} {gt:Nat} {τ:Nat->Nat} {R:List Rr} {N:List Rn} (h:TrW w gt τ R N) (hN:∀ x ∈ N,x.tx.length<=1000000) (hR:∀ r ∈ R,r.nm.length<=1000000):
  ∃ (ro no ao bo co:Option Addr) (rc nc ac bc cc:Nat) (NK:List Nk),hrow w gt #[.slice ro R.length rc,.slice no N.length nc,.slice ao R.length ac,.slice bo N.length bc,.slice co N.length cc] 29/\
   GrW w ro R.length rc no N.length nc NK ⟨R.map Rr.ru,N.map Rn.nd⟩/\Sv w ao R.length ac 1 (inc (R.map fun r=>(r.at_:Int)))/\Sv w bo N.length bc 1 (inc (N.map fun x=>(x.at_:Int)))/\Sv w co N.length cc 1 ((N.map fun x=>tx x.nm).map Value.string):=by
 obtain ⟨⟨v1,v2,v3,v4,v5,NK,h1,h2,h3⟩,h4⟩:=h
 have hl:NK.length=N.length:=by have:=congrArg List.length h3;simpa using this
 obtain ⟨ro,rc,rfl,s1⟩:=h2.t2.sv
 obtain ⟨no,nc,rfl,s2⟩:=h2.t3.sv
 obtain ⟨ao,ac,rfl,s3⟩:=h2.t4.sv
 obtain ⟨bo,bc,rfl,s4⟩:=h2.t5.sv
 obtain ⟨co,cc,rfl,s5⟩:=h2.t6.sv
 simp only [List.length_map,hl] at h1 s1 s2 s3 s4 s5
 refine ⟨ro,no,ao,bo,co,rc,nc,ac,bc,cc,NK,h1,⟨s1,fun r hr=>?_,⟨s2,fun p hp=>?_,fun p hp=>?_⟩,h3⟩,s3,s4,s5⟩
 ·obtain ⟨r',hr',rfl⟩:=List.mem_map.1 hr
  have:=hR r' hr'
  show (tx r'.nm).size<=_
  rw [tx_size];omega
 ·obtain ⟨i,hi,rfl⟩:=List.mem_iff_getElem.1 hp
  obtain ⟨a,c,e,s⟩:=(h2.kid i hi).sv
  cases e
  exact s
 ·have hm:p.1 ∈ N.map Rn.nd:=h3 ▸ List.mem_map_of_mem hp
  obtain ⟨x,hx,e⟩:=List.mem_map.1 hm
  have:=hN x hx
  rw [← e]
  show (tx x.tx).size<=_
  rw [tx_size];omega
end Go.Proofs.YtgjhepblpdnkcaaGreatDoor
namespace Go.Proofs.YtgjhepblpdnkcaaGreatDoor
open Go.RowKit
set_option maxRecDepth 100000
set_option maxHeartbeats 4000000

theorem elNode:Elem Tryz.prog 23 45 9 96 (.agg #[.int .i64 0,.int .u64 0,.int .u64 0,.int .u64 0,.int .u64 0,.string ⟨#[]⟩,.int .i64 0,.int .i64 0,.slice none 0 0]):=⟨by kernel_rfl,by kernel_rfl,rfl,by decide⟩
theorem elRule:Elem Tryz.prog 22 49 2 24 (.agg #[.string ⟨#[]⟩,.int .i64 0]):=⟨by kernel_rfl,by kernel_rfl,rfl,by decide⟩
theorem elIntS:Elem Tryz.prog 26 3 1 8 (.int .i64 0):=⟨by kernel_rfl,by kernel_rfl,rfl,by decide⟩
theorem elStrS:Elem Tryz.prog 27 9 1 16 (.string ⟨#[]⟩):=⟨by kernel_rfl,by kernel_rfl,rfl,by decide⟩
theorem nd_sz9:(Tryz.prog.info? 45).map (·.size)=some 9:=by decide +kernel
/-- The first nine cells of a part are a node. -/
theorem part_node {z:World} {b:Nat} {x0 x1 x2 x3 x4 x5 x6 x7 x8 x9 xa xb:Value} {ty:TypeId} (h:hrow z b #[x0,x1,x2,x3,x4,x5,x6,x7,x8,x9,xa,xb] ty):(loadVar 45 ⟨b,0,none⟩).run Tryz.prog z=.ok (.agg #[x0,x1,x2,x3,x4,x5,x6,x7,x8]) z:=
 run_loadVar_part z ⟨b,0,none⟩ _ _ _ (fun j v hj=>by
  have e:(⟨b,0,none⟩:Addr).add j=⟨b,j,none⟩:=by unfold Addr.add;split <;> simp_all
  rw [e,h.cell j]
  have hj9:j < 9:=by have:=(List.getElem?_eq_some_iff.1 hj).1;simpa using this
  rw [← hj]
  match j,hj9 with
  | 0,_=>rfl
  | 1,_=>rfl
  | 2,_=>rfl
  | 3,_=>rfl
  | 4,_=>rfl
  | 5,_=>rfl
  | 6,_=>rfl
  | 7,_=>rfl
  | 8,_=>rfl
  | j+9,h=>omega) Tryz.underlying45 rfl nd_sz9

theorem PtsW.at {w:World} {F:Nat->Prop}:∀ {ps:List Pt} {bs:List Nat},PtsW w F ps bs->∀ (i:Nat) (h:i < ps.length),∃ b,bs[i]?=some b/\PtW w F ps[i] b
 | [],_,_,i,h=>by simp at h
 | p :: ps,bs,hp,i,h=>by
  unfold PtsW at hp
  obtain ⟨b,r,rfl,h1,h2⟩:=hp
  cases i with
  | zero=>exact ⟨b,rfl,h1⟩
  | succ i=>
   obtain ⟨c,hc,hq⟩:=PtsW.at h2 i (by simpa using h)
   exact ⟨c,by simpa using hc,hq⟩
/-- The tree's object and its rows. -/
structure PuI (w:World) (gt:Nat) (τ:Nat->Nat) (wr:World) (τ':Nat->Nat) (cs:Array Value) (v1 v2 v3 v4 v5:Value) (R:List Ru) (NK NL:List Nk) (RA NA:List Int) (NM:List ByteArray):Prop where
 obj:hrow wr gt cs 29
 tr:TrR wr τ' v1 v2 v3 v4 v5 R NK NL RA NA NM
 tg:τ' gt=1
 fr:Fr (fun k=>τ k ≠ 0) w wr
 old:∀ k,k < w.heap.size->τ' k=τ k
variable {w wr w':World} {gt:Nat} {τ τ':Nat->Nat} {cs:Array Value} {v1 v2 v3 v4 v5 v v':Value} {R:List Ru} {NK NL:List Nk} {RA NA:List Int} {NM:List ByteArray}
theorem PuI.below (h:PuI w gt τ wr τ' cs v1 v2 v3 v4 v5 R NK NL RA NA NM) (hb:Below wr.heap.size wr w'):PuI w gt τ w' τ' cs v1 v2 v3 v4 v5 R NK NL RA NA NM where
 obj:=h.obj.below hb
 tr:=h.tr.below hb
 tg:=h.tg
 fr:=h.fr.trans (Fr.of_below (F:=fun _=>False) hb) (fun _ _ e=>e.elim)
 old:=h.old
/-- A row's step. -/
theorem PuI.step {g:Nat} {w1 w2 w3 w4 w5:Value} {R':List Ru} {NK' NL':List Nk} {RA' NA':List Int} {NM':List ByteArray} (h:PuI w gt τ wr τ' cs v1 v2 v3 v4 v5 R NK NL RA NA NM) (hg:wr.grownBy w' v.ownBlock) (hv:∀ k,v.ownBlock=some k->τ' k=g) (hg2:2<=g)
  (ht:TrR w' (tagN τ' wr.heap.size w'.heap.size g) w1 w2 w3 w4 w5 R' NK' NL' RA' NA' NM'):PuI w gt τ w' (tagN τ' wr.heap.size w'.heap.size g) cs w1 w2 w3 w4 w5 R' NK' NL' RA' NA' NM' where
 obj:=h.obj.fr (Fr.grown hg) (fun e=>by have:=hv _ e;have:=h.tg;omega)
 tr:=ht
 tg:=by rw [tagN_old h.obj.lt];exact h.tg
 fr:=h.fr.trans (Fr.grown hg) (fun k hk e=>by have h1:=hv _ e;have h2:=h.old k hk;omega)
 old:=fun k hk=>by rw [tagN_old (Nat.lt_of_lt_of_le hk h.fr.size)];exact h.old k hk
/-- A cell of the object is stored. -/
theorem PuI.put (h:PuI w gt τ wr τ' cs v1 v2 v3 v4 v5 R NK NL RA NA NM) (hτ:τ gt ≠ 0) (j:Nat) (u:Value):PuI w gt τ (wr.setCell ⟨gt,j,none⟩ u) τ' (cs.setIfInBounds j u) v1 v2 v3 v4 v5 R NK NL RA NA NM where
 obj:=h.obj.setCell j u
 tr:=h.tr.fr (Fr.setCell wr ⟨gt,j,none⟩ u) (fun k _ hk e=>by have e':k=gt:=e;have:=h.tg;subst e';omega)
 tg:=h.tg
 fr:=h.fr.trans (Fr.setCell wr ⟨gt,j,none⟩ u) (fun k _ e=>by have e':k=gt:=e;rw [e'];exact hτ)
 old:=h.old
/-- The kids' slice of a node, read. -/
theorem PuI.kidcell {g2 n3 e2 n:Nat} (h:PuI w gt τ wr τ' cs v1 (.slice (some ⟨g2,0,none⟩) n3 e2) v3 v4 v5 R NK NL RA NA NM) (hn:n < NK.length):wr.cell? ⟨g2,n * 9+8,none⟩=some (.slice NK[n].2.1 NK[n].1.kids.length NK[n].2.2):=by
 have hx:(NK.flatMap ndc)[n * 9+8]?=some (.slice NK[n].2.1 NK[n].1.kids.length NK[n].2.2):=by
  rw [fl_at ndc_len NK n hn 8 (by decide)];rfl
 have:=h.tr.t3.1.cells (g:=g2) rfl _ _ hx
 have e:(⟨g2,0,none⟩:Addr).add (n * 9+8)=⟨g2,n * 9+8,none⟩:=by unfold Addr.add;split <;> simp_all
 rwa [e] at this
/-- The kids' slice is laid into its node. -/
theorem PuI.lay {g2 n3 e2 n:Nat} (h:PuI w gt τ wr τ' cs v1 (.slice (some ⟨g2,0,none⟩) n3 e2) v3 v4 v5 R NK NL RA NA NM) (hl:NK.length=n3) (hn:n < NK.length) (k:Int) (q:Option Addr×Nat):
  PuI w gt τ (wr.setCell ⟨g2,n * 9+8,none⟩ (.slice q.1 (NK[n].1.kids.length+1) q.2)) τ' cs v1 (.slice (some ⟨g2,0,none⟩) n3 e2) v3 v4 v5 R (NK.set n (kidP NK[n] k q)) NL RA NA NM:=by
 have h3:τ' g2=3:=h.tr.t3.2 g2 rfl
 have hf:=Fr.setCell wr ⟨g2,n * 9+8,none⟩ (.slice q.1 (NK[n].1.kids.length+1) q.2)
 refine ⟨h.obj.fr hf (fun e=>?_),h.tr.lay (by rw [hl]) hn k q,h.tg,h.fr.trans hf (fun j hj e=>?_),h.old⟩
 ·have e':gt=g2:=e
  have:=h.tg
  rw [e',h3] at this;cases this
 ·have e':j=g2:=e
  have h4:=h.old j hj
  rw [e',h3] at h4
  rw [e'];omega
/-- What reads below is as it was. -/
theorem PuI.part {F:Nat->Prop} (h:PuI w gt τ wr τ' cs v1 v2 v3 v4 v5 R NK NL RA NA NM) {p:Pt} {b:Nat} (hp:PtW w (fun k=>τ k=0) p b) (hF:∀ k,k < w.heap.size->τ k=0->F k):PtW wr F p b:=
 PtW.fr h.fr (fun _ hk e=>e hk.1) (fun _ hk=>hF _ hk.2 hk.1) _ _ (PtW.bound _ _ hp)
/-- A tree, as it is known from outside. -/
theorem PuI.tree {R0:List Rr} {N0:List Rn} (h:PuI w gt τ wr τ' #[v1,v2,v3,v4,v5] v1 v2 v3 v4 v5 R NK NK RA NA NM) (h1:R=R0.map Rr.ru) (h2:RA=R0.map fun r=>(r.at_:Int)) (h3:NA=N0.map fun x=>(x.at_:Int)) (h4:NM=N0.map fun x=>tx x.nm) (h5:NK.map (·.1)=N0.map Rn.nd):TrW wr gt τ' R0 N0:=by
 subst h1 h2 h3 h4
 exact ⟨⟨v1,v2,v3,v4,v5,NK,h.obj,h.tr,h5⟩,h.tg⟩
theorem len_szL:∀ l:List Pt,l.length<=szL l
 | []=>Nat.le_refl _
 | p :: l=>by have h1:=len_szL l;have h2:=sz_pos p;unfold szL;simp only [List.length_cons];omega
theorem szL_take:∀ (l:List Pt) (i:Nat) (h:i < l.length),szL (l.take i)+l[i].sz<=szL l
 | p :: l,0,_=>by simp only [List.take_zero,List.getElem_cons_zero,szL];omega
 | p :: l,i+1,h=>by have:=szL_take l i (by simpa using h);simp only [List.take_succ_cons,List.getElem_cons_succ,szL];omega
theorem owns_frozen {w:World} {base:Nat} {e:TypeId} {size n c g:Nat} {xs:List Value} (h:w.ownsRow base e size (.slice (some ⟨g,0,none⟩) n c) n xs) (o:Nat):w.frozen? ⟨g,o,none⟩=false:=by
 rcases h.2 with ⟨h1,_⟩ | ⟨g',cap,cur,h1,_,hh,_⟩
 ·cases h1
 ·cases h1;exact hrow.frozen (cs:=cur) hh o
theorem setL_at {α:Type} (a c:List α) (b b':α):(a ++ [b] ++ c).set a.length b'=a ++ [b'] ++ c:=by
 simp
theorem getL_at {α:Type} (a c:List α) (b:α) (h:a.length < (a ++ [b] ++ c).length):(a ++ [b] ++ c)[a.length]=b:=by
 simp
theorem TrW.start {R0:List Rr} {N0:List Rn} (h:TrW wr gt τ' R0 N0) (hf:Fr (fun k=>τ k ≠ 0) w wr) (ho:∀ k,k < w.heap.size->τ' k=τ k):
  ∃ (a1:Value) (a2:Option Addr) (d2:Nat) (a3:Value) (a4:Option Addr) (d4:Nat) (a5:Value) (NK:List Nk),NK.length=N0.length/\NK.map (·.1)=N0.map Rn.nd/\
   PuI w gt τ wr τ' #[a1,.slice a2 N0.length d2,a3,.slice a4 N0.length d4,a5] a1 (.slice a2 N0.length d2) a3 (.slice a4 N0.length d4) a5 (R0.map Rr.ru) NK NK (R0.map fun r=>(r.at_:Int)) (N0.map fun x=>(x.at_:Int)) (N0.map fun x=>tx x.nm):=by
 obtain ⟨⟨v1,v2,v3,v4,v5,NK,hg,hR,hNK⟩,htg⟩:=h
 have hl2:NK.length=N0.length:=by have:=congrArg List.length hNK;simpa using this
 obtain ⟨ao4,c4,e4,_⟩:=hR.t5.sv
 obtain ⟨ao2,c2,e2,_⟩:=hR.t3.sv
 simp only [List.length_map,hl2] at e4 e2
 subst e4 e2
 exact ⟨v1,ao2,c2,v3,ao4,c4,v5,NK,hl2,hNK,hg,hR,htg,hf,ho⟩
/-- A part's cells and kids, wherever only the tree has turned. -/
theorem part_keep {k:Nat} {cl:List (UInt8×UInt8)} {t:List UInt8} {lv:Int} {at0:Nat} {nm:List UInt8} {ks:List Pt} {b:Nat} (hp:PtW w (fun k=>τ k=0) (.mk k cl t lv at0 nm ks) b):
  ∃ (ao:Option Addr) (cap:Nat) (bs:List Nat),∀ x,Fr (fun k=>τ k ≠ 0) w x->hrow x b (ptC k cl t lv at0 nm ao ks.length cap) 187/\Sv x ao ks.length cap 1 (bs.map ptr)/\PtsW x (fun k=>τ k=0/\k < w.heap.size) ks bs:=by
 have hp:=PtW.bound _ _ hp
 unfold PtW at hp
 obtain ⟨h0,ao,cap,bs,h1,h2,h3,h4⟩:=hp
 refine ⟨ao,cap,bs,fun x hx=>⟨h1.fr hx (fun e=>e h0.1),h2.fr hx (fun a ha hn e=>e (h3 a ha (fun e0=>by subst e0;simp at hn)).1),PtsW.fr hx (fun k hk e=>e hk.1) (fun _ h=>h) _ _ h4⟩⟩
theorem PuI.cells {k:Nat} {cl:List (UInt8×UInt8)} {t:List UInt8} {lv:Int} {at0:Nat} {nm:List UInt8} {ks:List Pt} {b:Nat} (h:PuI w gt τ wr τ' cs v1 v2 v3 v4 v5 R NK NL RA NA NM) (hp:PtW w (fun k=>τ k=0) (.mk k cl t lv at0 nm ks) b):
  ∃ ao cap bs,hrow wr b (ptC k cl t lv at0 nm ao ks.length cap) 187/\Sv wr ao ks.length cap 1 (bs.map ptr)/\PtsW wr (fun k=>τ k=0/\k < w.heap.size) ks bs:=by
 have:=h.part (F:=fun k=>τ k=0/\k < w.heap.size) hp (fun k h1 h2=>⟨h2,h1⟩)
 unfold PtW at this
 obtain ⟨_,ao,cap,bs,h1,h2,_,h3⟩:=this
 exact ⟨ao,cap,bs,h1,h2,h3⟩
theorem PuI.node_ld {k:Nat} {cl:List (UInt8×UInt8)} {t:List UInt8} {lv:Int} {at0:Nat} {nm:List UInt8} {ks:List Pt} {b:Nat} (h:PuI w gt τ wr τ' cs v1 v2 v3 v4 v5 R NK NL RA NA NM) (hp:PtW w (fun k=>τ k=0) (.mk k cl t lv at0 nm ks) b):
  (loadVar 45 ⟨b,0,none⟩).run Tryz.prog wr=.ok (.agg #[.int .i64 k,.int .u64 (clsW cl 0),.int .u64 (clsW cl 1),.int .u64 (clsW cl 2),.int .u64 (clsW cl 3),.string (tx t),.int .i64 0,.int .i64 lv,.slice none 0 0]) wr:=by
 obtain ⟨ao,cap,bs,h1,_⟩:=h.cells hp
 exact part_node h1
end Go.Proofs.YtgjhepblpdnkcaaGreatDoor
namespace Go.Proofs.YtgjhepblpdnkcaaGreatDoor
open Go.RowKit
set_option maxRecDepth 100000
set_option maxHeartbeats 4000000

theorem iclone_any (w:World) (ao:Option Addr) (cap:Nat) (t:List Int) (h:Sv w ao t.length cap 1 (inc t)) (hl:t.length<=1000000):
  Calls Tryz.prog 125 #[.slice ao t.length cap] w fun e w'=>∃ v,e=.returned v/\Own w w' 3 1 v t.length (inc t):=by
 have HS:=Lib.hid h
 cases ao with
 | none=>
  have hc:cap=0:=h.nn rfl
  have hn:t.length=0:=by have:=h.le;omega
  have ht:t=[]:=List.eq_nil_of_length_eq_zero hn
  subst ht
  subst hc
  clear h
  have hq:∀ (w:World) (n c:Nat),(binOp .eql 26 (.slice none n c) (.slice none 0 0)).run Tryz.prog w=.ok (.bool true) w:=fun w n c=>Lib.run_eql_slice_nil (P:=Tryz.prog) w 26 3 none n c 0 0 (by kernel_rfl)
  simp only [List.length_nil]
  go_enter Tryz.func125,Tryz.ntmps125
  go_wp2_with fail
  go_ret
  exact ⟨_,rfl,Own.nil _ _ _⟩
 | some a=>
  clear h
  have HO:Hid (∀ u ∈ inc t,u.oneCell'=true):=by intro u hu;simp only [inc,List.mem_map] at hu;obtain ⟨c,-,rfl⟩:=hu;rfl
  have HT:Hid (∀ (v:Value) (w':World),Own w w' 3 1 v (0+t.length) ([] ++ inc t)->Own w w' 3 1 v t.length (inc t)):=fun v w' h=>by rwa [Nat.zero_add,List.nil_append] at h
  have HLn:Hid ((0+t.length) * 8<=140737488355328/\0+t.length<=maxLen):=by unfold Hid maxLen;omega
  generalize t.length=n at *
  have hq:∀ (w:World) (a:Addr) (n c:Nat),(binOp .eql 26 (.slice (some a) n c) (.slice none 0 0)).run Tryz.prog w=.ok (.bool false) w:=fun w a n c=>Lib.run_eql_slice_nil (P:=Tryz.prog) w 26 3 (some a) n c 0 0 (by kernel_rfl)
  go_enter Tryz.func125,Tryz.ntmps125
  go_wp2_with (at_builtin;refine wpList_apps w _ rfl _ _ 26 3 rfl elIntS _ 0 [] rfl (Own.lit w 3 #[] 0 1 (by decide) rfl) (some a) n cap (inc t) rfl (HS.out.below ((Below.refl _ _).alloc (Nat.le_refl _) _)) HO.out HLn.out.1 HLn.out.2 ?_;intro v1 w1 ho;have HO1:=Lib.hid ho;clear ho)
  go_ret
  exact ⟨_,rfl,HT.out _ _ HO1.out⟩
theorem rclone_any (w:World) (ao:Option Addr) (cap:Nat) (t:List Ru) (h:Sv w ao t.length cap 2 (t.flatMap ruc)) (hl:t.length<=1000000):
  Calls Tryz.prog 81 #[.slice ao t.length cap] w fun e w'=>∃ v,e=.returned v/\Own w w' 49 2 v t.length (t.flatMap ruc):=by
 have HS:=Lib.hid h
 cases ao with
 | none=>
  have hc:cap=0:=h.nn rfl
  have hn:t.length=0:=by have:=h.le;omega
  have ht:t=[]:=List.eq_nil_of_length_eq_zero hn
  subst ht
  subst hc
  clear h
  have hq:∀ (w:World) (n c:Nat),(binOp .eql 22 (.slice none n c) (.slice none 0 0)).run Tryz.prog w=.ok (.bool true) w:=fun w n c=>Lib.run_eql_slice_nil (P:=Tryz.prog) w 22 49 none n c 0 0 (by kernel_rfl)
  simp only [List.length_nil]
  go_enter Tryz.func81,Tryz.ntmps81
  go_wp2_with fail
  go_ret
  exact ⟨_,rfl,Own.nil _ _ _⟩
 | some a=>
  clear h
  have HO:Hid (∀ u ∈ t.flatMap ruc,u.oneCell'=true):=by intro u hu;obtain ⟨r,-,hr⟩:=List.mem_flatMap.1 hu;simp only [ruc,List.mem_cons,List.not_mem_nil,or_false] at hr;rcases hr with rfl | rfl <;> rfl
  have HT:Hid (∀ (v:Value) (w':World),Own w w' 49 2 v (0+t.length) ([] ++ t.flatMap ruc)->Own w w' 49 2 v t.length (t.flatMap ruc)):=fun v w' h=>by rwa [Nat.zero_add,List.nil_append] at h
  have HLn:Hid ((0+t.length) * 24<=140737488355328/\0+t.length<=maxLen):=by unfold Hid maxLen;omega
  generalize t.length=n at *
  have hq:∀ (w:World) (a:Addr) (n c:Nat),(binOp .eql 22 (.slice (some a) n c) (.slice none 0 0)).run Tryz.prog w=.ok (.bool false) w:=fun w a n c=>Lib.run_eql_slice_nil (P:=Tryz.prog) w 22 49 (some a) n c 0 0 (by kernel_rfl)
  go_enter Tryz.func81,Tryz.ntmps81
  go_wp2_with (at_builtin;refine wpList_apps w _ rfl _ _ 22 49 rfl elRule _ 0 [] rfl (Own.lit w 49 #[] 0 2 (by decide) rfl) (some a) n cap (t.flatMap ruc) rfl (HS.out.below ((Below.refl _ _).alloc (Nat.le_refl _) _)) HO.out HLn.out.1 HLn.out.2 ?_;intro v1 w1 ho;have HO1:=Lib.hid ho;clear ho)
  go_ret
  exact ⟨_,rfl,HT.out _ _ HO1.out⟩
end Go.Proofs.YtgjhepblpdnkcaaGreatDoor
