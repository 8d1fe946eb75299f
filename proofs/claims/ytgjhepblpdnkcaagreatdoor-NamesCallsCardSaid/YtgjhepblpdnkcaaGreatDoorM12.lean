/- Walks and plain laws: Jg Jh Ji Jj Jk Id Ie. -/
import Derived.Test.YtgjhepblpdnkcaaGreatDoorM11
import Derived.Test.YtgjhepblpdnkcaaGreatDoorM10
namespace Go.Proofs.YtgjhepblpdnkcaaGreatDoor
open Go.RowKit
set_option maxRecDepth 100000
set_option maxHeartbeats 4000000

/-- What comes of reading. -/
def PrP (L:List Wd) (B gr:Nat) (d:Nat) (r:Rs Pt) (w:World) (e:Ending) (w':World):Prop:=match r with
 | .ok p j=>∃ b,e=.returned (ptr b)/\PtW w' (fun k=>B<=k) p b/\RdW L B gr j d w'/\Fr (fun k=>k=gr) w w'
 | .err c a=>e=badE c a/\Fr (fun k=>k=gr) w w'
/-- A function reads what the parser says, so far as this fuel goes. -/
def PrC (L:List Wd) (gr:Nat) (fn:Nat) (m:Md) (f:Nat):Prop:=∀ (B i d:Nat) (w:World) (r:Rs Pt),prs L f m [] i d=some r->RdW L B gr i d w->i < L.length->d<=500->Calls Tryz.prog fn #[ptr gr] w fun e w'=>PrP L B gr d r w e w'
theorem elPart:Elem Tryz.prog 184 139 1 8 (.pointer none):=⟨by kernel_rfl,by kernel_rfl,rfl,by decide⟩
/-- append(l, p). -/
theorem app_part {ops:Array Oper} {rest:List Oper} {o:Oper} {a:Act} {w:World} {Q:Exit->Act->World->Prop} (hgd:o.guard=none) (s x:Operand) (ho:o.op=.call { callee:=.builtin .append,args:=#[s,x],argTypes:=#[184,184] })
  (B:Nat) (v:Value) (n:Nat) (xs:List Value) (hs:a.eval s=v) (hown:w.ownsRow B 139 1 v n xs) (b:Nat) (hx:a.eval x=.slice (some ⟨w.heap.size,0,none⟩) 1 1) (hn:n<=1000000) (hB:B<=w.heap.size)
  (h:∀ v' w',w'.ownsRow B 139 1 v' (n+1) (xs ++ [ptr b])->(w.alloc (.cells #[.pointer (some ⟨b,0,none⟩)] 139)).grownBy w' v.ownBlock->(∀ k,v'.ownBlock=some k->v.ownBlock=some k∨w.heap.size < k)->wpList Tryz.prog ops Q rest (a.put o.dst v') w'):
  wpList Tryz.prog ops Q (o :: rest) a (w.alloc (.cells #[.pointer (some ⟨b,0,none⟩)] 139)):=by
 refine wpList_append_tag _ hgd s x 184 139 ho elPart B v n xs hs (hown.alloc _) ⟨w.heap.size,0,none⟩ 1 1 [ptr b] hx (Sv.lit w 139 #[.pointer (some ⟨b,0,none⟩)] 1 1 (by unfold maxLen;omega) rfl) (by simp [ptr,Value.oneCell']) (by omega) (by unfold maxLen;omega) (by rw [World.size_alloc];omega) ?_
 intro v' w' h1 h2 h3
 exact h v' w' h1 h2 (fun k hk=>(h3 k hk).imp id (fun h=>by rw [World.size_alloc] at h;omega))
/-- Parts in a row, as they are read. -/
structure AltI (L:List Wd) (B gr d F0:Nat) (m:Md) (r:Rs Pt) (w:World) (v:Value) (wr:World) (acc:List Pt) (bs:List Nat) (j f:Nat):Prop where
 eq:prs L f m acc j d=some r
 le:f<=F0
 ne:acc ≠ []
 own:wr.ownsRow w.heap.size 139 1 v acc.length (bs.map ptr)
 pts:PtsW wr (fun k=>B<=k/\v.ownBlock ≠ some k) acc bs
 rd:RdW L B gr j d wr
 fr:Fr (fun k=>k=gr) w wr
 lt:j < L.length
 bd:acc.length<=j
theorem AltI.more {L:List Wd} {B gr d F0 f f2 j k b:Nat} {m:Md} {r:Rs Pt} {w wr w3 w':World} {v v':Value} {acc:List Pt} {bs:List Nat} {p:Pt} (h:AltI L B gr d F0 m r w v wr acc bs j f) (hBw:B<=w.heap.size)
  (heq:prs L f2 m (acc ++ [p]) k d=some r) (hf2:f2<=f) (hjk:j < k) (hk:k < L.length) (h3:Fr (fun k=>k=gr) wr w3) (hrd:RdW L B gr k d w3) (hp:PtW w3 (fun k=>wr.heap.size<=k) p b)
  (ho:w'.ownsRow w.heap.size 139 1 v' (acc.length+1) (bs.map ptr ++ [ptr b])) (hg:(w3.alloc (.cells #[.pointer (some ⟨b,0,none⟩)] 139)).grownBy w' v.ownBlock) (hb:∀ k,v'.ownBlock=some k->v.ownBlock=some k∨w3.heap.size < k):
  AltI L B gr d F0 m r w v' w' (acc ++ [p]) (bs ++ [b]) k f2:=by
 have hA:Fr (fun _=>False) w3 (w3.alloc (.cells #[.pointer (some ⟨b,0,none⟩)] 139)):=Fr.of_below ((Below.refl _ _).alloc (Nat.le_refl _) _)
 have hG:Fr (fun k=>v.ownBlock=some k) w3 w':=(hA.weak (fun _ h=>h.elim)).trans (Fr.grown hg) (fun _ _ h=>h)
 have hvb:∀ k,v.ownBlock=some k->w.heap.size<=k/\k < wr.heap.size:=fun k hk=>h.own.lt k hk
 have hgr:=h.rd.lt
 have hw3:=h3.size
 have hT:Fr (fun k=>k=gr∨v.ownBlock=some k) wr w':=(h3.weak (G:=fun k=>k=gr∨v.ownBlock=some k) (fun _ e=>.inl e)).trans hG (fun _ _ e=>.inr e)
 exact {
  eq:=heq
  le:=Nat.le_trans hf2 h.le
  ne:=by simp
  own:=by rw [List.length_append,List.map_append];exact ho
  pts:=by
   have n1:∀ q,((B<=q/\v.ownBlock ≠ some q)/\q < wr.heap.size)->¬ (q=gr∨v.ownBlock=some q):=fun q hq e=>by
    rcases e with e | e
    ·have:=hq.1.1;omega
    ·exact hq.1.2 e
   have n2:∀ q,((B<=q/\v.ownBlock ≠ some q)/\q < wr.heap.size)->B<=q/\v'.ownBlock ≠ some q:=fun q hq=>⟨hq.1.1,fun e=>by
    rcases hb q e with e | e
    ·exact hq.1.2 e
    ·have:=hq.2;omega⟩
   have n3:∀ q,(wr.heap.size<=q/\q < w3.heap.size)->¬ v.ownBlock=some q:=fun q hq e=>by
    have:=(hvb q e).2;have:=hq.1;omega
   have n4:∀ q,(wr.heap.size<=q/\q < w3.heap.size)->B<=q/\v'.ownBlock ≠ some q:=fun q hq=>⟨by have:=hq.1;have:=h.fr.size;omega,fun e=>by
    rcases hb q e with e | e
    ·exact n3 q hq e
    ·have:=hq.2;omega⟩
   exact PtsW.snoc (PtsW.fr hT n1 n2 _ _ (PtsW.bound _ _ h.pts)) (PtW.fr hG n3 n4 _ _ (PtW.bound _ _ hp))
  rd:=hrd.fr hG (fun q e=>Nat.le_trans hBw (hvb q e).1)
  fr:=h.fr.trans hT (fun q hq e=>e.elim id (fun e=>by have:=(hvb q e).1;omega))
  lt:=hk
  bd:=by have:=h.bd;simp;omega }
/-- The first part. -/
theorem AltI.start {L:List Wd} {B gr d F0 f j b:Nat} {m:Md} {r:Rs Pt} {w w1:World} {p:Pt} (heq:prs L f m [p] j d=some r) (hf:f<=F0) (hj:j < L.length) (hj0:0 < j) (hf1:Fr (fun k=>k=gr) w w1) (hrd:RdW L B gr j d w1) (hp:PtW w1 (fun k=>B<=k) p b):
  AltI L B gr d F0 m r w (.slice (some ⟨w1.heap.size,0,none⟩) 1 1) (w1.alloc (.cells #[.pointer (some ⟨b,0,none⟩)] 139)) [p] [b] j f:=by
 have hA:Fr (fun _=>False) w1 (w1.alloc (.cells #[.pointer (some ⟨b,0,none⟩)] 139)):=Fr.of_below ((Below.refl _ _).alloc (Nat.le_refl _) _)
 exact {
  eq:=heq
  le:=hf
  ne:=by simp
  own:=own_mono (Own.lit w1 139 #[.pointer (some ⟨b,0,none⟩)] 1 1 (by unfold maxLen;omega) rfl).1 (fun k hk=>by simp only [Value.ownBlock,Option.some.injEq] at hk;have:=hf1.size;omega)
  pts:=by
   unfold PtsW
   refine ⟨b,[],rfl,PtW.fr hA (fun _ _=>id) (fun q hq=>⟨hq.1,fun e=>?_⟩) _ _ (PtW.bound _ _ hp),by unfold PtsW;rfl⟩
   simp only [Value.ownBlock,Option.some.injEq] at e
   have:=hq.2;omega
  rd:=hrd.fr hA (fun _ e=>e.elim)
  fr:=hf1.trans hA (fun _ _ e=>e.elim)
  lt:=hj
  bd:=hj0 }
/-- Where a reader is. -/
def posOf (w:World) (gr:Nat):Nat:=match w.cell? ⟨gr,1,none⟩ with
 | some (.int _ x)=>x.toNat
 | _=>0
theorem RdW.pos {L:List Wd} {B gr i:Nat} {d:Int} {w:World} (h:RdW L B gr i d w):posOf w gr=i:=by
 obtain ⟨⟨ao,cap,h1,_,_⟩,_,_⟩:=h
 have:=h1.cell 1
 unfold posOf
 rw [this]
 simp
end Go.Proofs.YtgjhepblpdnkcaaGreatDoor
namespace Go.Proofs.YtgjhepblpdnkcaaGreatDoor
open Go.RowKit
set_option maxRecDepth 100000
set_option maxHeartbeats 8000000

theorem alt_step (L:List Wd) (gr f:Nat) (hW:WsOk L) (hL:L.length<=100000) (HS:∀ f',f'<=f->PrC L gr 121 .seq f'):PrC L gr 78 .alt (f+1):=by
 intro B i d w r e hrd hi hd
 simp only [prs] at e
 cases hq:prs L f .seq [] i d with
 | none=>rw [hq] at e;cases e
 | some r1=>
  rw [hq] at e
  have HX:=Lib.hid (HS f (Nat.le_refl _) B i d w _ hq hrd hi hd)
  cases r1 with
  | err c a=>
   simp only [Option.some.injEq] at e
   subst e
   clear hq hrd hi hd HS hW hL
   unfold ptr PrP badE at *
   go_enter Tryz.func78,Tryz.ntmps78
   go_wp2_with fail
   refine HX.out.mono ?_
   rintro e w1 ⟨rfl,hf⟩
   go_wp2_with fail
   exact ⟨rfl,rfl,hf⟩
  | ok p j=>
   simp only [] at e
   obtain ⟨b1,b2,b3⟩:=prs_bd hW f .seq [] i d p j hi hq
   simp only [] at b3
   have HE:=Lib.hid e;have HB:=Lib.hid (And.intro b1 (show 0 < j by omega));have HL:=Lib.hid hL;have HD:=Lib.hid hd;have HWs:=Lib.hid hW;have HSs:=Lib.hid HS
   have HBw:=Lib.hid hrd.le
   clear hq hrd hi hd HS hW hL e b1 b2 b3
   unfold ptr at *
   go_enter Tryz.func78,Tryz.ntmps78
   go_wp2_with fail
   refine HX.out.mono ?_
   rintro e w1 ⟨b,rfl,hp,hr1,hf1⟩
   have HI:=Lib.hid (AltI.start HE.out (Nat.le_refl f) HB.out.1 HB.out.2 hf1 hr1 hp)
   clear hp hr1 hf1 HX HE HB
   unfold ptr
   go_wp2_with fail
   go_loopw [3] (fun v wr=>∃ (acc:List Pt) (bs:List Nat) (j f':Nat),Hid (AltI L B gr d f .altM r w v wr acc bs j f')) (fun _ wr=>L.length - posOf wr gr)
   case atStart=>exact ⟨_,_,_,_,HI.out⟩
   case round=>
    obtain ⟨acc,bs,jj,f',HR⟩:=hrel
    have hhl:=here_lit L B gr jj d wr HR.out.rd HR.out.lt [[47]] 1 #[.string ⟨#[47]⟩] rfl rfl (by decide)
    simp only [List.any_cons,List.any_nil,Bool.or_false] at hhl
    obtain ⟨f2,rfl⟩:∃ f2,f'=f2+1:=by
     cases f' with
     | zero=>have:=HR.out.eq;simp [prs] at this
     | succ n=>exact ⟨n,rfl⟩
    have heq:=HR.out.eq
    have HGL:Hid (gr < w.heap.size):=Nat.lt_of_lt_of_le HR.out.rd.lt HBw.out
    cases hh:hereW L jj [47] with
    | true=>
     rw [hh] at hhl
     simp only [prs,hh,if_true] at heq
     have hj1:=HWs.out.after HR.out.lt hh
     cases hq:prs L f2 .seq [] (jj+1) d with
     | none=>rw [hq] at heq;cases heq
     | some r2=>
      rw [hq] at heq
      have HT:=Lib.hid (fun x (hx:Below wr.heap.size wr x)=>take_any L B gr jj d x (HR.out.rd.below hx) HR.out.lt HL.out)
      have HX:Hid (∀ x,RdW L wr.heap.size gr (jj+1) d x->Calls Tryz.prog 121 #[.pointer (some ⟨gr,0,none⟩)] x fun e w'=>PrP L wr.heap.size gr d r2 x e w'):=fun x hx=>HSs.out f2 (by have:=HR.out.le;omega) _ _ _ x _ hq hx hj1 HD.out
      have HH:=Lib.hid hhl
      have HEQ:=Lib.hid heq
      have HBD:=Lib.hid (fun q k (h:r2=.ok q k)=>prs_bd HWs.out f2 .seq [] (jj+1) d q k hj1 (by rw [hq,h]))
      clear hhl heq hq hh hj1
      unfold ptr at HT
      go_wp2_with fail
      refine HH.out.mono ?_
      rintro e x1 ⟨rfl,hb1⟩
      have HT1:=Lib.hid (HT.out x1 hb1);have HB1:=Lib.hid hb1
      clear HH HT hb1
      go_wp2_with fail
      refine HT1.out.mono ?_
      rintro e x2 ⟨rfl,hr2,hf2⟩
      have HF2:=Lib.hid ((Fr.of_below (F:=fun k=>k=gr) HB1.out).trans hf2 (fun _ _ h=>h))
      have HX2:=Lib.hid (HX.out x2 (hr2.base (Nat.lt_of_lt_of_le HGL.out HR.out.fr.size) HF2.out.size))
      clear HT1 HX hr2 hf2 HB1
      cases r2 with
      | err c a=>
       have HEQ2:Hid (r=.err c a):=by unfold Hid;have:=HEQ.out;simpa using this.symm
       have he2:=HEQ2.out
       subst he2
       clear HEQ HEQ2
       go_wp2_with fail
       refine HX2.out.mono ?_
       rintro e x3 ⟨rfl,hf3⟩
       have HF3:=Lib.hid (HR.out.fr.trans (HF2.out.trans hf3 (fun _ _ h=>h)) (fun _ _ h=>h))
       clear hf3 HF2 HX2 HR
       unfold badE
       go_wp2_with fail
       exact ⟨rfl,rfl,HF3.out⟩
      | ok q k=>
       have HE2:=Lib.hid (show prs L f2 .altM (acc ++ [q]) k d=some r from HEQ.out)
       obtain ⟨k1,k2,k3⟩:=HBD.out q k rfl
       have HK:=Lib.hid (And.intro k1 (show jj < k by have:jj+1 < k:=k3;omega))
       clear HEQ HBD k1 k2 k3
       go_wp2_with fail
       refine HX2.out.mono ?_
       rintro e x3 ⟨b3,rfl,hp3,hr3,hf3⟩
       have HF3:=Lib.hid (HF2.out.trans hf3 (fun _ _ h=>h))
       have HO3:=Lib.hid (owns_fr HR.out.own HF3.out (fun q hq e=>by have:=(HR.out.own.lt q hq).1;have:=HGL.out;omega))
       have HP3:=Lib.hid hp3;have HR3:=Lib.hid (hr3.base HR.out.rd.lt (Nat.le_trans HR.out.rd.le HF3.out.size))
       have HS3:Hid (w.heap.size<=x3.heap.size):=Nat.le_trans HR.out.fr.size HF3.out.size
       have HN:Hid (acc.length<=1000000):=by have:=HR.out.bd;have:=HR.out.lt;have:=HL.out;unfold Hid;omega
       clear hp3 hr3 hf3 HF2 HX2
       unfold ptr
       go_wp2_with (refine app_part rfl (.tmp 16) (.tmp 19) rfl w.heap.size u3 acc.length (bs.map ptr) rfl HO3.out b3 rfl HN.out HS3.out ?_;intro v' w' ho hg hb;have HM:=Lib.hid (AltI.more HR.out HBw.out HE2.out (Nat.le_succ f2) HK.out.2 HK.out.1 HF3.out HR3.out HP3.out ho hg hb);clear ho hg hb)
       go_roundw
       case rel=>exact ⟨_,_,_,_,HM.out⟩
       case measure=>
        have h1:=HM.out.rd.pos;have h2:=HR.out.rd.pos;have h3:=HK.out;have h4:=HR.out.lt
        rw [h1,h2];omega
    | false=>
     rw [hh] at hhl
     simp only [prs,hh,Bool.false_eq_true,if_false,Option.some.injEq] at heq
     subst heq
     obtain ⟨ao,cap,rfl,hsv⟩:=Sv.of_owns HR.out.own
     have HH:=Lib.hid hhl
     have HG:=Lib.hid (fun x (hx:Below wr.heap.size wr x)=>group_any B 7 ao cap acc bs x (hsv.below hx) (PtsW.fr (G:=fun _=>False) (Fr.of_below hx) (fun _ _=>id) (fun _ h=>h.1) _ _ HR.out.pts) (fun a ha=>by subst ha;exact Nat.le_trans HBw.out (HR.out.own.lt a.block rfl).1) (Nat.le_trans HR.out.rd.le hx.size) HR.out.ne)
     clear hhl hh hsv
     go_wp2_with fail
     refine HH.out.mono ?_
     rintro e x1 ⟨rfl,hb1⟩
     have HG1:=Lib.hid (HG.out x1 hb1);have HB1:=Lib.hid hb1
     clear HH HG hb1
     go_wp2_with fail
     refine HG1.out.mono ?_
     rintro e x2 ⟨b',rfl,hp',hb2⟩
     have HP:=Lib.hid hp';have HB2:=Lib.hid (HB1.out.trans (hb2.mono HB1.out.size))
     clear hp' hb2 HG1 HB1
     unfold ptr
     go_wp2_with fail
     go_ret
     exact ⟨b',rfl,HP.out,HR.out.rd.below HB2.out,HR.out.fr.trans (Fr.of_below HB2.out) (fun _ _ h=>h)⟩
end Go.Proofs.YtgjhepblpdnkcaaGreatDoor
namespace Go.Proofs.YtgjhepblpdnkcaaGreatDoor
open Go.RowKit
set_option maxRecDepth 100000
set_option maxHeartbeats 8000000

theorem wfld0 (x0 x1 x2 x3 x4 x5 x6 x7 x8:Value) (w:World):(Instr.field 82 (.agg #[x0,x1,x2,x3,x4,x5,x6,x7,x8]) 0).run Tryz.prog w=.ok x0 w:=by kernel_rfl
theorem seq_step (L:List Wd) (gr f:Nat) (hW:WsOk L) (hL:L.length<=100000) (HS:∀ f',f'<=f->PrC L gr 158 .item f'):PrC L gr 121 .seq (f+1):=by
 intro B i d w r e hrd hi hd
 simp only [prs] at e
 cases hq:prs L f .item [] i d with
 | none=>rw [hq] at e;cases e
 | some r1=>
  rw [hq] at e
  have HX:=Lib.hid (HS f (Nat.le_refl _) B i d w _ hq hrd hi hd)
  cases r1 with
  | err c a=>
   simp only [Option.some.injEq] at e
   subst e
   clear hq hrd hi hd HS hW hL
   unfold ptr PrP badE at *
   go_enter Tryz.func121,Tryz.ntmps121
   go_wp2_with fail
   refine HX.out.mono ?_
   rintro e w1 ⟨rfl,hf⟩
   go_wp2_with fail
   exact ⟨rfl,rfl,hf⟩
  | ok p j=>
   simp only [] at e
   obtain ⟨b1,b2,b3⟩:=prs_bd hW f .item [] i d p j hi hq
   simp only [] at b3
   have HE:=Lib.hid e;have HB:=Lib.hid (And.intro b1 (show 0 < j by omega));have HL:=Lib.hid hL;have HD:=Lib.hid hd;have HWs:=Lib.hid hW;have HSs:=Lib.hid HS
   have HBw:=Lib.hid hrd.le
   clear hq hrd hi hd HS hW hL e b1 b2 b3
   unfold ptr at *
   go_enter Tryz.func121,Tryz.ntmps121
   go_wp2_with fail
   refine HX.out.mono ?_
   rintro e w1 ⟨b,rfl,hp,hr1,hf1⟩
   have HI:=Lib.hid (AltI.start HE.out (Nat.le_refl f) HB.out.1 HB.out.2 hf1 hr1 hp)
   clear hp hr1 hf1 HX HE HB
   unfold ptr
   go_wp2_with fail
   go_loopw [3] (fun v wr=>∃ (acc:List Pt) (bs:List Nat) (j f':Nat),Hid (AltI L B gr d f .seqM r w v wr acc bs j f')) (fun _ wr=>L.length - posOf wr gr)
   case atStart=>exact ⟨_,_,_,_,HI.out⟩
   case round=>
    obtain ⟨acc,bs,jj,f',HR⟩:=hrel
    have hwd:=word_any2 L B gr jj d wr HR.out.rd HR.out.lt
    have hhl:=fun x (hx:Below wr.heap.size wr x)=>here_lit L B gr jj d x (HR.out.rd.below hx) HR.out.lt [[47],[41],[59],[60,45],[42],[43],[63]] 7 #[.string ⟨#[47]⟩,.string ⟨#[41]⟩,.string ⟨#[59]⟩,.string ⟨#[60,45]⟩,.string ⟨#[42]⟩,.string ⟨#[43]⟩,.string ⟨#[63]⟩] rfl rfl (by decide)
    have hgo:goesW L jj=((wdAt L jj).kind != 1 && !([[47],[41],[59],[60,45],[42],[43],[63]]:List (List UInt8)).any fun s=>hereW L jj s):=by
     unfold goesW
     simp only [List.any_cons,List.any_nil,Bool.or_false,Bool.or_assoc]
    have hf0:=wfld0
    unfold ptr wdD wdA at hwd
    obtain ⟨f2,rfl⟩:∃ f2,f'=f2+1:=by
     cases f' with
     | zero=>have:=HR.out.eq;simp [prs] at this
     | succ n=>exact ⟨n,rfl⟩
    have heq:=HR.out.eq
    have HGL:Hid (gr < w.heap.size):=Nat.lt_of_lt_of_le HR.out.rd.lt HBw.out
    cases hh:goesW L jj with
    | true=>
     rw [hgo,Bool.and_eq_true] at hh
     obtain ⟨hh1,hh2⟩:=hh
     have hkI:¬ ((wdAt L jj).kind:Int)=1:=by
      have:(wdAt L jj).kind ≠ 1:=by simpa using hh1
      omega
     have hany:(([[47],[41],[59],[60,45],[42],[43],[63]]:List (List UInt8)).any fun s=>hereW L jj s)=false:=by simpa using hh2
     rw [hany] at hhl
     have hgt:goesW L jj=true:=by rw [hgo,hh1,hh2];rfl
     simp only [prs,hgt,if_true] at heq
     have hj1:=HR.out.lt
     clear hgt hh1 hh2 hany hgo
     cases hq:prs L f2 .item [] jj d with
     | none=>rw [hq] at heq;cases heq
     | some r2=>
      rw [hq] at heq
      have HX:Hid (∀ x,RdW L wr.heap.size gr jj d x->Calls Tryz.prog 158 #[.pointer (some ⟨gr,0,none⟩)] x fun e w'=>PrP L wr.heap.size gr d r2 x e w'):=fun x hx=>HSs.out f2 (by have:=HR.out.le;omega) _ _ _ x _ hq hx hj1 HD.out
      have HH:=Lib.hid hhl
      have HEQ:=Lib.hid heq
      have HBD:=Lib.hid (fun q k (h:r2=.ok q k)=>prs_bd HWs.out f2 .item [] jj d q k hj1 (by rw [hq,h]))
      have HWD:=Lib.hid hwd
      clear hhl heq hq hj1 hwd
      go_wp2_with fail
      refine HWD.out.mono ?_
      rintro e x0 ⟨rfl,hb0⟩
      have HH0:=Lib.hid (HH.out x0 hb0);have HB0:=Lib.hid hb0
      clear HH HWD hb0
      go_wp2_with fail
      refine HH0.out.mono ?_
      rintro e x2 ⟨rfl,hb2⟩
      have HB2:=Lib.hid (HB0.out.trans (hb2.mono HB0.out.size))
      have HF2:=Lib.hid (Fr.of_below (F:=fun k=>k=gr) HB2.out)
      have HX2:=Lib.hid (HX.out x2 ((HR.out.rd.below HB2.out).base (Nat.lt_of_lt_of_le HGL.out HR.out.fr.size) HB2.out.size))
      clear HX HH0 HB0 hb2 HB2
      cases r2 with
      | err c a=>
       have HEQ2:Hid (r=.err c a):=by unfold Hid;have:=HEQ.out;simpa using this.symm
       have he2:=HEQ2.out
       subst he2
       clear HEQ HEQ2
       go_wp2_with fail
       refine HX2.out.mono ?_
       rintro e x3 ⟨rfl,hf3⟩
       have HF3:=Lib.hid (HR.out.fr.trans (HF2.out.trans hf3 (fun _ _ h=>h)) (fun _ _ h=>h))
       clear hf3 HF2 HX2 HR
       unfold badE
       go_wp2_with fail
       exact ⟨rfl,rfl,HF3.out⟩
      | ok q k=>
       have HE2:=Lib.hid (show prs L f2 .seqM (acc ++ [q]) k d=some r from HEQ.out)
       obtain ⟨k1,k2,k3⟩:=HBD.out q k rfl
       have HK:=Lib.hid (And.intro k1 k3)
       clear HEQ HBD k1 k2 k3
       go_wp2_with fail
       refine HX2.out.mono ?_
       rintro e x3 ⟨b3,rfl,hp3,hr3,hf3⟩
       have HF3:=Lib.hid (HF2.out.trans hf3 (fun _ _ h=>h))
       have HO3:=Lib.hid (owns_fr HR.out.own HF3.out (fun q hq e=>by have:=(HR.out.own.lt q hq).1;have:=HGL.out;omega))
       have HP3:=Lib.hid hp3;have HR3:=Lib.hid (hr3.base HR.out.rd.lt (Nat.le_trans HR.out.rd.le HF3.out.size))
       have HS3:Hid (w.heap.size<=x3.heap.size):=Nat.le_trans HR.out.fr.size HF3.out.size
       have HN:Hid (acc.length<=1000000):=by have:=HR.out.bd;have:=HR.out.lt;have:=HL.out;unfold Hid;omega
       clear hp3 hr3 hf3 HF2 HX2
       unfold ptr
       go_wp2_with (refine app_part rfl (.tmp 21) (.tmp 24) rfl w.heap.size u3 acc.length (bs.map ptr) rfl HO3.out b3 rfl HN.out HS3.out ?_;intro v' w' ho hg hb;have HM:=Lib.hid (AltI.more HR.out HBw.out HE2.out (Nat.le_succ f2) HK.out.2 HK.out.1 HF3.out HR3.out HP3.out ho hg hb);clear ho hg hb)
       go_roundw
       case rel=>exact ⟨_,_,_,_,HM.out⟩
       case measure=>
        have h1:=HM.out.rd.pos;have h2:=HR.out.rd.pos;have h3:=HK.out;have h4:=HR.out.lt
        rw [h1,h2];omega
    | false=>
     simp only [prs,hh,Bool.false_eq_true,if_false,Option.some.injEq] at heq
     subst heq
     obtain ⟨ao,cap,rfl,hsv⟩:=Sv.of_owns HR.out.own
     have HH:=Lib.hid hhl
     have HG:=Lib.hid (fun x (hx:Below wr.heap.size wr x)=>group_any B 6 ao cap acc bs x (hsv.below hx) (PtsW.fr (G:=fun _=>False) (Fr.of_below hx) (fun _ _=>id) (fun _ h=>h.1) _ _ HR.out.pts) (fun a ha=>by subst ha;exact Nat.le_trans HBw.out (HR.out.own.lt a.block rfl).1) (Nat.le_trans HR.out.rd.le hx.size) HR.out.ne)
     have HWD:=Lib.hid hwd
     clear hhl hsv hwd
     rw [hgo] at hh
     by_cases hk:(wdAt L jj).kind=1
     ·have hkI:((wdAt L jj).kind:Int)=1:=by rw [hk];rfl
      clear hk hh hgo HH
      go_wp2_with fail
      refine HWD.out.mono ?_
      rintro e x1 ⟨rfl,hb1⟩
      have HG1:=Lib.hid (HG.out x1 hb1);have HB1:=Lib.hid hb1
      clear HWD HG hb1
      go_wp2_with fail
      refine HG1.out.mono ?_
      rintro e x2 ⟨b',rfl,hp',hb2⟩
      have HP:=Lib.hid hp';have HB2:=Lib.hid (HB1.out.trans (hb2.mono HB1.out.size))
      clear hp' hb2 HG1 HB1
      unfold ptr
      go_wp2_with fail
      go_ret
      exact ⟨b',rfl,HP.out,HR.out.rd.below HB2.out,HR.out.fr.trans (Fr.of_below HB2.out) (fun _ _ h=>h)⟩
     ·have hkI:¬ ((wdAt L jj).kind:Int)=1:=by omega
      have hany:(([[47],[41],[59],[60,45],[42],[43],[63]]:List (List UInt8)).any fun s=>hereW L jj s)=true:=by
       have h1:((wdAt L jj).kind != 1)=true:=by simpa using hk
       rw [h1,Bool.true_and] at hh
       revert hh
       generalize (([[47],[41],[59],[60,45],[42],[43],[63]]:List (List UInt8)).any fun s=>hereW L jj s)=y
       cases y <;> simp
      rw [hany] at HH
      clear hk hh hgo hany
      go_wp2_with fail
      refine HWD.out.mono ?_
      rintro e x0 ⟨rfl,hb0⟩
      have HH0:=Lib.hid (HH.out x0 hb0);have HB0:=Lib.hid hb0
      clear HWD HH hb0
      go_wp2_with fail
      refine HH0.out.mono ?_
      rintro e x1 ⟨rfl,hb1⟩
      have HB1:=Lib.hid (HB0.out.trans (hb1.mono HB0.out.size))
      have HG1:=Lib.hid (HG.out x1 HB1.out)
      clear HH0 HB0 HG hb1
      go_wp2_with fail
      refine HG1.out.mono ?_
      rintro e x2 ⟨b',rfl,hp',hb2⟩
      have HP:=Lib.hid hp';have HB2:=Lib.hid (HB1.out.trans (hb2.mono HB1.out.size))
      clear hp' hb2 HG1 HB1
      unfold ptr
      go_wp2_with fail
      go_ret
      exact ⟨b',rfl,HP.out,HR.out.rd.below HB2.out,HR.out.fr.trans (Fr.of_below HB2.out) (fun _ _ h=>h)⟩
end Go.Proofs.YtgjhepblpdnkcaaGreatDoor
namespace Go.Proofs.YtgjhepblpdnkcaaGreatDoor
open Go.RowKit
set_option maxRecDepth 100000
set_option maxHeartbeats 8000000

theorem tx_beq (t s:List UInt8):((tx t).toList == (tx s).toList)=decide (t=s):=by
 rw [ba_beq]
 by_cases h:t=s
 ·subst h;simp
 ·have:tx t ≠ tx s:=fun e=>h (tx_inj e)
  simp [h,this]
theorem dot_list:(⟨#[46]⟩:ByteArray).toList=[46]:=by rw [ba_toList]
theorem sgn_dot (B gr:Nat) (x:Wd) (w:World) (hB:B<=w.heap.size) (hx:x.tx=[46]):
  Calls Tryz.prog 209 #[ptr gr,.agg (wdD x)] w fun e w'=>LeafP B (.mk 2 [] [] 0 x.at_ [] []) w e w':=by
 have hb:=(Below.refl _ w).alloc (Nat.le_refl _) (.cells (wdD x) 82)
 have HP:=Lib.hid (ptW_leaf B 2 [] [] 0 x.at_ [] (w.alloc (.cells (wdD x) 82)) (Nat.le_trans hB hb.size))
 have HR:=Lib.hid (hrow.new w (wdD x) 82)
 have HB:=Lib.hid hb;clear hb hB
 have hq:((tx x.tx).toList == [46])=true:=by rw [← dot_list];exact (tx_beq x.tx [46]).trans (by rw [hx];rfl)
 clear hx
 unfold LeafP ptr wdD wdA at *
 go_enter Tryz.func209,Tryz.ntmps209
 go_upto_region 1 with (fail)
 revert HP HR HB
 generalize w.alloc (.cells #[.int .i64 x.kind,.int .i64 x.at_,.int .i64 x.nx,.string (tx x.tx),.int .i64 x.lv,.int .u64 (clsW x.cl 0),.int .u64 (clsW x.cl 1),.int .u64 (clsW x.cl 2),.int .u64 (clsW x.cl 3)] 82)=w1
 intro HP HR HB
 obtain ⟨c0,c1,c2,c3,c4,c5,c6,c7,c8⟩:=HR.out.c9
 go_wp2_with fail
 go_ret
 exact ⟨_,rfl,HP.out,HB.out.alloc HB.out.size _⟩
theorem sgn_empty (L:List Wd) (B gr i d:Nat) (x:Wd) (w:World) (h:RdW L B gr i d w) (hi:i < L.length) (hL:L.length<=100000) (hx:x.tx ≠ [46]) (hh:hereW L i [41]=true):
  Calls Tryz.prog 209 #[ptr gr,.agg (wdD x)] w fun e w'=>PrP L B gr d (.ok (.mk 1 [] [] 0 x.at_ [] []) (i+1)) w e w':=by
 have hb:=(Below.refl _ w).alloc (Nat.le_refl _) (.cells (wdD x) 82)
 have hhl:=here_lit L B gr i d _ (h.below hb) hi [[41]] 1 #[.string ⟨#[41]⟩] rfl rfl (by decide)
 simp only [List.any_cons,List.any_nil,Bool.or_false,hh] at hhl
 have HH:=Lib.hid hhl
 have HT:=Lib.hid (fun y (hy:Below (w.alloc (.cells (wdD x) 82)).heap.size (w.alloc (.cells (wdD x) 82)) y)=>take_any L B gr i d y ((h.below hb).below hy) hi hL)
 have HR:=Lib.hid (hrow.new w (wdD x) 82)
 have HB:=Lib.hid hb
 have HGR:Hid (gr < B/\B<=w.heap.size):=⟨h.lt,h.le⟩
 have hq:((tx x.tx).toList == [46])=false:=by rw [← dot_list];exact (tx_beq x.tx [46]).trans (by simpa using hx)
 clear hx hh hhl h hi hL hb
 unfold PrP
 unfold ptr wdD wdA at *
 go_enter Tryz.func209,Tryz.ntmps209
 go_upto_region 1 with (fail)
 revert HH HT HR HB
 generalize w.alloc (.cells #[.int .i64 x.kind,.int .i64 x.at_,.int .i64 x.nx,.string (tx x.tx),.int .i64 x.lv,.int .u64 (clsW x.cl 0),.int .u64 (clsW x.cl 1),.int .u64 (clsW x.cl 2),.int .u64 (clsW x.cl 3)] 82)=w1
 intro HH HT HR HB
 obtain ⟨c0,c1,c2,c3,c4,c5,c6,c7,c8⟩:=HR.out.c9
 go_wp2_with fail
 refine HH.out.mono ?_
 rintro e w2 ⟨rfl,hb2⟩
 have HT2:=Lib.hid (HT.out w2 hb2)
 have HB2:=Lib.hid hb2
 clear c0 c1 c2 c3 c4 c5 c6 c7 c8 HH HT hb2
 go_wp2_with fail
 refine HT2.out.mono ?_
 rintro e w3 ⟨rfl,hr3,hf3⟩
 have HR3:=Lib.hid hr3
 have HF3:=Lib.hid ((Fr.of_below (F:=fun k=>k=gr) HB2.out).trans hf3 (fun _ _ h=>h))
 have HRW:=Lib.hid (HR.out.fr HF3.out (fun e=>by have:=HGR.out;omega))
 obtain ⟨c0,c1,c2,c3,c4,c5,c6,c7,c8⟩:=HRW.out.c9
 have HF:=Lib.hid ((Fr.of_below (F:=fun k=>k=gr) HB.out).trans HF3.out (fun _ _ h=>h))
 have HP:=Lib.hid (ptW_leaf B 1 [] [] 0 x.at_ [] w3 (Nat.le_trans HGR.out.2 HF.out.size))
 clear hr3 hf3 HT2
 go_wp2_with fail
 go_ret
 have hb4:=(Below.refl _ w3).alloc (Nat.le_refl _) (.cells (ptC 1 [] [] 0 x.at_ [] none 0 0) 187)
 exact ⟨_,rfl,HP.out,HR3.out.below hb4,HF.out.trans (Fr.of_below hb4) (fun _ _ h=>h)⟩
end Go.Proofs.YtgjhepblpdnkcaaGreatDoor
namespace Go.Proofs.YtgjhepblpdnkcaaGreatDoor
open Go.RowKit
set_option maxRecDepth 100000
set_option maxHeartbeats 8000000

/-- What comes of brackets. -/
def shutR (L:List Wd):Rs Pt->Rs Pt
 | .ok p j=>if hereW L j [41] then .ok p (j+1) else .err 7 (wdAt L j).at_
 | .err c a=>.err c a
theorem sgn_open (L:List Wd) (B gr i d f:Nat) (x:Wd) (w:World) (hW:WsOk L) (h:RdW L B gr i d w) (hi:i < L.length) (hL:L.length<=100000) (hx:x.tx ≠ [46]) (hh:hereW L i [41]=false) (hd:d < 500)
  (HA:PrC L gr 78 .alt f) (r2:Rs Pt) (hq:prs L f .alt [] i (d+1)=some r2):
  Calls Tryz.prog 209 #[ptr gr,.agg (wdD x)] w fun e w'=>PrP L B gr d (shutR L r2) w e w':=by
 have hb:=(Below.refl _ w).alloc (Nat.le_refl _) (.cells (wdD x) 82)
 have hhl:=here_lit L B gr i d _ (h.below hb) hi [[41]] 1 #[.string ⟨#[41]⟩] rfl rfl (by decide)
 simp only [List.any_cons,List.any_nil,Bool.or_false,hh] at hhl
 have HH:=Lib.hid hhl
 have HRD:=Lib.hid (h.below hb)
 have HR:=Lib.hid (hrow.new w (wdD x) 82)
 have HB:=Lib.hid hb
 have HGR:Hid (gr < B/\B<=w.heap.size):=⟨h.lt,h.le⟩
 have hqd:((tx x.tx).toList == [46])=false:=by rw [← dot_list];exact (tx_beq x.tx [46]).trans (by simpa using hx)
 have HAx:=Lib.hid (fun y (hy:RdW L B gr i ((d+1:Nat):Int) y)=>HA B i (d+1) y r2 hq hy hi (by omega))
 have HBD:=Lib.hid (fun q k (e:r2=.ok q k)=>prs_bd hW f .alt [] i (d+1) q k hi (by rw [hq,e]))
 have HL:=Lib.hid hL;have HD:=Lib.hid hd
 clear hx hh hhl h hi hL hb hq HA hd hW
 unfold ptr wdD wdA at *
 go_enter Tryz.func209,Tryz.ntmps209
 go_upto_region 1 with (fail)
 revert HH HRD HR HB
 generalize w.alloc (.cells #[.int .i64 x.kind,.int .i64 x.at_,.int .i64 x.nx,.string (tx x.tx),.int .i64 x.lv,.int .u64 (clsW x.cl 0),.int .u64 (clsW x.cl 1),.int .u64 (clsW x.cl 2),.int .u64 (clsW x.cl 3)] 82)=w1
 intro HH HRD HR HB
 obtain ⟨c0,c1,c2,c3,c4,c5,c6,c7,c8⟩:=HR.out.c9
 go_wp2_with fail
 refine HH.out.mono ?_
 rintro e w2 ⟨rfl,hb2⟩
 have HB2:=Lib.hid hb2
 have HRD2:=Lib.hid (HRD.out.below hb2)
 clear c0 c1 c2 c3 c4 c5 c6 c7 c8 HH hb2 HRD HR
 obtain ⟨ao,cap,hr2,_,_⟩:=HRD2.out.row
 have HR2:=Lib.hid hr2
 obtain ⟨_,_,e2⟩:=hr2.c3
 obtain ⟨_,_,f2⟩:=hr2.f3
 clear hr2
 have hdI:(d:Int) < 500:=by have:=HD.out;omega
 go_wp2_with fail
 have hf3:=Fr.setCell w2 ⟨gr,2,none⟩ (.int .i64 ((d:Int)+1))
 have HRD3:Hid (RdW L B gr i ((d+1:Nat):Int) (w2.setCell ⟨gr,2,none⟩ (.int .i64 ((d:Int)+1)))):=HRD2.out.moved hf3 HR2.out (by have:=HR2.out.setCell 2 (.int .i64 ((d:Int)+1));simpa using this)
 have HF3:=Lib.hid ((Fr.of_below (F:=fun k=>k=gr) (HB.out.trans (HB2.out.mono HB.out.size))).trans hf3 (fun _ _ h=>h))
 have HA3:=Lib.hid (HAx.out _ HRD3.out)
 clear hf3 e2 f2 HAx HRD3 HR2 HRD2 HB2 HB
 revert HF3 HA3
 generalize w2.setCell ⟨gr,2,none⟩ (.int .i64 ((d:Int)+1))=w3
 intro HF3 HA3
 cases r2 with
 | err c a=>
  refine HA3.out.mono ?_
  rintro e w4 ⟨rfl,hf4⟩
  have HF4:=Lib.hid (HF3.out.trans hf4 (fun _ _ h=>h))
  clear hf4 HA3 HF3
  unfold badE
  go_wp2_with fail
  exact ⟨rfl,rfl,HF4.out⟩
 | ok p j=>
  obtain ⟨k1,k2,_⟩:=HBD.out p j rfl
  refine HA3.out.mono ?_
  rintro e w4 ⟨b,rfl,hp4,hr4,hf4⟩
  have HF4:=Lib.hid (HF3.out.trans hf4 (fun _ _ h=>h))
  have HP4:=Lib.hid hp4;have HR4:=Lib.hid hr4;have HK:=Lib.hid k1
  clear hp4 hr4 hf4 HA3 HF3 HBD k1 k2
  obtain ⟨ao',cap',hr5,_,_⟩:=HR4.out.row
  have HR5:=Lib.hid hr5
  obtain ⟨_,_,e4⟩:=hr5.c3
  obtain ⟨_,_,f4⟩:=hr5.f3
  clear hr5
  have hdc:((d+1:Nat):Int)=(d:Int)+1:=by omega
  rw [hdc] at e4
  unfold ptr
  go_wp2_with fail
  have hf5:=Fr.setCell w4 ⟨gr,2,none⟩ (.int .i64 (d:Int))
  have HRD5:Hid (RdW L B gr j d (w4.setCell ⟨gr,2,none⟩ (.int .i64 (d:Int)))):=HR4.out.moved hf5 HR5.out (by have:=HR5.out.setCell 2 (.int .i64 (d:Int));simpa using this)
  have HP5:=Lib.hid (PtW.fr hf5 (fun k hk e=>by have hk':B<=k:=hk;have e':k=gr:=e;have:=HGR.out.1;omega) (fun _ h=>h) p b HP4.out)
  have HF5:=Lib.hid (HF4.out.trans hf5 (fun _ _ h=>h))
  have HW5:=Lib.hid (want_any L B gr j d _ HRD5.out HK.out HL.out [41])
  clear hf5 e4 f4 HR5 HP4 HR4 HF4 hdc HRD5
  unfold ptr at HW5
  revert HP5 HF5 HW5
  generalize w4.setCell ⟨gr,2,none⟩ (.int .i64 (d:Int))=w5
  intro HP5 HF5 HW5
  refine HW5.out.mono ?_
  unfold WantP
  cases hh:hereW L j [41] with
  | true=>
   simp only [if_true]
   rintro e w6 ⟨rfl,hr6,hf6⟩
   have HR6:=Lib.hid hr6
   have HP6:=Lib.hid (PtW.fr hf6 (fun k hk e=>by have hk':B<=k:=hk;have e':k=gr:=e;have:=HGR.out.1;omega) (fun _ h=>h) p b HP5.out)
   have HF6:=Lib.hid (HF5.out.trans hf6 (fun _ _ h=>h))
   have HS:Hid (shutR L (.ok p j)=.ok p (j+1)):=by unfold Hid shutR;simp only [hh,if_true]
   clear hr6 hf6 HW5 HP5 HF5 hh
   go_wp2_with fail
   go_ret
   rw [HS.out]
   exact ⟨b,rfl,HP6.out,HR6.out,HF6.out⟩
  | false=>
   simp only [Bool.false_eq_true,if_false]
   rintro e w6 ⟨rfl,hf6⟩
   have HF6:=Lib.hid (HF5.out.trans hf6 (fun _ _ h=>h))
   have HS:Hid (shutR L (.ok p j)=.err 7 (wdAt L j).at_):=by unfold Hid shutR;simp only [hh,Bool.false_eq_true,if_false]
   clear hf6 HW5 HP5 HF5 hh
   unfold badE
   go_wp2_with fail
   refine ⟨rfl,?_⟩
   rw [HS.out]
   exact ⟨rfl,HF6.out⟩
end Go.Proofs.YtgjhepblpdnkcaaGreatDoor
namespace Go.Proofs.YtgjhepblpdnkcaaGreatDoor

theorem here_not {L:List Wd} {i:Nat} (s:List UInt8) (h:(wdAt L i).kind ≠ 5):hereW L i s=false:=by
 unfold hereW
 rw [show ((wdAt L i).kind == 5)=false from by simpa using h];rfl
theorem here_sign {L:List Wd} {i:Nat} (s:List UInt8) (h:(wdAt L i).kind=5):hereW L i s=((wdAt L i).tx == s):=by
 unfold hereW
 rw [h];rfl
theorem szL_app:∀ (a b:List Pt),szL (a ++ b)=szL a+szL b
 | [],b=>by simp [szL]
 | p :: a,b=>by
  show szL (p :: (a ++ b))=_
  simp only [szL]
  rw [szL_app a b];omega
theorem szL_one (p:Pt):szL [p]=p.sz:=by simp [szL]
theorem grp_sz {k:Nat} {l:List Pt} (h:l ≠ []):(grp k l).sz+1<=szL l+l.length:=by
 match l,h with
 | [p],_=>simp [grp,szL_one]
 | p :: q :: r,_=>
  show (Pt.mk _ _ _ _ _ _ _).sz+1<=_
  simp only [Pt.sz,List.length_cons]
  omega
theorem ovr_sz (k a:Nat) (p:Pt):(ovr k a p).sz=p.sz+1:=by
 unfold ovr
 simp only [Pt.sz,szL];omega
theorem suf_sz {L:List Wd}:∀ (f:Nat) (p:Pt) (i:Nat),(sufF L f p i).1.sz+i=p.sz+(sufF L f p i).2
 | 0,p,i=>rfl
 | f+1,p,i=>by
  unfold sufF
  split
  ·have:=suf_sz (L:=L) f (ovr 8 (wdAt L i).at_ p) (i+1);rw [ovr_sz] at this;omega
  ·split
   ·have:=suf_sz (L:=L) f (ovr 9 (wdAt L i).at_ p) (i+1);rw [ovr_sz] at this;omega
   ·split
    ·have:=suf_sz (L:=L) f (ovr 10 (wdAt L i).at_ p) (i+1);rw [ovr_sz] at this;omega
    ·rfl
/-- A part has fewer nodes than twice its words. -/
theorem prs_sz {L:List Wd} (h:WsOk L):∀ (f:Nat) (m:Md) (acc:List Pt) (i d:Nat) (p:Pt) (j:Nat),i < L.length->(match m with | .altM=>acc ≠ [] | .seqM=>acc ≠ [] | _=>True)->prs L f m acc i d=some (.ok p j)->
  p.sz+1+2 * i<=2 * j+(match m with | .altM=>szL acc+acc.length | .seqM=>szL acc+acc.length | _=>0)
 | 0,m,acc,i,d,p,j,hi,ha,e=>by simp [prs] at e
 | f+1,.alt,acc,i,d,p,j,hi,ha,e=>by
  simp only [prs] at e
  cases hq:prs L f .seq [] i d with
  | none=>rw [hq] at e;cases e
  | some r=>
   rw [hq] at e
   cases r with
   | err a b=>cases e
   | ok q k=>
    simp only [] at e
    obtain ⟨h1,h2,h3⟩:=prs_bd h f .seq [] i d q k hi hq
    have g1:=prs_sz h f .seq [] i d q k hi trivial hq
    have g2:=prs_sz h f .altM [q] k d p j h1 (by simp) e
    simp only [szL_one,List.length_cons,List.length_nil] at g1 g2 ⊢
    omega
 | f+1,.altM,acc,i,d,p,j,hi,ha,e=>by
  simp only [prs] at e
  by_cases hh:hereW L i [47]=true
  ·rw [if_pos hh] at e
   cases hq:prs L f .seq [] (i+1) d with
   | none=>rw [hq] at e;cases e
   | some r=>
    rw [hq] at e
    cases r with
    | err a b=>cases e
    | ok q k=>
     simp only [] at e
     obtain ⟨h1,h2,h3⟩:=prs_bd h f .seq [] (i+1) d q k (h.after hi hh) hq
     have g1:=prs_sz h f .seq [] (i+1) d q k (h.after hi hh) trivial hq
     have g2:=prs_sz h f .altM (acc ++ [q]) k d p j h1 (by simp) e
     simp only [szL_app,szL_one,List.length_append,List.length_cons,List.length_nil] at g1 g2 ⊢
     omega
  ·rw [if_neg hh] at e
   simp only [Option.some.injEq,Rs.ok.injEq] at e
   obtain ⟨rfl,rfl⟩:=e
   have:=grp_sz (k:=7) ha
   simp only []
   omega
 | f+1,.seq,acc,i,d,p,j,hi,ha,e=>by
  simp only [prs] at e
  cases hq:prs L f .item [] i d with
  | none=>rw [hq] at e;cases e
  | some r=>
   rw [hq] at e
   cases r with
   | err a b=>cases e
   | ok q k=>
    simp only [] at e
    obtain ⟨h1,h2,h3⟩:=prs_bd h f .item [] i d q k hi hq
    have g1:=prs_sz h f .item [] i d q k hi trivial hq
    have g2:=prs_sz h f .seqM [q] k d p j h1 (by simp) e
    simp only [szL_one,List.length_cons,List.length_nil] at g1 g2 ⊢
    omega
 | f+1,.seqM,acc,i,d,p,j,hi,ha,e=>by
  simp only [prs] at e
  by_cases hh:goesW L i=true
  ·rw [if_pos hh] at e
   cases hq:prs L f .item [] i d with
   | none=>rw [hq] at e;cases e
   | some r=>
    rw [hq] at e
    cases r with
    | err a b=>cases e
    | ok q k=>
     simp only [] at e
     obtain ⟨h1,h2,h3⟩:=prs_bd h f .item [] i d q k hi hq
     have g1:=prs_sz h f .item [] i d q k hi trivial hq
     have g2:=prs_sz h f .seqM (acc ++ [q]) k d p j h1 (by simp) e
     simp only [szL_app,szL_one,List.length_append,List.length_cons,List.length_nil] at g1 g2 ⊢
     omega
  ·rw [if_neg hh] at e
   simp only [Option.some.injEq,Rs.ok.injEq] at e
   obtain ⟨rfl,rfl⟩:=e
   have:=grp_sz (k:=6) ha
   simp only []
   omega
 | f+1,.item,acc,i,d,p,j,hi,ha,e=>by
  simp only [prs] at e
  by_cases hh:hereW L i [33]=true
  ·rw [if_pos hh] at e
   cases hq:prs L f .item [] (i+1) d with
   | none=>rw [hq] at e;cases e
   | some r=>
    rw [hq] at e
    cases r with
    | err a b=>cases e
    | ok q k=>
     simp only [Option.some.injEq,Rs.ok.injEq] at e
     obtain ⟨rfl,rfl⟩:=e
     have g1:=prs_sz h f .item [] (i+1) d q k (h.after hi hh) trivial hq
     simp only [ovr_sz] at g1 ⊢
     omega
  ·rw [if_neg hh] at e
   by_cases hh2:hereW L i [38]=true
   ·rw [if_pos hh2] at e
    cases hq:prs L f .item [] (i+1) d with
    | none=>rw [hq] at e;cases e
    | some r=>
     rw [hq] at e
     cases r with
     | err a b=>cases e
     | ok q k=>
      simp only [Option.some.injEq,Rs.ok.injEq] at e
      obtain ⟨rfl,rfl⟩:=e
      have g1:=prs_sz h f .item [] (i+1) d q k (h.after hi hh2) trivial hq
      simp only [ovr_sz] at g1 ⊢
      omega
   ·rw [if_neg hh2] at e
    cases hq:prs L f .prim [] i d with
    | none=>rw [hq] at e;cases e
    | some r=>
     rw [hq] at e
     cases r with
     | err a b=>cases e
     | ok q k=>
      simp only [Option.some.injEq,Rs.ok.injEq] at e
      obtain ⟨rfl,rfl⟩:=e
      have g1:=prs_sz h f .prim [] i d q k hi trivial hq
      have g2:=suf_sz (L:=L) L.length q k
      obtain ⟨b1,b2,b3⟩:=prs_bd h f .prim [] i d q k hi hq
      have g3:=(sufF_le h L.length q k b1).1
      simp only [] at g1 ⊢
      omega
 | f+1,.prim,acc,i,d,p,j,hi,ha,e=>by
  simp only [prs] at e
  have one:∀ (k:Nat) (cl:List (UInt8×UInt8)) (t:List UInt8) (lv:Int) (a:Nat) (nm:List UInt8),(Pt.mk k cl t lv a nm []).sz=1:=fun k cl t lv a nm=>by simp [Pt.sz,szL]
  split at e
  ·simp only [Option.some.injEq,Rs.ok.injEq] at e;obtain ⟨rfl,rfl⟩:=e;simp only [one];omega
  split at e
  ·simp only [Option.some.injEq,Rs.ok.injEq] at e;obtain ⟨rfl,rfl⟩:=e;simp only [one];omega
  split at e
  ·simp only [Option.some.injEq,Rs.ok.injEq] at e;obtain ⟨rfl,rfl⟩:=e;simp only [one];omega
  split at e
  ·simp only [Option.some.injEq,Rs.ok.injEq] at e;obtain ⟨rfl,rfl⟩:=e;simp only [one];omega
  split at e
  ·rename_i hh
   split at e
   ·cases e
   ·split at e
    ·simp only [Option.some.injEq,Rs.ok.injEq] at e;obtain ⟨rfl,rfl⟩:=e;simp only [one];omega
    ·cases hq:prs L f .alt [] (i+1) (d+1) with
     | none=>rw [hq] at e;cases e
     | some r=>
      rw [hq] at e
      cases r with
      | err a b=>cases e
      | ok q k=>
       simp only [] at e
       have g1:=prs_sz h f .alt [] (i+1) (d+1) q k (h.after hi hh) trivial hq
       split at e
       ·simp only [Option.some.injEq,Rs.ok.injEq] at e
        obtain ⟨rfl,rfl⟩:=e
        simp only [] at g1 ⊢
        omega
       ·cases e
  ·cases e
end Go.Proofs.YtgjhepblpdnkcaaGreatDoor
namespace Go.Proofs.YtgjhepblpdnkcaaGreatDoor

/-- Kids stand behind their node, and there are such nodes. -/
def KidsUp (N:List Rn):Prop:=∀ n (h:n < N.length),∀ k ∈ N[n].kids,n < k/\k < N.length
theorem kidsAt_in:∀ (n:Nat) (ks:List Pt) (k:Nat),k ∈ kidsAt n ks->n<=k/\k < n+szL ks
 | n,[],k,h=>by simp [kidsAt] at h
 | n,p :: ks,k,h=>by
  simp only [kidsAt,List.mem_cons] at h
  have:=sz_pos p
  rcases h with rfl | h
  ·simp only [szL];omega
  ·have:=kidsAt_in (n+p.sz) ks k h;simp only [szL];omega
mutual
theorem flat_up:∀ (n:Nat) (p:Pt) (m:Nat) (h:m < (flat n p).length),∀ k ∈ (flat n p)[m].kids,n+m < k/\k < n+p.sz
 | n,.mk kd cl t lv a nm ks,m,h,k,hk=>by
  cases m with
  | zero=>
   have h1:k ∈ kidsAt (n+1) ks:=by simpa [flat] using hk
   have:=kidsAt_in (n+1) ks k h1
   simp only [Pt.sz];omega
  | succ m=>
   have h1:m < (flatL (n+1) ks).length:=by simpa [flat] using h
   have h2:k ∈ (flatL (n+1) ks)[m].kids:=by simpa [flat] using hk
   have:=flatL_up (n+1) ks m h1 k h2
   simp only [Pt.sz];omega
theorem flatL_up:∀ (n:Nat) (ks:List Pt) (m:Nat) (h:m < (flatL n ks).length),∀ k ∈ (flatL n ks)[m].kids,n+m < k/\k < n+szL ks
 | n,[],m,h,k,hk=>by simp [flatL] at h
 | n,p :: ks,m,h,k,hk=>by
  simp only [flatL] at h hk
  have hl:=flat_len n p
  rcases Nat.lt_or_ge m (flat n p).length with h1 | h1
  ·rw [List.getElem_append_left h1] at hk
   have:=flat_up n p m h1 k hk
   simp only [szL];omega
  ·rw [List.getElem_append_right h1] at hk
   have:=flatL_up (n+p.sz) ks (m - (flat n p).length) (by rw [List.length_append] at h;omega) k hk
   simp only [szL];omega
end
theorem treeF_up:∀ (n:Nat) (l:List (Wd×Pt)) (m:Nat) (h:m < (treeF n l).2.length),∀ k ∈ (treeF n l).2[m].kids,n+m < k/\k < n+(treeF n l).2.length
 | n,[],m,h,k,hk=>by simp [treeF] at h
 | n,(w,p) :: l,m,h,k,hk=>by
  simp only [treeF] at h hk ⊢
  have hl:=flat_len n p
  rw [List.length_append] at h ⊢
  rcases Nat.lt_or_ge m (flat n p).length with h1 | h1
  ·rw [List.getElem_append_left h1] at hk
   have:=flat_up n p m h1 k hk
   omega
  ·rw [List.getElem_append_right h1] at hk
   have:=treeF_up (n+p.sz) l (m - (flat n p).length) (by omega) k hk
   omega
theorem treeF_body:∀ (n:Nat) (l:List (Wd×Pt)),∀ r ∈ (treeF n l).1,n<=r.body/\r.body < n+(treeF n l).2.length
 | n,[],r,h=>by simp [treeF] at h
 | n,(w,p) :: l,r,h=>by
  simp only [treeF,List.mem_cons,List.length_append] at h ⊢
  have:=flat_len n p
  have:=sz_pos p
  rcases h with rfl | h
  ·simp only [];omega
  ·have:=treeF_body (n+p.sz) l r h;omega
theorem tree_up (l:List (Wd×Pt)):KidsUp (treeF 0 l).2:=fun n h k hk=>by
 have:=treeF_up 0 l n h k hk;omega

/-! ### Heights -/
def hgt (N:List Rn):Nat->Nat->Nat
 | 0,_=>1
 | f+1,n=>((N.getD n ⟨0,[],[],0,[],0,[]⟩).kids.map (hgt N f)).foldl max 0+1
/-- A node's height. -/
def hg (N:List Rn) (n:Nat):Nat:=hgt N N.length n
end Go.Proofs.YtgjhepblpdnkcaaGreatDoor
