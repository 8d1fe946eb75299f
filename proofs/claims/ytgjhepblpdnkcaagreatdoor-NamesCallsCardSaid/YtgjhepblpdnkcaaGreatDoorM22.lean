/- Walks and plain laws: Ld Le Lf. -/
import Derived.Test.YtgjhepblpdnkcaaGreatDoorM21
import Derived.Defers
import Derived.Recover
import Derived.BigRegion
namespace Go.Proofs.YtgjhepblpdnkcaaGreatDoor
open Go.RowKit
set_option maxRecDepth 100000
set_option maxHeartbeats 8000000

theorem put_size:∀ (m:Nat) (p:Pt),p.sz<=m->PutC p
 | 0,p,h=>by have:=sz_pos p;omega
 | m+1,.mk k cl t lv a nm ks,h=>put_walk k cl t lv a nm ks (fun q hq=>put_size m q (by
   obtain ⟨i,hi,rfl⟩:=List.mem_iff_getElem.1 hq
   have:=szL_take ks i hi
   unfold Pt.sz at h;omega))
theorem putT_any (p:Pt):PutC p:=put_size p.sz p (Nat.le_refl _)
theorem treeF_snoc:∀ (n:Nat) (l:List (Wd×Pt)) (w:Wd) (p:Pt),treeF n (l ++ [(w,p)])=((treeF n l).1 ++ [⟨w.tx,n+(treeF n l).2.length,w.at_⟩],(treeF n l).2 ++ flat (n+(treeF n l).2.length) p)
 | n,[],w,p=>by simp [treeF]
 | n,(v,q) :: l,w,p=>by
  have ih:=treeF_snoc (n+q.sz) l w p
  have hl:=flat_len n q
  show treeF n ((v,q) :: (l ++ [(w,p)]))=_
  simp only [treeF,ih,List.length_append,hl,List.cons_append,List.append_assoc]
  rw [show n+q.sz+(treeF (n+q.sz) l).2.length=n+(q.sz+(treeF (n+q.sz) l).2.length) by omega]
/-- The reader lies apart from the tree's blocks. -/
def Ap (τ:Nat->Nat) (gr gt:Nat):Prop:=gt < gr/\∀ k,k<=gr->k ≠ gt->τ k=0
theorem RdW.frT {L:List Wd} {B gr i gt:Nat} {d:Int} {τ:Nat->Nat} {w w':World} {a b c e f:Option Addr} {n1 n2 n3 n4 n5 c1 c2 c3 c4 c5:Nat} (h:RdW L B gr i d w) (hf:Fr (fun k=>τ k ≠ 0) w w') (hA:Ap τ gr gt) (hg:hrow w gt #[.slice a n1 c1,.slice b n2 c2,.slice c n3 c3,.slice e n4 c4,.slice f n5 c5] 29) (hL:0 < L.length):RdW L B gr i d w':=by
 obtain ⟨⟨ao,cap,h1,h2,h3⟩,h4,h5⟩:=h
 refine ⟨⟨ao,cap,h1.fr hf (fun e=>e (hA.2 gr (Nat.le_refl _) (Nat.ne_of_gt hA.1))),h2.fr hf (fun x hx _ e0=>?_),h3⟩,h4,Nat.le_trans h5 hf.size⟩
 by_cases hxg:x.block=gt
 ·obtain ⟨x',ex,hc⟩:=h2.at wdD_len (by decide) 0 hL
  rw [hx] at ex;cases ex
  have hc0:=hc 0 (.int .i64 L[0].kind) rfl
  have e1:((x.add (0 * 9)).add 0).block=gt:=by rw [add_block,add_block];exact hxg
  have e2:w.cell? ((x.add (0 * 9)).add 0)=some (.int .i64 L[0].kind):=hc0
  unfold World.cell? at e2
  rw [e1,hg.h] at e2
  generalize ((x.add (0 * 9)).add 0).off=o at e2
  match o with
  | 0=>simp at e2
  | 1=>simp at e2
  | 2=>simp at e2
  | 3=>simp at e2
  | 4=>simp at e2
  | o+5=>simp at e2
 ·exact e0 (hA.2 x.block (Nat.le_of_lt (h3 x hx)) hxg)
theorem TrW.slices {w:World} {gt:Nat} {τ:Nat->Nat} {R:List Rr} {N:List Rn} (h:TrW w gt τ R N):∃ (a b c e f:Option Addr) (n1 n2 n3 n4 n5 c1 c2 c3 c4 c5:Nat),hrow w gt #[.slice a n1 c1,.slice b n2 c2,.slice c n3 c3,.slice e n4 c4,.slice f n5 c5] 29:=by
 obtain ⟨⟨v1,v2,v3,v4,v5,NK,h1,h2,_⟩,_⟩:=h
 obtain ⟨a,c1,rfl,_⟩:=h2.t2.sv
 obtain ⟨b,c2,rfl,_⟩:=h2.t3.sv
 obtain ⟨c,c3,rfl,_⟩:=h2.t4.sv
 obtain ⟨e,c4,rfl,_⟩:=h2.t5.sv
 obtain ⟨f,c5,rfl,_⟩:=h2.t6.sv
 exact ⟨a,b,c,e,f,_,_,_,_,_,c1,c2,c3,c4,c5,h1⟩
theorem TrW.start2 {wr:World} {gt:Nat} {τ:Nat->Nat} {R0:List Rr} {N0:List Rn} (h:TrW wr gt τ R0 N0):
  ∃ (o1 o2 o3 o4 o5:Option Addr) (c1 c2 c3 c4 c5:Nat) (NK:List Nk),NK.length=N0.length/\NK.map (·.1)=N0.map Rn.nd/\
   PuI wr gt τ wr τ #[.slice o1 R0.length c1,.slice o2 N0.length c2,.slice o3 R0.length c3,.slice o4 N0.length c4,.slice o5 N0.length c5] (.slice o1 R0.length c1) (.slice o2 N0.length c2) (.slice o3 R0.length c3) (.slice o4 N0.length c4) (.slice o5 N0.length c5) (R0.map Rr.ru) NK NK (R0.map fun r=>(r.at_:Int)) (N0.map fun x=>(x.at_:Int)) (N0.map fun x=>tx x.nm):=by
 obtain ⟨⟨v1,v2,v3,v4,v5,NK,hg,hR,hNK⟩,htg⟩:=h
 have hl2:NK.length=N0.length:=by have:=congrArg List.length hNK;simpa using this
 obtain ⟨o1,c1,e1,_⟩:=hR.t2.sv
 obtain ⟨o2,c2,e2,_⟩:=hR.t3.sv
 obtain ⟨o3,c3,e3,_⟩:=hR.t4.sv
 obtain ⟨o4,c4,e4,_⟩:=hR.t5.sv
 obtain ⟨o5,c5,e5,_⟩:=hR.t6.sv
 simp only [List.length_map,hl2] at e1 e2 e3 e4 e5
 subst e1 e2 e3 e4 e5
 exact ⟨o1,o2,o3,o4,o5,c1,c2,c3,c4,c5,NK,hl2,hNK,hg,hR,htg,Fr.refl _ _,fun _ _=>rfl⟩
/-- What reading a rule does. -/
def RulP (L:List Wd) (gr gt:Nat) (τ:Nat->Nat) (R:List Rr) (N:List Rn) (r:Rs (Wd×Pt)) (w:World) (e:Ending) (w':World):Prop:=match r with
 | .ok x j=>e=.returned (.tuple #[])/\∃ τ',TrW w' gt τ' (R ++ [⟨x.1.tx,N.length,x.1.at_⟩]) (N ++ flat N.length x.2)/\RdW L (gr+1) gr j (0:Nat) w'/\Fr (fun k=>k=gr∨τ k ≠ 0) w w'/\∀ k,k < w.heap.size->τ' k=τ k
 | .err c a=>e=badE c a/\Fr (fun k=>k=gr) w w'
theorem rule_walk (L:List Wd) (gr gt f i:Nat) (τ:Nat->Nat) (R:List Rr) (N:List Rn) (w:World) (r:Rs (Wd×Pt)) (hW:WsOk L) (hL:L.length<=20000) (hr:rulP L f i=some r) (hrd:RdW L (gr+1) gr i (0:Nat) w) (hi:i < L.length) (hT:TrW w gt τ R N) (hA:Ap τ gr gt) (hN:∀ x j,r=.ok x j->N.length+x.2.sz<=200000) (hR:R.length<=200000):
  Calls Tryz.prog 36 #[ptr gr,ptr gt] w fun e w'=>RulP L gr gt τ R N r w e w':=by
 have hwd:=word_any2 L (gr+1) gr i (0:Nat) w hrd hi
 have HWD:=Lib.hid hwd
 have HRD:=Lib.hid hrd;have HT:=Lib.hid hT;have HA:=Lib.hid hA;have HN:=Lib.hid hN;have HRR:=Lib.hid hR;have HW:=Lib.hid hW;have HL:=Lib.hid hL;have HI:=Lib.hid hi
 clear hwd hrd hT hA hN hR hW hL
 unfold rulP at hr
 simp only [] at hr
 obtain ⟨wd,hwde⟩:∃ wd,wdAt L i=wd:=⟨_,rfl⟩
 rw [hwde] at hr HWD
 have HWDE:=Lib.hid hwde
 clear hwde
 unfold wdD wdA ptr at HWD
 unfold ptr
 by_cases hk:wd.kind ≠ 2∨0<=wd.lv
 ·rw [if_pos hk] at hr
  simp only [Option.some.injEq] at hr
  subst hr
  by_cases hk2:wd.kind=2
  ·have hlv2:(0:Int)<=wd.lv:=by
    rcases hk with h | h
    ·exact absurd hk2 h
    ·exact h
   have hkI:(wd.kind:Int)=2:=by omega
   clear hk hk2
   have HFA:=Lib.hid (fun x (hx:Below w.heap.size w x)=>fail_any L (gr+1) gr i (0:Nat) x (HRD.out.below hx) HI.out 7)
   clear HRD HT HA HN HRR HW HL
   unfold ptr at HFA
   go_enter Tryz.func36,Tryz.ntmps36
   go_wp2_with fail
   refine HWD.out.mono ?_
   rintro e x1 ⟨rfl,hb1⟩
   have HB1:=Lib.hid hb1
   clear hb1 HWD
   go_upto_region 2 with (fail)
   have hb2:=HB1.out.alloc HB1.out.size (.cells #[.int .i64 2,.int .i64 wd.at_,.int .i64 wd.nx,.string (tx wd.tx),.int .i64 wd.lv,.int .u64 (clsW wd.cl 0),.int .u64 (clsW wd.cl 1),.int .u64 (clsW wd.cl 2),.int .u64 (clsW wd.cl 3)] 82)
   have HFB:=Lib.hid (HFA.out _ hb2)
   have HB2:=Lib.hid hb2
   clear hb2 HFA HB1
   revert HFB HB2
   generalize x1.alloc (.cells #[.int .i64 2,.int .i64 wd.at_,.int .i64 wd.nx,.string (tx wd.tx),.int .i64 wd.lv,.int .u64 (clsW wd.cl 0),.int .u64 (clsW wd.cl 1),.int .u64 (clsW wd.cl 2),.int .u64 (clsW wd.cl 3)] 82)=x2
   intro HFB HB2
   go_wp2_with fail
   refine HFB.out.mono ?_
   rintro e x3 ⟨rfl,hb3⟩
   rw [HWDE.out]
   have HB3:=Lib.hid (HB2.out.trans (hb3.mono HB2.out.size))
   clear hb3 HFB HB2
   unfold badE
   go_wp2_with fail
   exact ⟨rfl,rfl,Fr.of_below HB3.out⟩
  ·have hkI:¬ (wd.kind:Int)=2:=by omega
   clear hk hk2
   have HFA:=Lib.hid (fun x (hx:Below w.heap.size w x)=>fail_any L (gr+1) gr i (0:Nat) x (HRD.out.below hx) HI.out 7)
   clear HRD HT HA HN HRR HW HL
   unfold ptr at HFA
   go_enter Tryz.func36,Tryz.ntmps36
   go_wp2_with fail
   refine HWD.out.mono ?_
   rintro e x1 ⟨rfl,hb1⟩
   have HB1:=Lib.hid hb1
   clear hb1 HWD
   go_upto_region 2 with (fail)
   have hb2:=HB1.out.alloc HB1.out.size (.cells #[.int .i64 wd.kind,.int .i64 wd.at_,.int .i64 wd.nx,.string (tx wd.tx),.int .i64 wd.lv,.int .u64 (clsW wd.cl 0),.int .u64 (clsW wd.cl 1),.int .u64 (clsW wd.cl 2),.int .u64 (clsW wd.cl 3)] 82)
   have HFB:=Lib.hid (HFA.out _ hb2)
   have HB2:=Lib.hid hb2
   clear hb2 HFA HB1
   revert HFB HB2
   generalize x1.alloc (.cells #[.int .i64 wd.kind,.int .i64 wd.at_,.int .i64 wd.nx,.string (tx wd.tx),.int .i64 wd.lv,.int .u64 (clsW wd.cl 0),.int .u64 (clsW wd.cl 1),.int .u64 (clsW wd.cl 2),.int .u64 (clsW wd.cl 3)] 82)=x2
   intro HFB HB2
   go_wp2_with fail
   refine HFB.out.mono ?_
   rintro e x3 ⟨rfl,hb3⟩
   rw [HWDE.out]
   have HB3:=Lib.hid (HB2.out.trans (hb3.mono HB2.out.size))
   clear hb3 HFB HB2
   unfold badE
   go_wp2_with fail
   exact ⟨rfl,rfl,Fr.of_below HB3.out⟩
 ·rw [if_neg hk] at hr
  have hk2:wd.kind=2:=by
   rcases Nat.decEq wd.kind 2 with h1 | h1
   ·exact absurd (.inl h1) hk
   ·exact h1
  have hlv:wd.lv < 0:=by
   rcases Int.lt_or_le wd.lv 0 with h1 | h1
   ·exact h1
   ·exact absurd (.inr h1) hk
  have hkI:(wd.kind:Int)=2:=by omega
  have hlv2:¬ (0:Int)<=wd.lv:=by omega
  clear hk hk2 hlv
  go_enter Tryz.func36,Tryz.ntmps36
  go_wp2_with fail
  refine HWD.out.mono ?_
  rintro e x1 ⟨rfl,hb1⟩
  have HB1:=Lib.hid hb1
  clear hb1 HWD
  go_upto_region 3 with (fail)
  have hb2:=HB1.out.alloc HB1.out.size (.cells #[.int .i64 2,.int .i64 wd.at_,.int .i64 wd.nx,.string (tx wd.tx),.int .i64 wd.lv,.int .u64 (clsW wd.cl 0),.int .u64 (clsW wd.cl 1),.int .u64 (clsW wd.cl 2),.int .u64 (clsW wd.cl 3)] 82)
  have HG2:=Lib.hid (hrow.new x1 #[.int .i64 2,.int .i64 wd.at_,.int .i64 wd.nx,.string (tx wd.tx),.int .i64 wd.lv,.int .u64 (clsW wd.cl 0),.int .u64 (clsW wd.cl 1),.int .u64 (clsW wd.cl 2),.int .u64 (clsW wd.cl 3)] 82)
  have HB2:=Lib.hid hb2
  have HGE:Hid (w.heap.size<=x1.heap.size):=HB1.out.size
  clear HB1 hb2
  revert HG2 HB2 HGE
  generalize x1.alloc (.cells #[.int .i64 2,.int .i64 wd.at_,.int .i64 wd.nx,.string (tx wd.tx),.int .i64 wd.lv,.int .u64 (clsW wd.cl 0),.int .u64 (clsW wd.cl 1),.int .u64 (clsW wd.cl 2),.int .u64 (clsW wd.cl 3)] 82)=x2
  generalize x1.heap.size=g4
  intro HG2 HB2 HGE
  have HGL:Hid (gr < w.heap.size):=Nat.lt_of_lt_of_le HRD.out.lt HRD.out.le
  have hi1:i+1 < L.length:=HW.out.next HI.out (by rw [HWDE.out];omega)
  have HI1:=Lib.hid hi1
  have HT2:=Lib.hid (take_any L (gr+1) gr i (0:Nat) x2 (HRD.out.below HB2.out) HI.out (by have:=HL.out;omega))
  clear hi1 hi
  unfold ptr at HT2
  go_wp2_with fail
  refine HT2.out.mono ?_
  rintro e x3 ⟨rfl,hr3,hf3⟩
  have HF3:=Lib.hid ((Fr.of_below (F:=fun k=>k=gr) HB2.out).trans hf3 (fun _ _ h=>h))
  have HG3:=Lib.hid (HG2.out.fr hf3 (fun e=>by have h1:=HGE.out;have h2:=HGL.out;have e':g4=gr:=e;omega))
  have HW3:=Lib.hid (want_any L (gr+1) gr (i+1) (0:Nat) x3 hr3 HI1.out (by have:=HL.out;omega) [60,45])
  clear hr3 hf3 HT2 HG2 HB2 hkI hlv2
  unfold ptr at HW3
  go_wp2_with fail
  refine HW3.out.mono ?_
  unfold WantP
  cases hh:hereW L (i+1) [60,45] with
  | false=>
   rw [hh,if_neg Bool.false_ne_true] at hr
   simp only [Option.some.injEq] at hr
   subst hr
   simp only [Bool.false_eq_true,if_false]
   rintro e x4 ⟨rfl,hf4⟩
   have HF4:=Lib.hid (HF3.out.trans hf4 (fun _ _ h=>h))
   clear hf4 HW3 HF3 hh HG3
   unfold badE
   go_wp2_with fail
   exact ⟨rfl,rfl,HF4.out⟩
  | true=>
   rw [hh,if_pos rfl] at hr
   simp only [if_true]
   have hi2:=HW.out.after HI1.out hh
   rintro e x4 ⟨rfl,hr4,hf4⟩
   have HF4:=Lib.hid (HF3.out.trans hf4 (fun _ _ h=>h))
   have HG4:=Lib.hid (HG3.out.fr hf4 (fun e=>by have h1:=HGE.out;have h2:=HGL.out;have e':g4=gr:=e;omega))
   cases hq:prs L f .alt [] (i+2) 0 with
   | none=>rw [hq] at hr;cases hr
   | some ra=>
    rw [hq] at hr
    have HX:=Lib.hid (alt_all L gr HW.out (by have:=HL.out;omega) f x4.heap.size (i+2) 0 x4 ra hq (hr4.base (Nat.lt_of_lt_of_le HGL.out HF4.out.size) (Nat.le_refl _)) hi2 (by omega))
    have HBD:=Lib.hid (fun p j (h:ra=.ok p j)=>prs_bd HW.out f .alt [] (i+2) 0 p j hi2 (by rw [hq,h]))
    clear hr4 hf4 HW3 HF3 hh HG3 hq hi2
    unfold ptr at HX
    cases ra with
    | err c a=>
     simp only [Option.some.injEq] at hr
     subst hr
     go_wp2_with fail
     refine HX.out.mono ?_
     rintro e x5 ⟨rfl,hf5⟩
     have HF5:=Lib.hid (HF4.out.trans hf5 (fun _ _ h=>h))
     clear hf5 HX HF4 HG4
     unfold badE
     go_wp2_with fail
     exact ⟨rfl,rfl,HF5.out⟩
    | ok p j=>
     simp only [] at hr
     have HHR:=Lib.hid hr
     clear hr
     go_wp2_with fail
     refine HX.out.mono ?_
     rintro e x5 ⟨b,rfl,hp5,hr5,hf5⟩
     have HF5:=Lib.hid (HF4.out.trans hf5 (fun _ _ h=>h))
     have HG5:=Lib.hid (HG4.out.fr hf5 (fun e=>by have h1:=HGE.out;have h2:=HGL.out;have e':g4=gr:=e;omega))
     have HP5:=Lib.hid (PtW.bound _ _ hp5)
     have HLE:=Lib.hid HF4.out.size
     have HW5:=Lib.hid (want_any L (gr+1) gr j (0:Nat) x5 (hr5.base (Nat.lt_succ_self gr) (by have h1:=HF5.out.size;have h2:=HGL.out;omega)) (HBD.out p j rfl).1 (by have:=HL.out;omega) [59])
     clear hp5 hr5 hf5 HX HF4 HG4
     unfold ptr at HW5 ⊢
     go_wp2_with fail
     refine HW5.out.mono ?_
     unfold WantP
     cases hh:hereW L j [59] with
     | false=>
      have HR:=HHR.out
      rw [hh,if_neg Bool.false_ne_true,Option.some.injEq] at HR
      subst HR
      simp only [Bool.false_eq_true,if_false]
      rintro e x6 ⟨rfl,hf6⟩
      have HF6:=Lib.hid (HF5.out.trans hf6 (fun _ _ h=>h))
      clear hf6 HW5 HF5 hh HG5 HHR
      unfold badE
      go_wp2_with fail
      exact ⟨rfl,rfl,HF6.out⟩
     | true=>
      have HR:=HHR.out
      rw [hh,if_pos rfl,Option.some.injEq] at HR
      subst HR
      simp only [if_true]
      rintro e x6 ⟨rfl,hr6,hf6⟩
      have HF6:=Lib.hid (HF5.out.trans hf6 (fun _ _ h=>h))
      have HG6:=Lib.hid (HG5.out.fr hf6 (fun e=>by have h1:=HGE.out;have h2:=HGL.out;have e':g4=gr:=e;omega))
      have HNEW:Hid (∀ k,w.heap.size<=k->τ k=0):=by obtain ⟨⟨v1,v2,v3,v4,v5,NK,h1,h2,h3⟩,h4⟩:=HT.out;exact h2.new
      have HP6:=Lib.hid (PtW.fr (H:=fun k=>τ k=0) hf6 (fun k hk e=>by have h1:=hk.1;have h2:=HGL.out;have h3:=HLE.out;have e':k=gr:=e;omega) (fun k hk=>HNEW.out k (Nat.le_trans HLE.out hk.1)) _ _ HP5.out)
      have HR6:=Lib.hid hr6
      have HT6:=Lib.hid (HT.out.fr HF6.out (fun k _ h1 h2=>by have e':k=gr:=h2;subst e';exact h1 (HA.out.2 _ (Nat.le_refl _) (Nat.ne_of_gt HA.out.1))))
      have HTAG:Hid (τ g4=0):=HNEW.out g4 HGE.out
      clear hr6 hf6 HW5 HF5 hh HG5 HHR HP5 HNEW HT
      obtain ⟨o1,o2,o3,o4,o5,c1,c2,c3,c4,c5,NK,hl2,hnk,hI⟩:=HT6.out.start2
      have HNK:=Lib.hid hnk
      have HI6:=Lib.hid hI
      have HL2:=Lib.hid hl2
      clear hnk hI HT6 hl2
      go_upto_region 7 with (fail)
      have HGX:Hid (∀ x,Fr (fun k=>τ k ≠ 0) x6 x->hrow x g4 #[.int .i64 2,.int .i64 wd.at_,.int .i64 wd.nx,.string (tx wd.tx),.int .i64 wd.lv,.int .u64 (clsW wd.cl 0),.int .u64 (clsW wd.cl 1),.int .u64 (clsW wd.cl 2),.int .u64 (clsW wd.cl 3)] 82):=fun x hx=>HG6.out.fr hx (fun e=>e HTAG.out)
      obtain ⟨S,hSd⟩:∃ S:World->Prop,S=fun z=>z.cell? ⟨gt,0,none⟩=some (.slice o1 R.length c1)/\z.cell? ⟨g4,3,none⟩=some (.string (tx wd.tx))/\z.cell? ⟨gt,3,none⟩=some (.slice o4 N.length c4):=⟨_,rfl⟩
      have F1:∀ z,S z->z.cell? ⟨gt,0,none⟩=some (.slice o1 R.length c1):=fun z h=>by rw [hSd] at h;exact h.1
      have F2:∀ z,S z->z.cell? ⟨g4,3,none⟩=some (.string (tx wd.tx)):=fun z h=>by rw [hSd] at h;exact h.2.1
      have F3:∀ z,S z->z.cell? ⟨gt,3,none⟩=some (.slice o4 N.length c4):=fun z h=>by rw [hSd] at h;exact h.2.2
      have HS:Hid (∀ z,z.cell? ⟨gt,0,none⟩=some (.slice o1 R.length c1)->z.cell? ⟨gt,3,none⟩=some (.slice o4 N.length c4)->Fr (fun k=>τ k ≠ 0) x6 z->S z):=fun z h1 h2 h3=>by rw [hSd];exact ⟨h1,(HGX.out z h3).cell 3,h2⟩
      clear hSd
      refine wp_region_noPanic ?_
      refine wp_region_T S [0,1,2,3,4,5,6,7,8,9,10,11,12,13,14,15] 16 4 rfl (by kernel_rfl) ?_
      have HI7:=Lib.hid (HI6.out.below ((Below.refl _ x6).drew))
      have HHG:=Lib.hid HI6.out.obj
      clear HI6
      generalize x6.drew=z1 at HI7 ⊢
      refine wpAnyT_reads (f:=2) [0,1,2,3,4,5,6,7,8,9,10,11,12,13] (by kernel_rfl) (by kernel_rfl) (HS.out _ (HI7.out.obj.cell 0) (HI7.out.obj.cell 3) HI7.out.fr) (fun _ _ _ _ h=>h) ?_
      simp only [pickOps,List.getD_cons_zero,List.getD_cons_succ]
      repeat (first
        | (refine wpRead_cons (v:=?_) rfl ?_ ?_;rotate_left;(· (intro z hz;have f1:=F1 z hz;have f2:=F2 z hz;have f3:=F3 z hz;clear hz;go_simp;try with_reducible rfl));simp only [Act.put,List.setIfInBounds_toArray,List.set_cons_zero,List.set_cons_succ]))
      refine wpRead_nil ?_
      refine wpAnyT_one 14 (by kernel_rfl) (by kernel_rfl) rfl ?_
      simp only [List.getD_cons_zero,List.getD_cons_succ]
      go_wp2_with fail
      have HI8:=Lib.hid (HI7.out.below ((Below.refl _ z1).alloc (Nat.le_refl _) (.cells #[.string (tx wd.tx),.int .i64 N.length] 49)))
      refine ⟨HS.out _ (HI8.out.obj.cell 0) (HI8.out.obj.cell 3) HI8.out.fr,?_⟩
      refine wpAnyT_one 15 (by kernel_rfl) (by kernel_rfl) rfl ?_
      simp only [List.getD_cons_zero,List.getD_cons_succ]
      have HSL:=Lib.hid (Sv.lit z1 49 #[.string (tx wd.tx),.int .i64 N.length] 1 2 (by unfold maxLen;omega) rfl)
      clear HI7
      have HOW:=Lib.hid (show _ by have h:=HI8.out.tr.t2.1;rw [List.length_map] at h;exact h)
      refine wpList_append_tag _ rfl (.tmp 35) (.tmp 44) 22 49 rfl elRule 0 (.slice o1 R.length c1) R.length _ rfl HOW.out ⟨z1.heap.size,0,none⟩ 1 1 _ rfl HSL.out (by simp [Value.oneCell']) (by have:=HRR.out;omega) (by have:=HRR.out;unfold maxLen;omega) (Nat.zero_le _) ?_
      intro v' z3 ho hgr hb
      obtain ⟨p1,q1,rfl,-⟩:=Sv.of_owns ho
      have HI9:=Lib.hid (HI8.out.step hgr HI8.out.tr.t2.2 (by omega) (HI8.out.tr.rule (Rr.ru ⟨wd.tx,N.length,wd.at_⟩) (by rw [List.length_map];exact ho) hgr hb))
      clear HSL HOW ho hgr hb HI8
      refine ⟨HS.out _ (HI9.out.obj.cell 0) (HI9.out.obj.cell 3) HI9.out.fr,?_⟩
      refine wpAnyT_tail [16,17,18,19] (by kernel_rfl) (by kernel_rfl) (by kernel_rfl) ?_
      simp only [pickOps,List.getD_cons_zero,List.getD_cons_succ]
      clear F1 F2 F3 HS S
      have f0:=HI9.out.obj.frozen 0
      have c0:=HI9.out.obj.cell 0
      go_wp2_with fail
      refine noPanic_normal ?_
      clear f0 c0
      have HI10:=Lib.hid (HI9.out.put (by have h1:=HI9.out.tg;have h2:=HI9.out.old gt HHG.out.lt;omega) 0 (.slice p1 (R.length+1) q1))
      clear HI9
      revert HI10
      generalize tagN τ (z1.alloc (.cells #[.string (tx wd.tx),.int .i64 N.length] 49)).heap.size z3.heap.size 2=τ1
      generalize z3.setCell ⟨gt,0,none⟩ (.slice p1 (R.length+1) q1)=z4
      intro HI10
      go_upto_region 8 with (fail)
      obtain ⟨S,hSd⟩:∃ S:World->Prop,S=fun z=>z.cell? ⟨gt,2,none⟩=some (.slice o3 R.length c3)/\z.cell? ⟨g4,1,none⟩=some (.int .i64 wd.at_):=⟨_,rfl⟩
      have F1:∀ z,S z->z.cell? ⟨gt,2,none⟩=some (.slice o3 R.length c3):=fun z h=>by rw [hSd] at h;exact h.1
      have F2:∀ z,S z->z.cell? ⟨g4,1,none⟩=some (.int .i64 wd.at_):=fun z h=>by rw [hSd] at h;exact h.2
      have HS:Hid (∀ z,z.cell? ⟨gt,2,none⟩=some (.slice o3 R.length c3)->Fr (fun k=>τ k ≠ 0) x6 z->S z):=fun z h1 h3=>by rw [hSd];exact ⟨h1,(HGX.out z h3).cell 1⟩
      clear hSd
      refine wp_region_noPanic ?_
      refine wp_region_T S [0,1,2,3,4,5,6,7,8] 9 3 rfl (by kernel_rfl) ?_
      have HJ1:=Lib.hid (HI10.out.below ((Below.refl _ z4).drew))
      clear HI10
      generalize z4.drew=y1 at HJ1 ⊢
      refine wpAnyT_reads (f:=2) [0,1,2,3,4,5,6] (by kernel_rfl) (by kernel_rfl) (HS.out _ (HJ1.out.obj.cell 2) HJ1.out.fr) (fun _ _ _ _ h=>h) ?_
      simp only [pickOps,List.getD_cons_zero,List.getD_cons_succ]
      repeat (first
        | (refine wpRead_cons (v:=?_) rfl ?_ ?_;rotate_left;(· (intro z hz;have f1:=F1 z hz;have f2:=F2 z hz;clear hz;go_simp;try with_reducible rfl));simp only [Act.put,List.setIfInBounds_toArray,List.set_cons_zero,List.set_cons_succ]))
      refine wpRead_nil ?_
      refine wpAnyT_one 7 (by kernel_rfl) (by kernel_rfl) rfl ?_
      simp only [List.getD_cons_zero,List.getD_cons_succ]
      go_wp2_with fail
      have HJ2:=Lib.hid (HJ1.out.below ((Below.refl _ y1).alloc (Nat.le_refl _) (.cells #[.int .i64 wd.at_] 3)))
      refine ⟨HS.out _ (HJ2.out.obj.cell 2) HJ2.out.fr,?_⟩
      refine wpAnyT_one 8 (by kernel_rfl) (by kernel_rfl) rfl ?_
      simp only [List.getD_cons_zero,List.getD_cons_succ]
      have HSL:=Lib.hid (Sv.lit y1 3 #[.int .i64 wd.at_] 1 1 (by unfold maxLen;omega) rfl)
      clear HJ1
      have HOW:=Lib.hid (show _ by have h:=HJ2.out.tr.t4.1;rw [List.length_map] at h;exact h)
      refine wpList_append_tag _ rfl (.tmp 53) (.tmp 56) 26 3 rfl elIntS 0 (.slice o3 R.length c3) R.length _ rfl HOW.out ⟨y1.heap.size,0,none⟩ 1 1 _ rfl HSL.out (by simp [Value.oneCell']) (by have:=HRR.out;omega) (by have:=HRR.out;unfold maxLen;omega) (Nat.zero_le _) ?_
      intro v' y3 ho hgr hb
      obtain ⟨p3,q3,rfl,-⟩:=Sv.of_owns ho
      have HJ3:=Lib.hid (HJ2.out.step hgr HJ2.out.tr.t4.2 (by omega) (HJ2.out.tr.ra (wd.at_:Int) (by rw [List.length_map];exact ho) hgr hb))
      clear HSL HOW ho hgr hb HJ2
      refine ⟨HS.out _ (HJ3.out.obj.cell 2) HJ3.out.fr,?_⟩
      refine wpAnyT_tail [9,10,11] (by kernel_rfl) (by kernel_rfl) (by kernel_rfl) ?_
      simp only [pickOps,List.getD_cons_zero,List.getD_cons_succ]
      clear F1 F2 HS S
      have f2:=HJ3.out.obj.frozen 2
      have c2':=HJ3.out.obj.cell 2
      go_wp2_with fail
      refine noPanic_normal ?_
      clear f2 c2'
      have HJ4:=Lib.hid (HJ3.out.put (by have h1:=HJ3.out.tg;have h2:=HJ3.out.old gt HHG.out.lt;omega) 2 (.slice p3 (R.length+1) q3))
      clear HJ3
      revert HJ4
      generalize tagN τ1 (y1.alloc (.cells #[.int .i64 wd.at_] 3)).heap.size y3.heap.size 4=τ2
      generalize y3.setCell ⟨gt,2,none⟩ (.slice p3 (R.length+1) q3)=y4
      intro HJ4
      have HT4:Hid (TrW y4 gt τ2 (R ++ [⟨wd.tx,N.length,wd.at_⟩]) N):=HJ4.out.tree (by simp) (by simp) rfl rfl HNK.out
      have HP7:=Lib.hid (HJ4.out.part (F:=fun k=>τ2 k=0) HP6.out (fun k hk h0=>(HJ4.out.old k hk).trans h0))
      have HPT:=Lib.hid (putT_any p b gt τ2 _ N y4 HT4.out HP7.out (HN.out _ _ rfl))
      have HF7:=Lib.hid HJ4.out.fr
      have HO7:=Lib.hid HJ4.out.old
      clear HJ4 HT4 HP7 HP6
      unfold ptr at HPT
      go_wp2_with fail
      refine HPT.out.mono ?_
      rintro e y5 ⟨rfl,τ3,hT5,hf5,ho5⟩
      have HT5:=Lib.hid hT5
      have HF8:=Lib.hid (HF7.out.trans hf5 (fun k hk e=>by have:=HO7.out k hk;omega))
      have HO8:Hid (∀ k,k < w.heap.size->τ3 k=τ k):=fun k hk=>(ho5 k (Nat.lt_of_lt_of_le hk (Nat.le_trans HF6.out.size HF7.out.size))).trans (HO7.out k (Nat.lt_of_lt_of_le hk HF6.out.size))
      clear hT5 hf5 ho5 HPT HF7 HO7
      go_wp2_with fail
      go_end0
      refine ⟨rfl,τ3,HT5.out,HR6.out.frT HF8.out HA.out HHG.out (Nat.lt_of_le_of_lt (Nat.zero_le i) HI.out),?_,HO8.out⟩
      exact (HF6.out.weak (G:=fun k=>k=gr∨τ k ≠ 0) (fun _ e=>.inl e)).trans HF8.out (fun _ _ e=>.inr e)
end Go.Proofs.YtgjhepblpdnkcaaGreatDoor
namespace Go.Proofs.YtgjhepblpdnkcaaGreatDoor
open Go.RowKit
set_option maxRecDepth 100000
set_option maxHeartbeats 4000000

def diagE (e a:Nat):Value:=.iface 34 (.agg #[.int .i64 e,.int .i64 a])
theorem text1_idle (g2 g3:Nat) (w:World):
  CallsD Tryz.prog 35 #[.pointer (some ⟨g2,0,none⟩),.pointer (some ⟨g3,0,none⟩)] .returning w fun e u' w'=>e=.returned (.tuple #[])/\u'=.returning/\w'=w:=by
 refine callsD_of_wpS Tryz.func35 rfl fun c₀ cs hu=>?_
 apply wpS_seq
 apply wpS_region
 simp [wpOpsS,go_sem,recoverD,hu,Tryz.ntmps35,Exit.thenS]
 simp only [Array.replicate_succ,Array.replicate_zero,List.push_toArray,List.append_toArray,List.nil_append,List.cons_append,List.setIfInBounds_toArray,List.set_cons_succ,List.set_cons_zero]
 refine wpS_of_wp ?_
 go_wp2_with fail
 cases c₀
 simp_all [bodyPostS,results,Tryz.results35]
theorem text1_panic (g2 g3 e0 a0:Nat) (b0 b1 b2 b3 b4 d0 d1:Value) (w:World) (h2:hrow w g2 #[b0,b1,b2,b3,b4] 29) (h3:hrow w g3 #[d0,d1] 34) (hne:g2 ≠ g3):
  CallsD Tryz.prog 35 #[.pointer (some ⟨g2,0,none⟩),.pointer (some ⟨g3,0,none⟩)] (.panicking [{ v:=diagE e0 a0,recovered:=false }]) w fun e u' w'=>e=.returned (.tuple #[])/\u'=.panicking [{ v:=diagE e0 a0,recovered:=true }]/\
   hrow w' g2 #[.slice none 0 0,.slice none 0 0,.slice none 0 0,.slice none 0 0,.slice none 0 0] 29/\hrow w' g3 #[.int .i64 e0,.int .i64 a0] 34/\Fr (fun k=>k=g2∨k=g3) w w':=by
 unfold diagE
 have hta:∀ (u v:Value) (w:World),(Instr.typeAssert (.iface 34 (.agg #[u,v])) 20 34 true).run Tryz.prog w=.ok (.tuple #[.agg #[u,v],.bool true]) w:=fun _ _ _=>by kernel_rfl
 refine callsD_of_wpS Tryz.func35 rfl fun c₀ cs hu=>?_
 apply wpS_seq
 apply wpS_region
 simp [wpOpsS,go_sem,recoverD,hu,Tryz.ntmps35,Exit.thenS]
 simp only [Array.replicate_succ,Array.replicate_zero,List.push_toArray,List.append_toArray,List.nil_append,List.cons_append,List.setIfInBounds_toArray,List.set_cons_succ,List.set_cons_zero]
 refine wpS_of_wp ?_
 go_wp2_with fail
 have hb:=(Below.refl _ w).alloc (Nat.le_refl _) (.cells #[.int .i64 e0,.int .i64 a0] 34)
 have HX:=Lib.hid (hrow.new w #[.int .i64 e0,.int .i64 a0] 34)
 have H2:=Lib.hid (h2.below hb);have H3:=Lib.hid (h3.below hb)
 have HF:=Lib.hid (Fr.of_below (F:=fun k=>k=g2∨k=g3) hb)
 have HN:=Lib.hid hne
 have HL2:Hid (g2 < w.heap.size):=h2.lt
 have HL3:Hid (g3 < w.heap.size):=h3.lt
 clear hb h2 h3 hne hta
 revert HX H2 H3 HF HL2 HL3
 generalize w.alloc (.cells #[.int .i64 e0,.int .i64 a0] 34)=x
 generalize w.heap.size=gx
 intro HX H2 H3 HF HL2 HL3
 obtain ⟨c0,c1⟩:=HX.out.c2
 have e0':=H2.out.frozen 0;have e1:=H2.out.frozen 1;have e2:=H2.out.frozen 2;have e3:=H2.out.frozen 3;have e4:=H2.out.frozen 4
 have k0:=H2.out.cell 0;have k1:=H2.out.cell 1;have k2:=H2.out.cell 2;have k3:=H2.out.cell 3;have k4:=H2.out.cell 4
 have l0:=H3.out.cell 0;have l1:=H3.out.cell 1
 obtain ⟨m0,m1⟩:=H3.out.f2
 have n1:gx ≠ g2:=by have:=HL2.out;omega
 have n2:gx ≠ g3:=by have:=HL3.out;omega
 have n3:=HN.out
 go_region
 have hG2:∀ y:World,hrow y g2 #[b0,b1,b2,b3,b4] 29->hrow (((((y.setCell ⟨g2,0,none⟩ (.slice none 0 0)).setCell ⟨g2,1,none⟩ (.slice none 0 0)).setCell ⟨g2,2,none⟩ (.slice none 0 0)).setCell ⟨g2,3,none⟩ (.slice none 0 0)).setCell ⟨g2,4,none⟩ (.slice none 0 0)) g2 #[.slice none 0 0,.slice none 0 0,.slice none 0 0,.slice none 0 0,.slice none 0 0] 29:=fun y h=>
  ((((h.setCell 0 (.slice none 0 0)).setCell 1 (.slice none 0 0)).setCell 2 (.slice none 0 0)).setCell 3 (.slice none 0 0)).setCell 4 (.slice none 0 0)
 have hF5:∀ y:World,Fr (fun k=>k=g2) y (((((y.setCell ⟨g2,0,none⟩ (.slice none 0 0)).setCell ⟨g2,1,none⟩ (.slice none 0 0)).setCell ⟨g2,2,none⟩ (.slice none 0 0)).setCell ⟨g2,3,none⟩ (.slice none 0 0)).setCell ⟨g2,4,none⟩ (.slice none 0 0)):=fun y=>
  ((((Fr.setCell y ⟨g2,0,none⟩ (.slice none 0 0)).trans (Fr.setCell _ ⟨g2,1,none⟩ (.slice none 0 0)) (fun _ _ h=>h)).trans (Fr.setCell _ ⟨g2,2,none⟩ (.slice none 0 0)) (fun _ _ h=>h)).trans (Fr.setCell _ ⟨g2,3,none⟩ (.slice none 0 0)) (fun _ _ h=>h)).trans (Fr.setCell _ ⟨g2,4,none⟩ (.slice none 0 0)) (fun _ _ h=>h)
 have h2':=hG2 x H2.out
 have hf:=hF5 x
 clear hG2 hF5 c0 c1 e0' e1 e2 e3 e4 k0 k1 k2 k3 k4 l0 l1 m0 m1 n1 n2 n3
 revert h2' hf
 generalize (((((x.setCell ⟨g2,0,none⟩ (.slice none 0 0)).setCell ⟨g2,1,none⟩ (.slice none 0 0)).setCell ⟨g2,2,none⟩ (.slice none 0 0)).setCell ⟨g2,3,none⟩ (.slice none 0 0)).setCell ⟨g2,4,none⟩ (.slice none 0 0))=y
 intro h2' hf
 have h3':hrow y g3 #[d0,d1] 34:=H3.out.fr hf (fun e=>HN.out e.symm)
 have hf2:Fr (fun k=>k=g3) y ((y.setCell ⟨g3,0,none⟩ (.int .i64 e0)).setCell ⟨g3,1,none⟩ (.int .i64 a0)):=(Fr.setCell y ⟨g3,0,none⟩ (.int .i64 e0)).trans (Fr.setCell _ ⟨g3,1,none⟩ (.int .i64 a0)) (fun _ _ h=>h)
 have h4:hrow ((y.setCell ⟨g3,0,none⟩ (.int .i64 e0)).setCell ⟨g3,1,none⟩ (.int .i64 a0)) g3 #[.int .i64 e0,.int .i64 a0] 34:=(h3'.setCell 0 (.int .i64 e0)).setCell 1 (.int .i64 a0)
 have h5:=h2'.fr hf2 (fun e=>HN.out e)
 have hF:Fr (fun k=>k=g2∨k=g3) w ((y.setCell ⟨g3,0,none⟩ (.int .i64 e0)).setCell ⟨g3,1,none⟩ (.int .i64 a0)):=(HF.out.trans hf (fun _ _ h=>.inl h)).trans hf2 (fun _ _ h=>.inr h)
 clear h2' hf h3' hf2 HX H2 H3 HF HL2 HL3
 revert h4 h5 hF
 generalize ((y.setCell ⟨g3,0,none⟩ (.int .i64 e0)).setCell ⟨g3,1,none⟩ (.int .i64 a0))=z
 intro h4 h5 hF
 have hbd:=(Below.refl z.heap.size z).drew
 have K2:=Lib.hid (h5.below hbd);have K3:=Lib.hid (h4.below hbd);have KF:=Lib.hid (hF.trans (Fr.of_below (F:=fun _=>False) hbd) (fun _ _ e=>e.elim))
 clear h4 h5 hF hbd
 refine ⟨rfl,_,rfl,_,results_none rfl _ _ _,rfl,rfl,K2.out,K3.out,KF.out⟩
end Go.Proofs.YtgjhepblpdnkcaaGreatDoor
namespace Go.Proofs.YtgjhepblpdnkcaaGreatDoor
open Go.RowKit
set_option maxRecDepth 100000
set_option maxHeartbeats 8000000

/-- The tree that is handed back: rows of its own. -/
def TreeOut (w w':World) (R:List Rr) (N:List Rn) (v1 v2 v3 v4 v5:Value):Prop:=∃ (τ:Nat->Nat) (NK:List Nk),TrR w' τ v1 v2 v3 v4 v5 (R.map Rr.ru) NK NK (R.map fun r=>(r.at_:Int)) (N.map fun x=>(x.at_:Int)) (N.map fun x=>tx x.nm)/\NK.map (·.1)=N.map Rn.nd/\∀ k,τ k ≠ 0->w.heap.size<=k
theorem treeOut_nil (w w':World):TreeOut w w' [] [] (.slice none 0 0) (.slice none 0 0) (.slice none 0 0) (.slice none 0 0) (.slice none 0 0):=
 ⟨fun _=>0,[],⟨fun _ _=>rfl,RowT.nil _ _ _ _ _,RowT.nil _ _ _ _ _,RowT.nil _ _ _ _ _,RowT.nil _ _ _ _ _,RowT.nil _ _ _ _ _,fun i h=>by simp at h⟩,rfl,fun k h=>absurd rfl h⟩
def TxtP (l:List UInt8) (w:World) (e:Ending) (w':World):Prop:=
 ∃ v1 v2 v3 v4 v5,e=.returned (.tuple #[.agg #[v1,v2,v3,v4,v5],.agg #[.int .i64 (readT l).2.1,.int .i64 (readT l).2.2]])/\TreeOut w w' (readT l).1.1 (readT l).1.2 v1 v2 v3 v4 v5/\Below w.heap.size w w'
/-- Behind a rule. -/
def contP (L:List Wd) (f g:Nat) (acc:List (Wd×Pt)) (j:Nat):Option (Rs (List (Wd×Pt))):=if (wdAt L j).kind=1 then some (.ok acc j) else rulsP L f g acc j
theorem rulsP_cont (L:List Wd) (f g:Nat) (acc:List (Wd×Pt)) (i:Nat):rulsP L f (g+1) acc i=match rulP L f i with
  | some (.ok x j)=>contP L f g (acc ++ [x]) j
  | some (.err e a)=>some (.err e a)
  | none=>none:=by
 conv=>lhs;unfold rulsP
 cases rulP L f i with
 | none=>rfl
 | some r=>cases r <;> rfl
theorem results_c2 {P:Program} {fn:Func} {p q:Tmp} {tp tq:TypeId} (h:fn.results=#[.cell p tp,.cell q tq]) (tmps:Array Value) (w:World) (a b:Addr) (u v:Value)
  (hp:tmps.getD p undef=.pointer (some a)) (hq:tmps.getD q undef=.pointer (some b)) (h1:(loadVar tp a).run P w=.ok u w) (h2:(loadVar tq b).run P w=.ok v w):(results fn tmps).run P w=.ok (.tuple #[u,v]) w:=by
 have hp':tmps[p]?.getD undef=.pointer (some a):=by simpa using hp
 have hq':tmps[q]?.getD undef=.pointer (some b):=by simpa using hq
 simp [results,h,hp',hq',asAddr,h1,h2]
theorem tree_ld {y:World} {g:Nat} {v1 v2 v3 v4 v5:Value} (h:hrow y g #[v1,v2,v3,v4,v5] 29):(loadVar 29 ⟨g,0,none⟩).run Tryz.prog y=.ok (.agg #[v1,v2,v3,v4,v5]) y:=
 run_loadVar_row (P:=Tryz.prog) y g _ _ _ _ _ h Tryz.underlying29 rfl (by show _=some 5;decide +kernel)
theorem diag_ld {y:World} {g:Nat} {v1 v2:Value} (h:hrow y g #[v1,v2] 34):(loadVar 34 ⟨g,0,none⟩).run Tryz.prog y=.ok (.agg #[v1,v2]) y:=
 run_loadVar_row (P:=Tryz.prog) y g _ _ _ _ _ h Tryz.underlying34 rfl (by show _=some 2;decide +kernel)
/-- A tree and a diag are stored. -/
theorem stores7 {x:World} {g2 g3:Nat} {b0 b1 b2 b3 b4 d0 d1:Value} (u0 u1 u2 u3 u4 t0 t1:Value) (h2:hrow x g2 #[b0,b1,b2,b3,b4] 29) (h3:hrow x g3 #[d0,d1] 34) (hne:g2 ≠ g3):
  ∃ z,((((((x.setCell ⟨g2,0,none⟩ u0).setCell ⟨g2,1,none⟩ u1).setCell ⟨g2,2,none⟩ u2).setCell ⟨g2,3,none⟩ u3).setCell ⟨g2,4,none⟩ u4).setCell ⟨g3,0,none⟩ t0).setCell ⟨g3,1,none⟩ t1=z/\hrow z g2 #[u0,u1,u2,u3,u4] 29/\hrow z g3 #[t0,t1] 34/\Fr (fun k=>k=g2∨k=g3) x z:=by
 have hA:hrow (((((x.setCell ⟨g2,0,none⟩ u0).setCell ⟨g2,1,none⟩ u1).setCell ⟨g2,2,none⟩ u2).setCell ⟨g2,3,none⟩ u3).setCell ⟨g2,4,none⟩ u4) g2 #[u0,u1,u2,u3,u4] 29:=((((h2.setCell 0 u0).setCell 1 u1).setCell 2 u2).setCell 3 u3).setCell 4 u4
 have hF:Fr (fun k=>k=g2) x (((((x.setCell ⟨g2,0,none⟩ u0).setCell ⟨g2,1,none⟩ u1).setCell ⟨g2,2,none⟩ u2).setCell ⟨g2,3,none⟩ u3).setCell ⟨g2,4,none⟩ u4):=((((Fr.setCell x ⟨g2,0,none⟩ u0).trans (Fr.setCell _ ⟨g2,1,none⟩ u1) (fun _ _ h=>h)).trans (Fr.setCell _ ⟨g2,2,none⟩ u2) (fun _ _ h=>h)).trans (Fr.setCell _ ⟨g2,3,none⟩ u3) (fun _ _ h=>h)).trans (Fr.setCell _ ⟨g2,4,none⟩ u4) (fun _ _ h=>h)
 generalize (((((x.setCell ⟨g2,0,none⟩ u0).setCell ⟨g2,1,none⟩ u1).setCell ⟨g2,2,none⟩ u2).setCell ⟨g2,3,none⟩ u3).setCell ⟨g2,4,none⟩ u4)=y at hA hF ⊢
 have h3':hrow y g3 #[d0,d1] 34:=h3.fr hF (fun e=>hne e.symm)
 have hf2:Fr (fun k=>k=g3) y ((y.setCell ⟨g3,0,none⟩ t0).setCell ⟨g3,1,none⟩ t1):=(Fr.setCell y ⟨g3,0,none⟩ t0).trans (Fr.setCell _ ⟨g3,1,none⟩ t1) (fun _ _ h=>h)
 exact ⟨_,rfl,hA.fr hf2 (fun e=>hne e),(h3'.setCell 0 t0).setCell 1 t1,(hF.weak (fun _ h=>.inl h)).trans hf2 (fun _ _ h=>.inr h)⟩
theorem rulP_sz {L:List Wd} (h:WsOk L) {f i j:Nat} {x:Wd×Pt} (hi:i < L.length) (e:rulP L f i=some (.ok x j)):x.2.sz<=2 * (j - i)/\i < j/\j < L.length:=by
 obtain ⟨w,p⟩:=x
 obtain ⟨h1,h2,h3,h4,h5,h6⟩:=rulP_ok h hi e
 refine ⟨?_,h5,h6⟩
 unfold rulP at e
 simp only [] at e
 split at e
 ·cases e
 ·split at e
  ·rename_i hh
   have h2:=h.after h3 hh
   cases hq:prs L f .alt [] (i+2) 0 with
   | none=>rw [hq] at e;cases e
   | some r=>
    rw [hq] at e
    cases r with
    | err a b=>cases e
    | ok q k=>
     have hz:=prs_sz h f .alt [] (i+2) 0 q k h2 trivial hq
     obtain ⟨b1,b2,b3⟩:=prs_bd h f .alt [] (i+2) 0 q k h2 hq
     simp only [] at e hz b3
     split at e
     ·simp only [Option.some.injEq,Rs.ok.injEq,Prod.mk.injEq] at e
      obtain ⟨⟨-,rfl⟩,rfl⟩:=e
      simp only []
      omega
     ·cases e
  ·cases e
/-- Between two rules. -/
structure RlI (L:List Wd) (gr g2:Nat) (w wr:World) (τ:Nat->Nat) (acc:List (Wd×Pt)) (j:Nat):Prop where
 tr:TrW wr g2 τ (treeF 0 acc).1 (treeF 0 acc).2
 rd:RdW L (gr+1) gr j (0:Nat) wr
 ap:Ap τ gr g2
 lt:j < L.length
 nb:(treeF 0 acc).2.length<=2 * j
 rb:(treeF 0 acc).1.length<=j
 dg:hrow wr (g2+1) #[.int .i64 0,.int .i64 0] 34
 lo:Below w.heap.size w wr
 fresh:∀ k,τ k ≠ 0->w.heap.size<=k
 g3:g2+1 < gr
 le:w.heap.size<=g2
theorem RlI.rule {L:List Wd} {gr g2 f i:Nat} {w wr w':World} {τ:Nat->Nat} {acc:List (Wd×Pt)} {x:Wd×Pt} {j:Nat} {e:Ending} (h:RlI L gr g2 w wr τ acc i) (hW:WsOk L) (hr:rulP L f i=some (.ok x j)) (hp:RulP L gr g2 τ (treeF 0 acc).1 (treeF 0 acc).2 (.ok x j) wr e w'):e=.returned (.tuple #[])/\∃ τ',RlI L gr g2 w w' τ' (acc ++ [x]) j:=by
 obtain ⟨he,τ',h1,h2,h3,h4⟩:=hp
 obtain ⟨s1,s2,s3⟩:=rulP_sz hW h.lt hr
 obtain ⟨wd,p⟩:=x
 have hsn:=treeF_snoc 0 acc wd p
 simp only [Nat.zero_add] at hsn
 have hg3:τ (g2+1)=0:=h.ap.2 _ (by have:=h.g3;omega) (by omega)
 have hws:w.heap.size<=wr.heap.size:=h.lo.size
 have hgrl:=h.rd.lt
 have hgrs:=h.rd.le
 refine ⟨he,τ',by rw [hsn];exact h1,h2,⟨h.ap.1,fun k hk hn=>?_⟩,s3,?_,?_,h.dg.fr h3 (fun e=>?_),?_,fun k hk=>?_,h.g3,h.le⟩
 ·rw [h4 k (by omega)];exact h.ap.2 k hk hn
 ·rw [hsn];simp only [List.length_append,flat_len];have:=h.nb;simp only [] at s1;omega
 ·rw [hsn];simp only [List.length_append,List.length_cons,List.length_nil];have:=h.rb;omega
 ·rcases e with e | e
  ·have:=h.g3;omega
  ·exact e hg3
 ·exact h.lo.trans (h3.below hws (fun k hk e=>by
   rcases e with e | e
   ·have:=h.g3;have:=h.le;omega
   ·have:=h.fresh k e;omega))
 ·rcases Nat.lt_or_ge k wr.heap.size with hk1 | hk1
  ·rw [h4 k hk1] at hk;exact h.fresh k hk
  ·omega
theorem rlI_slices {L:List Wd} {gr g2 j:Nat} {w wr x:World} {τ:Nat->Nat} {acc:List (Wd×Pt)} (h:RlI L gr g2 w wr τ acc j) (hf:Fr (fun k=>k=gr) wr x):(∃ (a b c e f:Option Addr) (n1 n2 n3 n4 n5 c1 c2 c3 c4 c5:Nat),hrow x g2 #[.slice a n1 c1,.slice b n2 c2,.slice c n3 c3,.slice e n4 c4,.slice f n5 c5] 29)/\hrow x (g2+1) #[.int .i64 0,.int .i64 0] 34/\Below w.heap.size w x:=by
 obtain ⟨a,b,c,e,f,n1,n2,n3,n4,n5,c1,c2,c3,c4,c5,h1⟩:=h.tr.slices
 have:=h.g3
 have:=h.le
 exact ⟨⟨a,b,c,e,f,n1,n2,n3,n4,n5,c1,c2,c3,c4,c5,h1.fr hf (fun e=>by omega)⟩,h.dg.fr hf (fun e=>by omega),h.lo.trans (hf.below h.lo.size (fun k hk e=>by omega))⟩
/-- The door, where a rule was none. -/
theorem text_door {L:List Wd} {gr g2 j e0 a0:Nat} {w wr x:World} {τ:Nat->Nat} {acc:List (Wd×Pt)} {l:List UInt8} {tmps:Array Value} (ht2:tmps.getD 2 undef=.pointer (some ⟨g2,0,none⟩)) (ht3:tmps.getD 3 undef=.pointer (some ⟨g2+1,0,none⟩))
  (h:RlI L gr g2 w wr τ acc j) (hf:Fr (fun k=>k=gr) wr x) (hr:readT l=(([],[]),e0,a0)):
  Leaves Tryz.prog Tryz.f11 tmps (fun e w'=>TxtP l w e w') [{ target:=.fn (.func 35) #[.pointer (some ⟨g2,0,none⟩),.pointer (some ⟨g2+1,0,none⟩)],args:=#[] }] (.panicking [{ v:=diagE e0 a0,recovered:=false }]) x:=by
 obtain ⟨⟨a,b,c,e,f,n1,n2,n3,n4,n5,c1,c2,c3,c4,c5,h2⟩,h3,hb⟩:=rlI_slices h hf
 refine leaves_cons (f:=35) (args:=#[.pointer (some ⟨g2,0,none⟩),.pointer (some ⟨g2+1,0,none⟩)]) (by simp) (by simp [go_sem]) ?_
 refine (text1_panic g2 (g2+1) e0 a0 _ _ _ _ _ _ _ x h2 h3 (by omega)).mono ?_
 rintro e u' w'' ⟨rfl,rfl,k2,k3,kf⟩
 refine ⟨_,results_c2 rfl _ _ _ _ _ _ ht2 ht3 (tree_ld k2) (diag_ld k3),?_⟩
 unfold TxtP
 rw [hr]
 have:=h.le
 exact ⟨_,_,_,_,_,rfl,treeOut_nil _ _,hb.trans (kf.below hb.size (fun k hk e=>by omega))⟩
theorem text_walk (s:ByteArray) (w:World) (hs:s.size<=16384):Calls Tryz.prog 11 #[.string s] w fun e w'=>TxtP s.data.toList w e w':=by
 have hmf:∀ (fn:Fn) (first cap:Array Value) (w:World),(Instr.makeFunc fn first cap).run Tryz.prog w=.ok (.func fn first cap) w:=fun _ _ _ _=>rfl
 have HA:=Lib.hid (fun x=>all_any s x hs)
 unfold AllP at HA
 cases hw:(wordsOf s.data.toList).2 with
 | some p=>
  have HRT:Hid (readT s.data.toList=(([],[]),7,p)):=by
   unfold Hid readT
   rw [hw]
  rw [hw] at HA
  simp only [] at HA
  clear hw
  go_enter_defers Tryz.func11,Tryz.ntmps11
  go_wp2_with fail
  refine (HA.out _).mono ?_
  rintro e x ⟨rfl,hb⟩
  have HB:=Lib.hid hb
  clear hb HA
  have hw1:=(Below.refl _ w).alloc (Nat.le_refl _) (.cells #[.slice none 0 0,.slice none 0 0,.slice none 0 0,.slice none 0 0,.slice none 0 0] 29)
  have hw2:=hw1.alloc hw1.size (.cells #[.int .i64 0,.int .i64 0] 34)
  have h2:=((hrow.new w #[.slice none 0 0,.slice none 0 0,.slice none 0 0,.slice none 0 0,.slice none 0 0] 29).below ((Below.refl _ _).alloc (Nat.le_refl _) (.cells #[.int .i64 0,.int .i64 0] 34))).below HB.out
  have h3:=(hrow.new (w.alloc (.cells #[.slice none 0 0,.slice none 0 0,.slice none 0 0,.slice none 0 0,.slice none 0 0] 29)) #[.int .i64 0,.int .i64 0] 34).below HB.out
  rw [World.size_alloc] at h3
  have HW:=Lib.hid (hw2.trans (HB.out.mono hw2.size))
  have k0:=h2.cell 0;have k1:=h2.cell 1;have k2:=h2.cell 2;have k3:=h2.cell 3;have k4:=h2.cell 4
  have e0:=h2.frozen 0;have e1:=h2.frozen 1;have e2:=h2.frozen 2;have e3:=h2.frozen 3;have e4:=h2.frozen 4
  have l0:=h3.cell 0;have l1:=h3.cell 1;have m0:=h3.frozen 0;have m1:=h3.frozen 1
  have H2:=Lib.hid h2;have H3:=Lib.hid h3
  clear hw1 hw2 h2 h3 HB
  generalize hg2:w.heap.size=g2 at *
  have hne:g2 ≠ g2+1:=by omega
  go_wp2_with fail
  clear k0 k1 k2 k3 k4 e0 e1 e2 e3 e4 l0 l1 m0 m1
  obtain ⟨z,hz,z2,z3,zf⟩:=stores7 (.slice none 0 0) (.slice none 0 0) (.slice none 0 0) (.slice none 0 0) (.slice none 0 0) (.int .i64 7) (.int .i64 p) H2.out H3.out hne
  rw [hz]
  refine ⟨_,results_c2 rfl _ _ _ _ _ _ rfl rfl (tree_ld z2) (diag_ld z3),?_⟩
  unfold TxtP
  rw [HRT.out,hg2]
  exact ⟨_,_,_,_,_,rfl,treeOut_nil _ _,HW.out.trans (zf.below (by rw [← hg2];exact HW.out.size) (fun k hk e=>by omega))⟩
 | none=>
  have hok:=(words_at hw).ok
  have hll:=words_len s.data.toList
  have hsl:s.data.toList.length=s.size:=ba_len s
  have HRT:Hid (readT s.data.toList=match readW (wordsOf s.data.toList).1 with | .ok x _=>(treeF 0 x,0,0) | .err e a=>(([],[]),e,a)):=by
   unfold Hid readT
   rw [hw]
   simp only []
   generalize readW (wordsOf s.data.toList).1=r
   cases r <;> rfl
  rw [hw] at HA
  simp only [] at HA
  clear hw
  generalize (wordsOf s.data.toList).1=L at *
  have hL2:L.length<=16385:=by omega
  have HL:=Lib.hid hL2;have HW:=Lib.hid hok
  obtain ⟨rr,hrr⟩:∃ rr,rulsP L (6 * L.length+4) (L.length+1) [] 0=some rr:=by
   cases h:rulsP L (6 * L.length+4) (L.length+1) [] 0 with
   | none=>exact absurd h (rulsP_tot hok _ (Nat.le_refl _) _ _ _ hok.pos (by omega))
   | some r=>exact ⟨r,rfl⟩
  have HRW:Hid (readW L=rr):=by unfold Hid readW;rw [hrr]
  rw [rulsP_cont] at hrr
  have HC:=Lib.hid hrr
  clear hrr hll hsl hL2 hok
  go_enter_defers Tryz.func11,Tryz.ntmps11
  go_wp2_with fail
  refine (HA.out _).mono ?_
  rintro e x ⟨v,rfl,how,hb⟩
  obtain ⟨ao,cap,rfl,hsv⟩:=Sv.of_owns how
  have HB:=Lib.hid hb
  have HSV:=Lib.hid hsv
  clear hb HA how hsv
  have hw1:=(Below.refl _ w).alloc (Nat.le_refl _) (.cells #[.slice none 0 0,.slice none 0 0,.slice none 0 0,.slice none 0 0,.slice none 0 0] 29)
  have hw2:=hw1.alloc hw1.size (.cells #[.int .i64 0,.int .i64 0] 34)
  have h2:=((hrow.new w #[.slice none 0 0,.slice none 0 0,.slice none 0 0,.slice none 0 0,.slice none 0 0] 29).below ((Below.refl _ _).alloc (Nat.le_refl _) (.cells #[.int .i64 0,.int .i64 0] 34))).below HB.out
  have h3:=(hrow.new (w.alloc (.cells #[.slice none 0 0,.slice none 0 0,.slice none 0 0,.slice none 0 0,.slice none 0 0] 29)) #[.int .i64 0,.int .i64 0] 34).below HB.out
  rw [World.size_alloc] at h3
  have HWW:=Lib.hid (hw2.trans (HB.out.mono hw2.size))
  have H2:=Lib.hid h2;have H3:=Lib.hid h3
  clear hw1 hw2 h2 h3 HB
  obtain ⟨g2,hg2⟩:∃ g2,w.heap.size=g2:=⟨_,rfl⟩
  rw [hg2] at H2 H3
  rw [hg2]
  have HG2:=Lib.hid hg2
  clear hg2
  go_upto_region 6 with (fail)
  have hlt2:g2 < x.heap.size:=H2.out.lt
  have hlt3:g2+1 < x.heap.size:=H3.out.lt
  have hba:=(Below.refl _ x).alloc (Nat.le_refl _) (.cells #[.slice ao L.length cap,.int .i64 0,.int .i64 0] 77)
  have HI0:Hid (RlI L x.heap.size g2 w (x.alloc (.cells #[.slice ao L.length cap,.int .i64 0,.int .i64 0] 77)) (fun k=>if k=g2 then 1 else 0) [] 0):={
   tr:=⟨⟨_,_,_,_,_,[],H2.out.below hba,⟨fun k hk=>if_neg (fun e=>by subst e;have:=(H2.out.below hba).lt;omega),RowT.nil _ _ _ _ _,RowT.nil _ _ _ _ _,RowT.nil _ _ _ _ _,RowT.nil _ _ _ _ _,RowT.nil _ _ _ _ _,fun i h=>by simp at h⟩,rfl⟩,if_pos rfl⟩
   rd:=RdW.start HSV.out HW.out.pos
   ap:=⟨hlt2,fun k _ hn=>if_neg hn⟩
   lt:=HW.out.pos
   nb:=Nat.zero_le _
   rb:=Nat.zero_le _
   dg:=H3.out.below hba
   lo:=HWW.out.trans (hba.mono HWW.out.size)
   fresh:=fun k hk=>by
    by_cases e:k=g2
    ·rw [e,HG2.out];exact Nat.le_refl _
    ·simp only [if_neg e] at hk;exact absurd rfl hk
   g3:=hlt3
   le:=Nat.le_of_eq HG2.out }
  clear H2 H3 HSV hba hlt2 hlt3 HWW
  revert HI0
  generalize x.alloc (.cells #[.slice ao L.length cap,.int .i64 0,.int .i64 0] 77)=x2
  generalize x.heap.size=gr
  generalize (fun k=>if k=g2 then 1 else 0)=τ0
  intro HI0
  obtain ⟨r1,hr1⟩:∃ r1,rulP L (6 * L.length+4) 0=some r1:=by
   cases h:rulP L (6 * L.length+4) 0 with
   | none=>have:=HC.out;rw [h] at this;cases this
   | some r=>exact ⟨r,rfl⟩
  have hc:=HC.out
  rw [hr1] at hc
  have HRU:=Lib.hid (rule_walk L gr g2 (6 * L.length+4) 0 τ0 _ _ x2 r1 HW.out (by have:=HL.out;omega) hr1 HI0.out.rd HI0.out.lt HI0.out.tr HI0.out.ap (fun y j e=>by subst e;have h1:=(rulP_sz HW.out HI0.out.lt hr1);have h2:=HL.out;have h3:=HI0.out.nb;omega) (by have:=HI0.out.rb;omega))
  have HR1:=Lib.hid hr1
  clear hr1
  unfold ptr at HRU
  cases r1 with
  | err e0 a0=>
   have hrr:rr=.err e0 a0:=by simpa using hc.symm
   clear hc
   go_wp2_with fail
   refine HRU.out.mono ?_
   rintro e x3 ⟨rfl,hf3⟩
   have HF3:=Lib.hid hf3
   clear hf3 HRU
   unfold badE
   go_wp2_with fail
   exact text_door rfl rfl HI0.out HF3.out (by rw [HRT.out,HRW.out,hrr])
  | ok y j=>
   simp only [List.nil_append] at hc
   have HC1:=Lib.hid hc
   clear hc HC
   go_wp2_with fail
   refine HRU.out.mono ?_
   intro e x3 hp
   obtain ⟨rfl,τ1,hI1⟩:=HI0.out.rule HW.out HR1.out hp
   have HI1:=Lib.hid hI1
   clear hp hI1 HRU HI0 HR1
   go_wp2_with fail
   go_loopw [] (fun wr=>∃ (acc:List (Wd×Pt)) (jj:Nat) (τ:Nat->Nat) (g:Nat),Hid (contP L (6 * L.length+4) g acc jj=some rr)/\Hid (RlI L gr g2 w wr τ acc jj)) (fun wr=>L.length - posOf wr gr)
   case atStart=>exact ⟨_,_,_,_,HC1.out,HI1.out⟩
   case round=>
    obtain ⟨acc,jj,τ,g,HC2,HR⟩:=hrel
    have hwd:=word_any2 L (gr+1) gr jj (0:Nat) wr HR.out.rd HR.out.lt
    have hf0:=wfld0
    unfold ptr wdD wdA at hwd
    have HWD:=Lib.hid hwd
    clear hwd
    by_cases hk:(wdAt L jj).kind=1
    ·have hkI:((wdAt L jj).kind:Int)=1:=by omega
     have hrr:rr=.ok acc jj:=by have h:=HC2.out;unfold contP at h;rw [if_pos hk] at h;simpa using h.symm
     clear hk
     go_wp2_with fail
     refine HWD.out.mono ?_
     rintro e x4 ⟨rfl,hb4⟩
     have HB4:=Lib.hid hb4
     clear hb4 HWD
     go_upto_region 9 with (fail)
     obtain ⟨⟨v1,v2,v3,v4,v5,NK,hg,htr,hnk⟩,htg⟩:=HR.out.tr.below HB4.out
     have hdg:=HR.out.dg.below HB4.out
     have HLO:=Lib.hid (HR.out.lo.trans (HB4.out.mono HR.out.lo.size))
     have HRF:=Lib.hid HR.out
     obtain ⟨q1,d1,rfl,-⟩:=htr.t2.sv
     obtain ⟨q2,d2,rfl,-⟩:=htr.t3.sv
     obtain ⟨q3,d3,rfl,-⟩:=htr.t4.sv
     obtain ⟨q4,d4,rfl,-⟩:=htr.t5.sv
     obtain ⟨q5,d5,rfl,-⟩:=htr.t6.sv
     simp only [List.length_map] at htr hg
     have HTR:=Lib.hid htr;have HNK:=Lib.hid hnk;have HTG:=Lib.hid htg;have HG:=Lib.hid hg;have HDG:=Lib.hid hdg
     have k0:=hg.cell 0;have k1:=hg.cell 1;have k2:=hg.cell 2;have k3:=hg.cell 3;have k4:=hg.cell 4
     have e0:=hg.frozen 0;have e1:=hg.frozen 1;have e2:=hg.frozen 2;have e3:=hg.frozen 3;have e4:=hg.frozen 4
     have l0:=hdg.cell 0;have l1:=hdg.cell 1;have m0:=hdg.frozen 0;have m1:=hdg.frozen 1
     have hne:g2 ≠ g2+1:=by omega
     clear htr hnk htg hg hdg HB4 HR HC2 HC1 HI1
     go_region
     clear k0 k1 k2 k3 k4 e0 e1 e2 e3 e4 l0 l1 m0 m1
     obtain ⟨z,hz,z2,z3,zf⟩:=stores7 (.slice q1 (treeF 0 acc).1.length d1) (.slice q2 NK.length d2) (.slice q3 (treeF 0 acc).1.length d3) (.slice q4 (treeF 0 acc).2.length d4) (.slice q5 (treeF 0 acc).2.length d5) (.int .i64 0) (.int .i64 0) HG.out HDG.out hne
     rw [hz]
     have hbd:=(Below.refl z.heap.size z).drew
     have Z2:=Lib.hid (z2.below hbd);have Z3:=Lib.hid (z3.below hbd);have ZF:=Lib.hid (zf.trans (Fr.of_below (F:=fun _=>False) hbd) (fun _ _ e=>e.elim))
     clear hz z2 z3 zf hbd
     generalize z.drew=z' at Z2 Z3 ZF ⊢
     go_wp2_with fail
     refine leaves_cons (f:=35) (args:=#[.pointer (some ⟨g2,0,none⟩),.pointer (some ⟨g2+1,0,none⟩)]) (by simp) (by simp [go_sem]) ?_
     refine (text1_idle g2 (g2+1) _).mono ?_
     rintro e u' w'' ⟨rfl,rfl,rfl⟩
     refine ⟨_,results_c2 rfl _ _ _ _ _ _ rfl rfl (tree_ld Z2.out) (diag_ld Z3.out),?_⟩
     unfold TxtP
     rw [HRT.out,HRW.out,hrr]
     have hg3:τ (g2+1)=0:=HRF.out.ap.2 _ (by have:=HRF.out.g3;omega) (by omega)
     refine ⟨_,_,_,_,_,rfl,⟨τ,NK,HTR.out.fr ZF.out (fun k _ h1 h2=>?_),HNK.out,HRF.out.fresh⟩,HLO.out.trans (ZF.out.below HLO.out.size (fun k hk e=>by have:=HRF.out.le;omega))⟩
     rcases h2 with h2 | h2
     ·rw [h2,HTG.out] at h1;omega
     ·rw [h2,hg3] at h1;omega
    ·have hkI:¬ ((wdAt L jj).kind:Int)=1:=by omega
     have hc:=HC2.out
     unfold contP at hc
     rw [if_neg hk] at hc
     cases g with
     | zero=>exact absurd hc (by simp [rulsP])
     | succ g=>
     rw [rulsP_cont] at hc
     obtain ⟨r1,hr1⟩:∃ r1,rulP L (6 * L.length+4) jj=some r1:=by
      cases h:rulP L (6 * L.length+4) jj with
      | none=>rw [h] at hc;cases hc
      | some r=>exact ⟨r,rfl⟩
     rw [hr1] at hc
     clear hk HC2
     go_wp2_with fail
     refine HWD.out.mono ?_
     rintro e x4 ⟨rfl,hb4⟩
     have HR4:Hid (RlI L gr g2 w x4 τ acc jj):={ tr:=HR.out.tr.below hb4,rd:=HR.out.rd.below hb4,ap:=HR.out.ap,lt:=HR.out.lt,nb:=HR.out.nb,rb:=HR.out.rb,dg:=HR.out.dg.below hb4,lo:=HR.out.lo.trans (hb4.mono HR.out.lo.size),fresh:=HR.out.fresh,g3:=HR.out.g3,le:=HR.out.le }
     have HPOS:=Lib.hid HR.out.rd.pos
     have HRU:=Lib.hid (rule_walk L gr g2 (6 * L.length+4) jj τ _ _ x4 r1 HW.out (by have:=HL.out;omega) hr1 HR4.out.rd HR4.out.lt HR4.out.tr HR4.out.ap (fun y j e=>by subst e;have h1:=(rulP_sz HW.out HR4.out.lt hr1);have h2:=HL.out;have h3:=HR4.out.nb;omega) (by have h1:=HR4.out.rb;have h2:=HR4.out.lt;have h3:=HL.out;omega))
     have HR1:=Lib.hid hr1
     clear hb4 HWD HR hr1
     unfold ptr at HRU
     cases r1 with
     | err e0 a0=>
      have hrr:rr=.err e0 a0:=by simpa using hc.symm
      clear hc
      go_wp2_with fail
      refine HRU.out.mono ?_
      rintro e x5 ⟨rfl,hf5⟩
      have HF5:=Lib.hid hf5
      clear hf5 HRU
      unfold badE
      go_wp2_with fail
      exact text_door rfl rfl HR4.out HF5.out (by rw [HRT.out,HRW.out,hrr])
     | ok y j=>
      have HC3:=Lib.hid hc
      clear hc
      go_wp2_with fail
      refine HRU.out.mono ?_
      intro e x5 hp
      obtain ⟨rfl,τ5,hI5⟩:=HR4.out.rule HW.out HR1.out hp
      have HI5:=Lib.hid hI5
      have HJ:=Lib.hid (rulP_sz HW.out HR4.out.lt HR1.out)
      clear hp hI5 HRU HR1
      go_wp2_with fail
      go_roundw
      case rel=>exact ⟨_,_,_,_,HC3.out,HI5.out⟩
      case measure=>
       have h1:=HI5.out.rd.pos;have h2:=HPOS.out;have h3:=HJ.out;have h4:=HR4.out.lt
       rw [h1,h2];omega
end Go.Proofs.YtgjhepblpdnkcaaGreatDoor
