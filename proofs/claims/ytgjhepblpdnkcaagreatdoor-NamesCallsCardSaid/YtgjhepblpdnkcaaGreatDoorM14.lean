/- Walks and plain laws: Gb Ig If Ih Ke. -/
import Derived.Test.YtgjhepblpdnkcaaGreatDoorM11
import Derived.Test.YtgjhepblpdnkcaaGreatDoorM13
import Derived.Test.YtgjhepblpdnkcaaGreatDoorM10
import Derived.Test.YtgjhepblpdnkcaaGreatDoorM12
namespace Go.Proofs.YtgjhepblpdnkcaaGreatDoor
open Go.RowKit Go.Shelf Go.ChangeMaps
attribute [local go_sem] Oper.semAt_some
set_option maxRecDepth 100000
set_option maxHeartbeats 1000000

theorem ru_sz2:(Tryz.prog.info? 49).map (·.size)=some 2:=by decide +kernel
def ruD (r:Ru):Array Value:=#[.string r.name,.int .i64 r.body]
def ruAt (l:List Ru) (i:Nat):Ru:=l.getD i ⟨⟨#[]⟩,0⟩
theorem ruAt_in {l:List Ru} {i:Nat} (h:i < l.length):ruAt l i=l[i]:=by unfold ruAt;rw [List.getD_eq_getElem?_getD,List.getElem?_eq_getElem h];rfl
/-- Rules from behind, each with its number. -/
def backR (l:List Ru):List (Nat×Ru):=(List.range l.length).reverse.map fun i=>(i,ruAt l i)
theorem backR_len (l:List Ru):(backR l).length=l.length:=by simp [backR]
theorem backR_at (l:List Ru) (k:Nat) (h:k < l.length):(backR l)[k]?=some (l.length - 1 - k,ruAt l (l.length - 1 - k)):=by
 unfold backR
 rw [List.getElem?_map,List.getElem?_reverse (by simpa using h)]
 simp only [List.length_range]
 rw [List.getElem?_range (by omega)];rfl
theorem backR_take (l:List Ru) (k:Nat) (h:k < l.length):(backR l).take (k+1)=(backR l).take k ++ [(l.length - 1 - k,ruAt l (l.length - 1 - k))]:=by
 rw [List.take_add_one,backR_at l k h];rfl
def enR (x:Nat×Ru):Array Value:=#[.int .i64 x.1,.agg (ruD x.2)]
/-- A map that is filled: the later of two wins. -/
def putF (xs:List (Nat×Ru)):ByteArray->Option Nat:=xs.foldl (fun F x=>fun u=>if x.2.name=u then some x.1 else F u) (fun _=>none)
theorem putF_snoc (xs:List (Nat×Ru)) (x:Nat×Ru):putF (xs ++ [x])=fun u=>if x.2.name=u then some x.1 else putF xs u:=by
 unfold putF;rw [List.foldl_append];rfl
theorem putF_take (l:List Ru):∀ m,m<=l.length->putF ((backR l).take m)=fun s=>fixF (l.drop (l.length - m)) s (l.length - m)
 | 0,_=>by
  funext s
  rw [Nat.sub_zero,List.drop_length]
  rfl
 | m+1,hm=>by
  rw [backR_take l m (by omega),putF_snoc,putF_take l m (by omega)]
  funext s
  have hk:l.length - (m+1) < l.length:=by omega
  rw [fixF_drop l s (l.length - (m+1)) hk,show l.length - (m+1)+1=l.length - m by omega]
  simp only [show l.length - 1 - m=l.length - (m+1) by omega]
  rw [ruAt_in hk]
theorem putF_all (l:List Ru):putF (backR l)=fun s=>fixF l s 0:=by
 have:=putF_take l l.length (Nat.le_refl _)
 rw [List.take_of_length_le (by rw [backR_len];exact Nat.le_refl _),Nat.sub_self,List.drop_zero] at this
 exact this
theorem rback_any (ao:Option Addr) (n cap:Nat) (w:World):Calls Tryz.prog 80 #[.slice ao n cap] w fun e w'=>e=.returned (.func (.func 123) #[] #[.pointer (some ⟨w.heap.size,0,none⟩)])/\w'=w.alloc (.cells #[.slice ao n cap] 22):=by
 have hmf:∀ (fn:Fn) (first cap:Array Value) (w:World),(Instr.makeFunc fn first cap).run Tryz.prog w=.ok (.func fn first cap) w:=fun _ _ _ _=>rfl
 go_enter Tryz.func80,Tryz.ntmps80
 go_wp2_with fail
 go_ret
 exact ⟨rfl,rfl⟩
theorem rback1_stops (ws:List Ru) (ao:Option Addr) (cap B P n:Nat) (w:World) (hc:w.cell? ⟨B,0,none⟩=some (.slice ao ws.length cap)) (hs:Sv w ao ws.length cap 2 (ws.flatMap ruc)) (hBP:B ≠ P) (haP:∀ a,ao=some a->0 < ws.length->a.block ≠ P) (hL:ws.length<=1000000):
  SeqStopsK Fence.wide n Tryz.prog 123 #[.pointer (some ⟨B,0,none⟩)] enR (KpC P) (fun xs=>xs=backR ws) (fun _=>True) ws.length w:=fun l J Jx W hW hJ hJx hY h0=>by
 have hW0:W.cell? ⟨B,0,none⟩=some (.slice ao ws.length cap):=(hW.cell (p:=⟨B,0,none⟩) (World.block_lt_of_cell? w _ hc)).trans hc
 have hsW:=hs.below hW
 have HC:=Lib.hid hW0;have HS:=Lib.hid hsW;have HY:=Lib.hid hY;have H0:=Lib.hid h0;have HL:=Lib.hid hL
 have HB:=Lib.hid hBP;have HA:=Lib.hid haP
 clear hs hJ hJx hY h0 hW hW0 hsW hBP haP hc
 refine callsIn_of_wp Tryz.func123 rfl trivial ?_ rfl
 simp only [Tryz.ntmps123,List.size_toArray,List.length_cons,List.length_nil,Nat.reduceAdd,Nat.reduceSub,Array.replicate_succ,Array.replicate_zero,List.push_toArray,List.append_toArray,List.nil_append,List.cons_append]
 have hc0:=HC.out
 gi_wp2
 clear hc0
 gi_loopw [3] (fun p wr=>∃ m:Nat,m<=ws.length/\p=.int .i64 ((m:Int) - 1)/\Hid (J ((backR ws).take (ws.length - m)) wr/\KpC P W wr)) (fun p _=>(intOf p+1).toNat)
 case atStart=>exact ⟨ws.length,Nat.le_refl _,rfl,by unfold Hid;rw [Nat.sub_self];exact ⟨H0.out,kpC_refl _ _⟩⟩
 case round=>
  obtain ⟨m,hm,rfl,HI⟩:=hrel
  cases m with
  | zero=>
   have hlt:¬ (0:Int)<=((0:Nat):Int) - 1:=by omega
   gi_wp2
   go_end0
   exact ⟨⟨_,rfl⟩,.inl (by have:=HI.out.1;rw [Nat.sub_zero,List.take_of_length_le (by rw [backR_len];omega)] at this;exact this)⟩
  | succ i=>
   have hi:i < ws.length:=by omega
   obtain ⟨a,rfl,hp⟩:=Sv.at ruc_len HS.out (by decide) i hi
   have e1:((i+1:Nat):Int) - 1=(i:Int):=by omega
   rw [e1]
   have hge:(0:Int)<=(i:Int):=by omega
   have hiI:(i:Int) < ws.length:=by omega
   have hcr:ws.length<=1000000:=HL.out
   have hbx:=HI.out.2.cell HC.out HB.out
   have HPW:Hid ((loadVar 49 (a.add (i * 2))).run Tryz.prog wr=.ok (.agg (ruD (ruAt ws i))) wr):=by
    rw [ruAt_in hi]
    exact run_loadVar_part wr (a.add (i * 2)) _ _ _ (fun j v hj=>HI.out.2.cell (hp j v hj) (by simp only [add_block];exact HA.out a rfl (by omega))) Tryz.underlying49 rfl ru_sz2
   have HT:=Lib.hid (backR_take ws (ws.length - 1 - i) (by omega))
   have e2:ws.length - 1 - (ws.length - 1 - i)=i:=by omega
   have e3:ws.length - 1 - i+1=ws.length - i:=by omega
   have e4:ws.length - (i+1)=ws.length - 1 - i:=by omega
   rw [e2,e3] at HT
   obtain ⟨fn,tmps,assign,body,hy,hR⟩:=HY.out _ (i,ruAt ws i) wr HI.out.1 (by rw [List.length_take,backR_len];omega)
   have hy2:(Instr.yield l #[.int .i64 i,.agg (ruD (ruAt ws i))]).run Tryz.prog wr=.ok (.round l fn tmps assign body) wr:=hy
   have HRo:=Lib.hid hR
   have HKW:=Lib.hid HI.out.2
   clear hy hR hp e1 e2 e3
   rw [e4] at HRo
   rw [← HT.out] at HRo
   clear HT e4 hm
   gi_wp2_with (refine wpListIn_load_part rfl 49 (.tmp 15) rfl (a.add (i * 2)) rfl _ HPW.out ?_)
   refine ⟨fun h=>(by cases h),HRo.out.mono ?_⟩
   rintro e W' (⟨rfl,hJ',hkp⟩ | ⟨rfl,hJx'⟩)
   ·have HJ':=Lib.hid hJ'
    have HK':=Lib.hid (kpC_t HKW.out hkp)
    clear hJ' hkp
    gi_wp2
    go_roundw
    case rel=>exact ⟨i,by omega,rfl,HJ'.out,HK'.out⟩
    case measure=>simp [intOf]
   ·have HJ':=Lib.hid hJx';clear hJx'
    gi_wp2
    refine bodyPost_ret (results_none rfl _ _ _) rfl ?_
    exact ⟨⟨_,rfl⟩,.inr ⟨_,trivial,HJ'.out⟩⟩
end Go.Proofs.YtgjhepblpdnkcaaGreatDoor
namespace Go.Proofs.YtgjhepblpdnkcaaGreatDoor

/-! ### Words with blanks between -/
/-- The same word, wherever it stands. -/
def like (w x:Wd):Prop:=x.kind=w.kind/\x.tx=w.tx/\x.lv=w.lv/\x.cl=w.cl
theorem like.refl (w:Wd):like w w:=⟨rfl,rfl,rfl,rfl⟩
theorem like.far {n:Nat} {w x:Wd} (h:like w x):like w (x.far n):=h
end Go.Proofs.YtgjhepblpdnkcaaGreatDoor
namespace Go.Proofs.YtgjhepblpdnkcaaGreatDoor

/-- A node by itself. -/
def WfN (L:List Wd) (k:Nat) (t:List UInt8) (a:Nat) (nm:List UInt8) (ks:List Pt):Prop:=
 ∃ i,i+1 < L.length/\a=(wdAt L i).at_/\(k=5->nm=(wdAt L i).tx/\(wdAt L i).kind=2)/\(k ≠ 5->nm=[])/\(t=if k=4 then (wdAt L i).tx else [])/\((k=6∨k=7)->2<=ks.length/\∃ q r,ks=q :: r/\q.at_=a)
mutual
def WfP (L:List Wd):Pt->Prop
 | .mk k _ t _ a nm ks=>WfN L k t a nm ks/\WfL L ks
def WfL (L:List Wd):List Pt->Prop
 | []=>True
 | p :: ps=>WfP L p/\WfL L ps
end
theorem wfL_app {L:List Wd}:∀ (a b:List Pt),WfL L a->WfL L b->WfL L (a ++ b)
 | [],b,_,h=>h
 | p :: a,b,h,hb=>by
  show WfL L (p :: (a ++ b))
  unfold WfL at h ⊢
  exact ⟨h.1,wfL_app a b h.2 hb⟩
theorem wfP_at {L:List Wd}:∀ {p:Pt},WfP L p->∃ i,i+1 < L.length/\p.at_=(wdAt L i).at_
 | .mk ..,h=>by unfold WfP at h;obtain ⟨⟨i,h1,h2,_⟩,_⟩:=h;exact ⟨i,h1,h2⟩
theorem wf_grp {L:List Wd} {k:Nat} (hk:k=6∨k=7):∀ (l:List Pt),l ≠ []->WfL L l->WfP L (grp k l)
 | [],h,_=>absurd rfl h
 | [p],_,h=>by unfold WfL at h;exact h.1
 | p :: q :: r,_,h=>by
  have h1:WfP L p:=by unfold WfL at h;exact h.1
  obtain ⟨i,hi,ha⟩:=wfP_at h1
  show WfP L (.mk k [] [] 0 p.at_ [] (p :: q :: r))
  unfold WfP
  exact ⟨⟨i,hi,ha,fun e=>by omega,fun _=>rfl,(if_neg (by omega)).symm,fun _=>⟨by simp,p,q :: r,rfl,rfl⟩⟩,h⟩
theorem wf_ovr {L:List Wd} {k i:Nat} {p:Pt} (hk:8<=k) (hi:i+1 < L.length) (h:WfP L p):WfP L (ovr k (wdAt L i).at_ p):=by
 unfold ovr WfP
 refine ⟨⟨i,hi,rfl,fun e=>by omega,fun _=>rfl,(if_neg (by omega)).symm,fun e=>by omega⟩,?_⟩
 unfold WfL
 exact ⟨h,by unfold WfL;trivial⟩
theorem wf_suf {L:List Wd} (h:WsOk L):∀ (f:Nat) (p:Pt) (i:Nat),i < L.length->WfP L p->WfP L (sufF L f p i).1
 | 0,p,i,hi,hp=>hp
 | f+1,p,i,hi,hp=>by
  unfold sufF
  split
  ·rename_i hh;exact wf_suf h f _ _ (h.after hi hh) (wf_ovr (by omega) (h.after hi hh) hp)
  ·split
   ·rename_i hh;exact wf_suf h f _ _ (h.after hi hh) (wf_ovr (by omega) (h.after hi hh) hp)
   ·split
    ·rename_i hh;exact wf_suf h f _ _ (h.after hi hh) (wf_ovr (by omega) (h.after hi hh) hp)
    ·exact hp
theorem prs_wf {L:List Wd} (h:WsOk L):∀ (f:Nat) (m:Md) (acc:List Pt) (i d:Nat) (p:Pt) (j:Nat),i < L.length->prs L f m acc i d=some (.ok p j)->WfL L acc->(match m with | .altM=>acc ≠ [] | .seqM=>acc ≠ [] | _=>True)->WfP L p
 | 0,m,acc,i,d,p,j,hi,e,_,_=>by simp [prs] at e
 | f+1,.alt,acc,i,d,p,j,hi,e,_,_=>by
  simp only [prs] at e
  cases hq:prs L f .seq [] i d with
  | none=>rw [hq] at e;cases e
  | some r=>
   rw [hq] at e
   cases r with
   | err a b=>cases e
   | ok q k=>
    simp only [] at e
    obtain ⟨h1,h2,h3⟩:=prs_bd h f .seq [] i d q k hi hq
    have hw:=prs_wf h f .seq [] i d q k hi hq (by unfold WfL;trivial) trivial
    exact prs_wf h f .altM [q] k d p j h1 e (by unfold WfL;exact ⟨hw,by unfold WfL;trivial⟩) (by simp)
 | f+1,.altM,acc,i,d,p,j,hi,e,ha,hn=>by
  simp only [prs] at e
  by_cases hh:hereW L i [47]=true
  ·rw [if_pos hh] at e
   cases hq:prs L f .seq [] (i+1) d with
   | none=>rw [hq] at e;cases e
   | some r=>
    rw [hq] at e
    cases r with
    | err a b=>cases e
    | ok q k=>
     simp only [] at e
     obtain ⟨h1,h2,h3⟩:=prs_bd h f .seq [] (i+1) d q k (h.after hi hh) hq
     have hw:=prs_wf h f .seq [] (i+1) d q k (h.after hi hh) hq (by unfold WfL;trivial) trivial
     exact prs_wf h f .altM (acc ++ [q]) k d p j h1 e (wfL_app _ _ ha (by unfold WfL;exact ⟨hw,by unfold WfL;trivial⟩)) (by simp)
  ·rw [if_neg hh] at e
   simp only [Option.some.injEq,Rs.ok.injEq] at e
   rw [← e.1]
   exact wf_grp (.inr rfl) _ hn ha
 | f+1,.seq,acc,i,d,p,j,hi,e,_,_=>by
  simp only [prs] at e
  cases hq:prs L f .item [] i d with
  | none=>rw [hq] at e;cases e
  | some r=>
   rw [hq] at e
   cases r with
   | err a b=>cases e
   | ok q k=>
    simp only [] at e
    obtain ⟨h1,h2,h3⟩:=prs_bd h f .item [] i d q k hi hq
    have hw:=prs_wf h f .item [] i d q k hi hq (by unfold WfL;trivial) trivial
    exact prs_wf h f .seqM [q] k d p j h1 e (by unfold WfL;exact ⟨hw,by unfold WfL;trivial⟩) (by simp)
 | f+1,.seqM,acc,i,d,p,j,hi,e,ha,hn=>by
  simp only [prs] at e
  by_cases hh:goesW L i=true
  ·rw [if_pos hh] at e
   cases hq:prs L f .item [] i d with
   | none=>rw [hq] at e;cases e
   | some r=>
    rw [hq] at e
    cases r with
    | err a b=>cases e
    | ok q k=>
     simp only [] at e
     obtain ⟨h1,h2,h3⟩:=prs_bd h f .item [] i d q k hi hq
     have hw:=prs_wf h f .item [] i d q k hi hq (by unfold WfL;trivial) trivial
     exact prs_wf h f .seqM (acc ++ [q]) k d p j h1 e (wfL_app _ _ ha (by unfold WfL;exact ⟨hw,by unfold WfL;trivial⟩)) (by simp)
  ·rw [if_neg hh] at e
   simp only [Option.some.injEq,Rs.ok.injEq] at e
   rw [← e.1]
   exact wf_grp (.inl rfl) _ hn ha
 | f+1,.item,acc,i,d,p,j,hi,e,_,_=>by
  simp only [prs] at e
  by_cases hh:hereW L i [33]=true
  ·rw [if_pos hh] at e
   cases hq:prs L f .item [] (i+1) d with
   | none=>rw [hq] at e;cases e
   | some r=>
    rw [hq] at e
    cases r with
    | err a b=>cases e
    | ok q k=>
     simp only [Option.some.injEq,Rs.ok.injEq] at e
     rw [← e.1]
     exact wf_ovr (by omega) (h.after hi hh) (prs_wf h f .item [] (i+1) d q k (h.after hi hh) hq (by unfold WfL;trivial) trivial)
  ·rw [if_neg hh] at e
   by_cases hh2:hereW L i [38]=true
   ·rw [if_pos hh2] at e
    cases hq:prs L f .item [] (i+1) d with
    | none=>rw [hq] at e;cases e
    | some r=>
     rw [hq] at e
     cases r with
     | err a b=>cases e
     | ok q k=>
      simp only [Option.some.injEq,Rs.ok.injEq] at e
      rw [← e.1]
      exact wf_ovr (by omega) (h.after hi hh2) (prs_wf h f .item [] (i+1) d q k (h.after hi hh2) hq (by unfold WfL;trivial) trivial)
   ·rw [if_neg hh2] at e
    cases hq:prs L f .prim [] i d with
    | none=>rw [hq] at e;cases e
    | some r=>
     rw [hq] at e
     cases r with
     | err a b=>cases e
     | ok q k=>
      simp only [Option.some.injEq,Rs.ok.injEq] at e
      obtain ⟨h1,h2,h3⟩:=prs_bd h f .prim [] i d q k hi hq
      rw [← e.1]
      exact wf_suf h _ _ _ h1 (prs_wf h f .prim [] i d q k hi hq (by unfold WfL;trivial) trivial)
 | f+1,.prim,acc,i,d,p,j,hi,e,_,_=>by
  simp only [prs] at e
  have one:(wdAt L i).kind ≠ 1->i+1 < L.length:=fun hk=>h.next hi hk
  have leaf:∀ (k:Nat) (cl:List (UInt8×UInt8)) (t:List UInt8) (lv:Int) (nm:List UInt8),i+1 < L.length->(k=5->nm=(wdAt L i).tx/\(wdAt L i).kind=2)->(k ≠ 5->nm=[])->(t=if k=4 then (wdAt L i).tx else [])->k < 6->WfP L (.mk k cl t lv (wdAt L i).at_ nm []):=fun k cl t lv nm h1 h2 h3 h4 h5=>by
   unfold WfP
   exact ⟨⟨i,h1,rfl,h2,h3,h4,fun e=>by omega⟩,by unfold WfL;trivial⟩
  split at e
  ·rename_i hk;simp only [Option.some.injEq,Rs.ok.injEq] at e;rw [← e.1];exact leaf _ _ _ _ _ (one (by omega)) (fun _=>⟨rfl,hk⟩) (fun e=>absurd rfl e) rfl (by omega)
  split at e
  ·rename_i hk;simp only [Option.some.injEq,Rs.ok.injEq] at e;rw [← e.1];exact leaf _ _ _ _ _ (one (by omega)) (fun e=>by omega) (fun _=>rfl) rfl (by omega)
  split at e
  ·rename_i hk;simp only [Option.some.injEq,Rs.ok.injEq] at e;rw [← e.1];exact leaf _ _ _ _ _ (one (by omega)) (fun e=>by omega) (fun _=>rfl) rfl (by omega)
  split at e
  ·rename_i hh;simp only [Option.some.injEq,Rs.ok.injEq] at e;rw [← e.1];exact leaf _ _ _ _ _ (h.after hi hh) (fun e=>by omega) (fun _=>rfl) rfl (by omega)
  split at e
  ·rename_i hh
   split at e
   ·cases e
   ·split at e
    ·simp only [Option.some.injEq,Rs.ok.injEq] at e
     rw [← e.1];exact leaf _ _ _ _ _ (h.after hi hh) (fun e=>by omega) (fun _=>rfl) rfl (by omega)
    ·cases hq:prs L f .alt [] (i+1) (d+1) with
     | none=>rw [hq] at e;cases e
     | some r=>
      rw [hq] at e
      cases r with
      | err a b=>cases e
      | ok q k=>
       simp only [] at e
       split at e
       ·simp only [Option.some.injEq,Rs.ok.injEq] at e
        rw [← e.1]
        exact prs_wf h f .alt [] (i+1) (d+1) q k (h.after hi hh) hq (by unfold WfL;trivial) trivial
       ·cases e
  ·cases e

/-! ### Where kids stand -/
/-- Numbers in a row: each but the first is the end of the one ahead. -/
def Chn (E:Nat->Nat):Nat->List Nat->Nat->Prop
 | n,[],e=>n=e
 | n,k :: ks,e=>k=n/\Chn E (E k) ks e
mutual
def szs:Pt->List Nat
 | .mk _ _ _ _ _ _ ks=>(1+szL ks) :: szsL ks
def szsL:List Pt->List Nat
 | []=>[]
 | k :: ks=>szs k ++ szsL ks
end
mutual
theorem szs_len:∀ p:Pt,(szs p).length=p.sz
 | .mk _ _ _ _ _ _ ks=>by unfold szs Pt.sz;rw [List.length_cons,szsL_len ks];omega
theorem szsL_len:∀ l:List Pt,(szsL l).length=szL l
 | []=>by unfold szsL szL;rfl
 | k :: ks=>by unfold szsL szL;rw [List.length_append,szs_len k,szsL_len ks]
end
theorem szs_head (p:Pt):∃ t,szs p=p.sz :: t:=by
 cases p with
 | mk a b c d e f ks=>exact ⟨szsL ks,by unfold szs Pt.sz;rfl⟩
/-- Where a node ends. -/
def endE (S:List Nat) (n:Nat):Nat:=n+S.getD n 0
theorem drop_getD {S:List Nat} {n a:Nat} {t:List Nat} (h:S.drop n=a :: t):S.getD n 0=a/\S.drop (n+1)=t:=by
 have h1:S[n]?=some a:=by
  have:=congrArg List.head? h
  rwa [List.head?_drop] at this
 refine ⟨by rw [List.getD_eq_getElem?_getD,h1];rfl,?_⟩
 rw [← List.drop_drop,h];rfl
theorem kidsAt_chn {S:List Nat}:∀ (n:Nat) (ks:List Pt) (t:List Nat),S.drop n=szsL ks ++ t->Chn (endE S) n (kidsAt n ks) (n+szL ks)
 | n,[],t,h=>rfl
 | n,k :: ks,t,h=>by
  obtain ⟨u,hu⟩:=szs_head k
  have h1:S.drop n=szs k ++ (szsL ks ++ t):=by rw [h];simp [szsL]
  have h2:S.getD n 0=k.sz:=(drop_getD (a:=k.sz) (t:=u ++ (szsL ks ++ t)) (by rw [h1,hu];rfl)).1
  have h3:S.drop (n+k.sz)=szsL ks ++ t:=by
   rw [← List.drop_drop,h1,List.drop_left' (szs_len k)]
  unfold kidsAt Chn
  refine ⟨rfl,?_⟩
  have:=kidsAt_chn (n+k.sz) ks t h3
  unfold endE at this ⊢
  rw [h2]
  simpa [szL,Nat.add_assoc] using this
mutual
theorem flat_chn {S:List Nat}:∀ (n:Nat) (p:Pt) (t:List Nat),S.drop n=szs p ++ t->∀ m (h:m < (flat n p).length),Chn (endE S) (n+m+1) (flat n p)[m].kids (endE S (n+m))/\endE S (n+m)<=n+p.sz
 | n,.mk kd cl tt lv a nm ks,t,hS,m,h=>by
  have hS':S.drop n=(1+szL ks) :: (szsL ks ++ t):=by rw [hS];simp [szs]
  obtain ⟨h1,h2⟩:=drop_getD hS'
  cases m with
  | zero=>
   have hk:=kidsAt_chn (n+1) ks t h2
   have he:endE S (n+0)=n+1+szL ks:=by unfold endE;rw [Nat.add_zero,h1];omega
   rw [he]
   refine ⟨by simpa [flat] using hk,by simp only [Pt.sz];omega⟩
  | succ m=>
   have h3:m < (flatL (n+1) ks).length:=by simpa [flat] using h
   obtain ⟨h4,h5⟩:=flatL_chn (n+1) ks t h2 m h3
   rw [show n+(m+1)=n+1+m by omega]
   refine ⟨by simpa [flat] using h4,by simp only [Pt.sz];omega⟩
theorem flatL_chn {S:List Nat}:∀ (n:Nat) (ks:List Pt) (t:List Nat),S.drop n=szsL ks ++ t->∀ m (h:m < (flatL n ks).length),Chn (endE S) (n+m+1) (flatL n ks)[m].kids (endE S (n+m))/\endE S (n+m)<=n+szL ks
 | n,[],t,hS,m,h=>by simp [flatL] at h
 | n,p :: ks,t,hS,m,h=>by
  have hl:=flat_len n p
  have h1:S.drop n=szs p ++ (szsL ks ++ t):=by rw [hS];simp [szsL]
  have h3:S.drop (n+p.sz)=szsL ks ++ t:=by rw [← List.drop_drop,h1,List.drop_left' (szs_len p)]
  have hm:m < (flat n p ++ flatL (n+p.sz) ks).length:=by simpa [flatL] using h
  simp only [flatL]
  rcases Nat.lt_or_ge m (flat n p).length with h4 | h4
  ·rw [List.getElem_append_left h4]
   obtain ⟨h5,h6⟩:=flat_chn n p _ h1 m h4
   exact ⟨h5,by simp only [szL];omega⟩
  ·rw [List.getElem_append_right h4]
   obtain ⟨h5,h6⟩:=flatL_chn (n+p.sz) ks t h3 (m - (flat n p).length) (by rw [List.length_append] at hm;omega)
   have e:n+p.sz+(m - (flat n p).length)=n+m:=by omega
   simp only [e] at h5 h6
   exact ⟨h5,by simp only [szL];omega⟩
end

/-! ### Each node by itself -/
def NodeOk (L:List Wd) (x:Rn) (y:Option Rn):Prop:=
 ∃ i,i+1 < L.length/\x.at_=(wdAt L i).at_/\(x.kind=5->x.nm=(wdAt L i).tx/\(wdAt L i).kind=2)/\(x.kind ≠ 5->x.nm=[])/\(x.tx=if x.kind=4 then (wdAt L i).tx else [])/\((x.kind=6∨x.kind=7)->2<=x.kids.length/\∃ z,y=some z/\z.at_=x.at_)
theorem kidsAt_len:∀ (n:Nat) (ks:List Pt),(kidsAt n ks).length=ks.length
 | _,[]=>rfl
 | n,k :: ks=>by unfold kidsAt;rw [List.length_cons,List.length_cons,kidsAt_len]
theorem flat_head (n:Nat) (p:Pt):∃ x t,flat n p=x :: t/\x.at_=p.at_:=by
 cases p with
 | mk kd cl tt lv a nm ks=>exact ⟨_,flatL (n+1) ks,by unfold flat;rfl,rfl⟩
theorem NodeOk.more {L:List Wd} {x:Rn} {y z:Option Rn} (h:NodeOk L x y) (hyz:∀ v,y=some v->z=some v):NodeOk L x z:=by
 obtain ⟨i,h1,h2,h3,h4,h5,h6⟩:=h
 exact ⟨i,h1,h2,h3,h4,h5,fun hk=>by obtain ⟨a,v,b,c⟩:=h6 hk;exact ⟨a,v,hyz v b,c⟩⟩
mutual
theorem flat_ok {L:List Wd}:∀ (n:Nat) (p:Pt),WfP L p->∀ m (h:m < (flat n p).length),NodeOk L (flat n p)[m] (flat n p)[m+1]?
 | n,.mk kd cl tt lv a nm ks,hp,m,h=>by
  unfold WfP at hp
  obtain ⟨⟨i,h1,h2,h3,h4,h5,h6⟩,hk⟩:=hp
  cases m with
  | zero=>
   simp only [flat,List.getElem_cons_zero,Nat.zero_add,List.getElem?_cons_succ]
   refine ⟨i,h1,h2,h3,h4,h5,fun hkd=>?_⟩
   obtain ⟨g1,q,r,rfl,g2⟩:=h6 hkd
   refine ⟨by simp only [kidsAt_len];exact g1,?_⟩
   obtain ⟨x,t,e1,e2⟩:=flat_head (n+1) q
   exact ⟨x,by simp only [flatL];rw [e1];rfl,e2.trans g2⟩
  | succ m=>
   have h7:m < (flatL (n+1) ks).length:=by simpa [flat] using h
   have:=flatL_ok (n+1) ks hk m h7
   simpa [flat] using this
theorem flatL_ok {L:List Wd}:∀ (n:Nat) (ks:List Pt),WfL L ks->∀ m (h:m < (flatL n ks).length),NodeOk L (flatL n ks)[m] (flatL n ks)[m+1]?
 | n,[],_,m,h=>by simp [flatL] at h
 | n,p :: ks,hp,m,h=>by
  have hl:=flat_len n p
  unfold WfL at hp
  have hm:m < (flat n p ++ flatL (n+p.sz) ks).length:=by simpa [flatL] using h
  simp only [flatL]
  rcases Nat.lt_or_ge m (flat n p).length with h4 | h4
  ·rw [List.getElem_append_left h4]
   refine (flat_ok n p hp.1 m h4).more fun v hv=>?_
   have h5:m+1 < (flat n p).length:=by
    rcases Nat.lt_or_ge (m+1) (flat n p).length with h5 | h5
    ·exact h5
    ·rw [List.getElem?_eq_none h5] at hv;cases hv
   rw [List.getElem?_append_left h5];exact hv
  ·rw [List.getElem_append_right h4,List.getElem?_append_right (by omega)]
   have:=flatL_ok (n+p.sz) ks hp.2 (m - (flat n p).length) (by rw [List.length_append] at hm;omega)
   rw [show m+1 - (flat n p).length=m - (flat n p).length+1 by omega]
   exact this
end
theorem treeF_is:∀ (n:Nat) (l:List (Wd×Pt)),(treeF n l).2=flatL n (l.map (·.2))/\(treeF n l).1.map (·.body)=kidsAt n (l.map (·.2))/\(treeF n l).1.map (·.nm)=l.map (·.1.tx)/\(treeF n l).1.map (·.at_)=l.map (·.1.at_)
 | n,[]=>⟨rfl,rfl,rfl,rfl⟩
 | n,(w,p) :: l=>by
  obtain ⟨h1,h2,h3,h4⟩:=treeF_is (n+p.sz) l
  refine ⟨by simp only [treeF,List.map_cons,flatL,h1],by simp only [treeF,List.map_cons,kidsAt,h2],by simp only [treeF,List.map_cons,h3],by simp only [treeF,List.map_cons,h4]⟩

/-! ### Rules -/
/-- Rules that were read ahead of word j. -/
structure RsOk (L:List Wd) (acc:List (Wd×Pt)) (j:Nat):Prop where
 wf:WfL L (acc.map (·.2))
 nm:∀ x ∈ acc,∃ i,i < j/\i+1 < L.length/\x.1=wdAt L i/\x.1.kind=2
 up:∀ i (h:i+1 < acc.length),∃ a b,a < b/\b+1 < L.length/\acc[i].1=wdAt L a/\acc[i+1].1=wdAt L b
theorem wfL_map {L:List Wd} {acc:List (Wd×Pt)} {w:Wd} {p:Pt} (h:WfL L (acc.map (·.2))) (hp:WfP L p):WfL L ((acc ++ [(w,p)]).map (·.2)):=by
 rw [List.map_append]
 exact wfL_app _ _ h (by show WfL L [p];unfold WfL;exact ⟨hp,by unfold WfL;trivial⟩)
theorem rulP_ok {L:List Wd} (h:WsOk L) {f i j:Nat} {w:Wd} {p:Pt} (hi:i < L.length) (e:rulP L f i=some (.ok (w,p) j)):w=wdAt L i/\w.kind=2/\i+1 < L.length/\WfP L p/\i < j/\j < L.length:=by
 unfold rulP at e
 simp only [] at e
 by_cases hk:(wdAt L i).kind ≠ 2∨0<=(wdAt L i).lv
 ·rw [if_pos hk] at e;cases e
 ·rw [if_neg hk] at e
  have hk2:(wdAt L i).kind=2:=by
   rcases Nat.decEq (wdAt L i).kind 2 with h1 | h1
   ·exact absurd (.inl h1) hk
   ·exact h1
  have h1:=h.next hi (by omega)
  by_cases hh:hereW L (i+1) [60,45]=true
  ·rw [if_pos hh] at e
   have h2:=h.after h1 hh
   cases hq:prs L f .alt [] (i+2) 0 with
   | none=>rw [hq] at e;cases e
   | some r=>
    rw [hq] at e
    cases r with
    | err a b=>cases e
    | ok q k=>
     obtain ⟨h4,h5,_⟩:=prs_bd h f .alt [] (i+2) 0 q k h2 hq
     have hw:=prs_wf h f .alt [] (i+2) 0 q k h2 hq (by unfold WfL;trivial) trivial
     simp only [] at e
     by_cases hs:hereW L k [59]=true
     ·rw [if_pos hs] at e
      simp only [Option.some.injEq,Rs.ok.injEq,Prod.mk.injEq] at e
      obtain ⟨⟨rfl,rfl⟩,rfl⟩:=e
      exact ⟨rfl,hk2,h1,hw,by omega,h.after h4 hs⟩
     ·rw [if_neg hs] at e;cases e
  ·rw [if_neg hh] at e;cases e
theorem rulsP_ok {L:List Wd} (h:WsOk L) (f:Nat):∀ (g:Nat) (acc:List (Wd×Pt)) (i:Nat) (x:List (Wd×Pt)) (j:Nat),i < L.length->RsOk L acc i->rulsP L f g acc i=some (.ok x j)->x ≠ []/\RsOk L x j
 | 0,acc,i,x,j,hi,ha,e=>by cases e
 | g+1,acc,i,x,j,hi,ha,e=>by
  unfold rulsP at e
  cases hq:rulP L f i with
  | none=>rw [hq] at e;cases e
  | some r=>
   rw [hq] at e
   cases r with
   | err a b=>cases e
   | ok y k=>
    obtain ⟨w,p⟩:=y
    obtain ⟨h1,h2,h3,h4,h5,h6⟩:=rulP_ok h hi hq
    simp only [] at e
    have hn:RsOk L (acc ++ [(w,p)]) k:=by
     refine ⟨wfL_map ha.wf h4,fun y hy=>?_,fun m hm=>?_⟩
     ·rcases List.mem_append.1 hy with hy | hy
      ·obtain ⟨a,b1,b2⟩:=ha.nm y hy;exact ⟨a,by omega,b2⟩
      ·obtain rfl:y=(w,p):=by simpa using hy
       exact ⟨i,h5,h3,h1,h2⟩
     ·rw [List.length_append] at hm
      simp only [List.length_cons,List.length_nil] at hm
      rcases Nat.lt_or_ge (m+1) acc.length with h7 | h7
      ·obtain ⟨a,b,c⟩:=ha.up m h7
       rw [List.getElem_append_left (by omega),List.getElem_append_left h7]
       exact ⟨a,b,c⟩
      ·have hm':m < acc.length:=by omega
       obtain ⟨a,b1,b2,b3,b4⟩:=ha.nm acc[m] (List.getElem_mem hm')
       rw [List.getElem_append_left hm',List.getElem_append_right h7]
       refine ⟨a,i,b1,h3,b3,?_⟩
       simp only [show m+1 - acc.length=0 by omega,List.getElem_cons_zero]
       exact h1
    split at e
    ·simp only [Option.some.injEq,Rs.ok.injEq] at e
     obtain ⟨rfl,rfl⟩:=e
     exact ⟨by simp,hn⟩
    ·exact rulsP_ok h f g _ k x j h6 hn e
theorem readW_ok {L:List Wd} (h:WsOk L) {x:List (Wd×Pt)} {j:Nat} (e:readW L=.ok x j):x ≠ []/\RsOk L x j:=by
 unfold readW at e
 cases hq:rulsP L (6 * L.length+4) (L.length+1) [] 0 with
 | none=>rw [hq] at e;cases e
 | some r=>
  rw [hq] at e
  simp only [] at e
  subst e
  exact rulsP_ok h _ _ _ _ _ _ h.pos ⟨by show WfL L [];unfold WfL;trivial,fun x hx=>(by cases hx),fun i hi=>(by simp at hi)⟩ hq

/-! ### Errors -/
theorem wdAt_le {L:List Wd} {n:Nat} (h:∀ i (hi:i < L.length),L[i].at_<=n) (i:Nat):(wdAt L i).at_<=n:=by
 rcases Nat.lt_or_ge i L.length with hi | hi
 ·rw [wdAt_in hi];exact h i hi
 ·have:wdAt L i=⟨1,0,0,[],0,[]⟩:=by unfold wdAt;rw [List.getD_eq_getElem?_getD,List.getElem?_eq_none hi];rfl
  rw [this];exact Nat.zero_le _
theorem prs_err {L:List Wd} {n:Nat} (h:∀ i,(wdAt L i).at_<=n):∀ (f:Nat) (m:Md) (acc:List Pt) (i d:Nat) (e a:Nat),prs L f m acc i d=some (.err e a)->(e=3∨e=7)/\a<=n
 | 0,m,acc,i,d,e,a,hr=>by simp [prs] at hr
 | f+1,.alt,acc,i,d,e,a,hr=>by
  simp only [prs] at hr
  cases hq:prs L f .seq [] i d with
  | none=>rw [hq] at hr;cases hr
  | some r=>
   rw [hq] at hr
   cases r with
   | err b c=>simp only [Option.some.injEq,Rs.err.injEq] at hr;obtain ⟨rfl,rfl⟩:=hr;exact prs_err h f .seq [] i d _ _ hq
   | ok q k=>exact prs_err h f .altM [q] k d e a hr
 | f+1,.altM,acc,i,d,e,a,hr=>by
  simp only [prs] at hr
  split at hr
  ·cases hq:prs L f .seq [] (i+1) d with
   | none=>rw [hq] at hr;cases hr
   | some r=>
    rw [hq] at hr
    cases r with
    | err b c=>simp only [Option.some.injEq,Rs.err.injEq] at hr;obtain ⟨rfl,rfl⟩:=hr;exact prs_err h f .seq [] (i+1) d _ _ hq
    | ok q k=>exact prs_err h f .altM _ k d e a hr
  ·cases hr
 | f+1,.seq,acc,i,d,e,a,hr=>by
  simp only [prs] at hr
  cases hq:prs L f .item [] i d with
  | none=>rw [hq] at hr;cases hr
  | some r=>
   rw [hq] at hr
   cases r with
   | err b c=>simp only [Option.some.injEq,Rs.err.injEq] at hr;obtain ⟨rfl,rfl⟩:=hr;exact prs_err h f .item [] i d _ _ hq
   | ok q k=>exact prs_err h f .seqM [q] k d e a hr
 | f+1,.seqM,acc,i,d,e,a,hr=>by
  simp only [prs] at hr
  split at hr
  ·cases hq:prs L f .item [] i d with
   | none=>rw [hq] at hr;cases hr
   | some r=>
    rw [hq] at hr
    cases r with
    | err b c=>simp only [Option.some.injEq,Rs.err.injEq] at hr;obtain ⟨rfl,rfl⟩:=hr;exact prs_err h f .item [] i d _ _ hq
    | ok q k=>exact prs_err h f .seqM _ k d e a hr
  ·cases hr
 | f+1,.item,acc,i,d,e,a,hr=>by
  simp only [prs] at hr
  split at hr
  ·cases hq:prs L f .item [] (i+1) d with
   | none=>rw [hq] at hr;cases hr
   | some r=>
    rw [hq] at hr
    cases r with
    | err b c=>simp only [Option.some.injEq,Rs.err.injEq] at hr;obtain ⟨rfl,rfl⟩:=hr;exact prs_err h f .item [] (i+1) d _ _ hq
    | ok q k=>cases hr
  ·split at hr
   ·cases hq:prs L f .item [] (i+1) d with
    | none=>rw [hq] at hr;cases hr
    | some r=>
     rw [hq] at hr
     cases r with
     | err b c=>simp only [Option.some.injEq,Rs.err.injEq] at hr;obtain ⟨rfl,rfl⟩:=hr;exact prs_err h f .item [] (i+1) d _ _ hq
     | ok q k=>cases hr
   ·cases hq:prs L f .prim [] i d with
    | none=>rw [hq] at hr;cases hr
    | some r=>
     rw [hq] at hr
     cases r with
     | err b c=>simp only [Option.some.injEq,Rs.err.injEq] at hr;obtain ⟨rfl,rfl⟩:=hr;exact prs_err h f .prim [] i d _ _ hq
     | ok q k=>cases hr
 | f+1,.prim,acc,i,d,e,a,hr=>by
  simp only [prs] at hr
  split at hr
  ·cases hr
  split at hr
  ·cases hr
  split at hr
  ·cases hr
  split at hr
  ·cases hr
  split at hr
  ·split at hr
   ·simp only [Option.some.injEq,Rs.err.injEq] at hr;exact ⟨.inl hr.1.symm,hr.2 ▸ h i⟩
   ·split at hr
    ·cases hr
    ·cases hq:prs L f .alt [] (i+1) (d+1) with
     | none=>rw [hq] at hr;cases hr
     | some r=>
      rw [hq] at hr
      cases r with
      | err b c=>simp only [Option.some.injEq,Rs.err.injEq] at hr;obtain ⟨rfl,rfl⟩:=hr;exact prs_err h f .alt [] (i+1) (d+1) _ _ hq
      | ok q k=>
       simp only [] at hr
       split at hr
       ·cases hr
       ·simp only [Option.some.injEq,Rs.err.injEq] at hr;exact ⟨.inr hr.1.symm,hr.2 ▸ h k⟩
  ·simp only [Option.some.injEq,Rs.err.injEq] at hr;exact ⟨.inr hr.1.symm,hr.2 ▸ h i⟩
theorem rulP_err {L:List Wd} {n:Nat} (h:∀ i,(wdAt L i).at_<=n) {f i e a:Nat} (hr:rulP L f i=some (.err e a)):(e=3∨e=7)/\a<=n:=by
 unfold rulP at hr
 simp only [] at hr
 split at hr
 ·simp only [Option.some.injEq,Rs.err.injEq] at hr;exact ⟨.inr hr.1.symm,hr.2 ▸ h i⟩
 ·split at hr
  ·cases hq:prs L f .alt [] (i+2) 0 with
   | none=>rw [hq] at hr;cases hr
   | some r=>
    rw [hq] at hr
    cases r with
    | err b c=>simp only [Option.some.injEq,Rs.err.injEq] at hr;obtain ⟨rfl,rfl⟩:=hr;exact prs_err h f .alt [] (i+2) 0 _ _ hq
    | ok q k=>
     simp only [] at hr
     split at hr
     ·cases hr
     ·simp only [Option.some.injEq,Rs.err.injEq] at hr;exact ⟨.inr hr.1.symm,hr.2 ▸ h k⟩
  ·simp only [Option.some.injEq,Rs.err.injEq] at hr;exact ⟨.inr hr.1.symm,hr.2 ▸ h (i+1)⟩
theorem rulsP_err {L:List Wd} {n:Nat} (h:∀ i,(wdAt L i).at_<=n) (f:Nat):∀ (g:Nat) (acc:List (Wd×Pt)) (i e a:Nat),rulsP L f g acc i=some (.err e a)->(e=3∨e=7)/\a<=n
 | 0,acc,i,e,a,hr=>by cases hr
 | g+1,acc,i,e,a,hr=>by
  unfold rulsP at hr
  cases hq:rulP L f i with
  | none=>rw [hq] at hr;cases hr
  | some r=>
   rw [hq] at hr
   cases r with
   | err b c=>simp only [Option.some.injEq,Rs.err.injEq] at hr;obtain ⟨rfl,rfl⟩:=hr;exact rulP_err h hq
   | ok y k=>
    simp only [] at hr
    split at hr
    ·cases hr
    ·exact rulsP_err h f g _ k e a hr
theorem readW_err {L:List Wd} (hW:WsOk L) {n:Nat} (h:∀ i,(wdAt L i).at_<=n) {e a:Nat} (hr:readW L=.err e a):(e=3∨e=7)/\a<=n:=by
 unfold readW at hr
 cases hq:rulsP L (6 * L.length+4) (L.length+1) [] 0 with
 | none=>exact absurd hq (rulsP_tot hW _ (Nat.le_refl _) _ _ _ hW.pos (by omega))
 | some r=>
  rw [hq] at hr
  simp only [] at hr
  subst hr
  exact rulsP_err h _ _ _ _ _ _ hq
/-- Why a text is none, and where: a place of it. -/
theorem readT_err {l:List UInt8} {X:List Rr×List Rn} {e a:Nat} (h:readT l=(X,e,a)) (he:e ≠ 0):X=([],[])/\(e=3∨e=7)/\a<=l.length:=by
 unfold readT at h
 cases hw:(wordsOf l).2 with
 | some p=>
  rw [hw] at h
  simp only [Prod.mk.injEq] at h
  obtain ⟨rfl,rfl,rfl⟩:=h
  exact ⟨rfl,.inr rfl,Nat.le_of_lt (wordsF_err _ _ (Nat.zero_le _) (by omega) hw).1⟩
 | none=>
  rw [hw] at h
  have hA:=words_at hw
  simp only [] at h
  cases hr:readW (wordsOf l).1 with
  | ok x j=>rw [hr] at h;simp only [Prod.mk.injEq] at h;exact absurd h.2.1.symm he
  | err b c=>
   rw [hr] at h
   simp only [Prod.mk.injEq] at h
   obtain ⟨rfl,rfl,rfl⟩:=h
   have:=readW_err hA.ok (n:=l.length) (fun i=>wdAt_le (fun i hi=>(hA.at_ i hi).2.1) i) hr
   exact ⟨rfl,this.1,this.2⟩

/-! ### The theorem -/
theorem nameW_ne {c:UInt8} {t:List UInt8} (hc:isLt c=true):(nameW (c :: t)).tx ≠ []:=by
 have hl:isLD c=true:=by unfold isLD;rw [hc];rfl
 have h1:(c :: t).takeWhile isLD ≠ []:=by rw [List.takeWhile_cons,if_pos hl];simp
 unfold nameW
 split
 ·split <;> exact h1
 ·exact h1
theorem wordR_name {l:List UInt8} {r:Wr} (h:wordR l=some r) (hk:r.kind=2):r.tx ≠ []:=by
 cases l with
 | nil=>simp only [wordR,Option.some.injEq] at h;subst h;cases hk
 | cons c t=>
  simp only [wordR] at h
  split at h
  ·rename_i hc;simp only [Option.some.injEq] at h;subst h;exact nameW_ne hc
  ·split at h
   ·cases hq:qd t.length t with
    | none=>rw [hq] at h;cases h
    | some q=>rw [hq] at h;simp only [Option.map_some,Option.some.injEq] at h;subst h;cases hk
   ·split at h
    ·cases hq:cd t.length t with
     | none=>rw [hq] at h;cases h
     | some q=>rw [hq] at h;simp only [Option.map_some,Option.some.injEq] at h;subst h;cases hk
    ·split at h
     ·simp only [Option.some.injEq] at h;subst h;cases hk
     ·split at h
      ·simp only [Option.some.injEq] at h;subst h;cases hk
      ·cases h
theorem nextW_name {l:List UInt8} {k:Nat} {w:Wd} (h:nextW l k=some w) (hk:w.kind=2):w.tx ≠ []:=by
 unfold nextW at h
 cases hr:wordR (l.drop (k+skp false (l.drop k))) with
 | none=>rw [hr] at h;cases h
 | some r=>
  rw [hr] at h
  simp only [Option.map_some,Option.some.injEq] at h
  subst h
  exact wordR_name hr hk
theorem qd_tx:∀ (f:Nat) (t:List UInt8) {b:List UInt8} {n:Nat},qd f t=some (b,n)->b.length<=n
 | _,[],_,_,h=>by simp [qd] at h
 | 0,_ :: _,_,_,h=>by simp [qd] at h
 | f+1,c :: t,b,n,h=>by
  unfold qd at h
  split at h
  ·simp only [Option.some.injEq,Prod.mk.injEq] at h;obtain ⟨rfl,rfl⟩:=h;simp
  ·split at h
   ·cases h
   ·rename_i b1 n1 e
    have hl:=rd_len e
    cases hq:qd f ((c :: t).drop n1) with
    | none=>rw [hq] at h;cases h
    | some q=>
     rw [hq] at h
     obtain ⟨b2,n2⟩:=q
     simp only [Option.map_some,Option.some.injEq,Prod.mk.injEq] at h
     obtain ⟨rfl,rfl⟩:=h
     have:=qd_tx f _ hq
     simp only [List.length_cons];omega
theorem wordR_tx {s:List UInt8} {r:Wr} (h:wordR s=some r):r.tx.length<=s.length:=by
 cases s with
 | nil=>simp only [wordR,Option.some.injEq] at h;subst h;simp
 | cons c t=>
  simp only [wordR] at h
  split at h
  ·simp only [Option.some.injEq] at h;subst h
   have h1:=tw_le isLD (c :: t)
   unfold nameW
   split
   ·split <;> (simp only [];omega)
   ·simp only [];omega
  ·split at h
   ·cases hq:qd t.length t with
    | none=>rw [hq] at h;cases h
    | some q=>
     rw [hq] at h;simp only [Option.map_some,Option.some.injEq] at h;subst h
     have h1:=qd_tx _ _ hq;have h2:=qd_len _ _ hq
     simp only [List.length_cons];omega
   ·split at h
    ·cases hq:cd t.length t with
     | none=>rw [hq] at h;cases h
     | some q=>rw [hq] at h;simp only [Option.map_some,Option.some.injEq] at h;subst h;simp
    ·split at h
     ·rename_i h60
      simp only [Option.some.injEq] at h;subst h
      simp only [Bool.and_eq_true,beq_iff_eq] at h60
      cases t with
      | nil=>cases h60.2
      | cons d t=>simp
     ·split at h
      ·simp only [Option.some.injEq] at h;subst h;simp
      ·cases h
theorem nextW_tx {l:List UInt8} {k:Nat} {w:Wd} (h:nextW l k=some w):w.tx.length<=l.length:=by
 unfold nextW at h
 cases hr:wordR (l.drop (k+skp false (l.drop k))) with
 | none=>rw [hr] at h;cases h
 | some r=>
  rw [hr] at h
  simp only [Option.map_some,Option.some.injEq] at h
  subst h
  have:=wordR_tx hr
  rw [List.length_drop] at this
  show r.tx.length<=_
  omega
/-- What the theorem says of a node. -/
def NodeL (l:List UInt8) (x:Rn) (y:Option Rn):Prop:=
 x.at_ < l.length/\((x.nm ≠ []) ↔ x.kind=5)/\(∃ w,nextW l x.at_=some w/\w.at_=x.at_/\(x.kind=5->w.tx=x.nm)/\(x.kind=4->w.tx=x.tx))/\((x.kind=6∨x.kind=7)->2<=x.kids.length/\∃ z,y=some z/\z.at_=x.at_)/\x.tx.length<=l.length
theorem NodeOk.text {l:List UInt8} {L:List Wd} (hA:WsAt l 0 L) {x:Rn} {y:Option Rn} (h:NodeOk L x y):NodeL l x y:=by
 obtain ⟨i,h1,h2,h3,h4,h5,h6⟩:=h
 have hi:i < L.length:=by omega
 obtain ⟨a1,a2,a3,a4,a5,a6,a7,a8⟩:=hA.at_ i hi
 have hw:=wdAt_in hi
 rw [hw] at h2 h3 h5
 have hlt:L[i].at_ < l.length:=by
  have:L[i].at_ ≠ l.length:=fun e=>by have:=a4.1 (a8.2 e);omega
  omega
 refine ⟨by rw [h2];exact hlt,⟨fun hn=>?_,fun hk=>?_⟩,⟨L[i],by rw [h2];exact a3,h2.symm,fun hk=>(h3 hk).1.symm,fun hk=>by rw [h5,if_pos hk]⟩,h6,?_⟩
 ·rcases Nat.decEq x.kind 5 with h | h
  ·exact absurd (h4 h) hn
  ·exact h
 ·rw [(h3 hk).1]
  exact nextW_name a3 (h3 hk).2
 ·rw [h5]
  split
  ·exact nextW_tx a3
  ·simp
theorem at_up {l:List UInt8} {L:List Wd} (hA:WsAt l 0 L):∀ (d i:Nat),i+d+1 < L.length->(wdAt L i).at_ < (wdAt L (i+d+1)).at_
 | 0,i,h=>by
  rw [wdAt_in (by omega),wdAt_in (by omega)]
  have:=hA.up i h
  simp only [Nat.add_zero];omega
 | d+1,i,h=>by
  have h1:=at_up hA d i (by omega)
  have h2:=at_up hA 0 (i+d+1) (by omega)
  rw [show i+(d+1)+1=i+d+1+0+1 by omega]
  omega
theorem at_lt {l:List UInt8} {L:List Wd} (hA:WsAt l 0 L) {i j:Nat} (h:i < j) (hj:j < L.length):(wdAt L i).at_ < (wdAt L j).at_:=by
 have:=at_up hA (j - i - 1) i (by omega)
 rwa [show i+(j - i - 1)+1=j by omega] at this
/-- A tree's nodes stand in preorder. -/
theorem preorder {l:List UInt8} {R:List Rr} {N:List Rn} {a:Nat} (h:readT l=((R,N),0,a)):
  a=0/\R ≠ []/\KidsUp N/\(∀ r ∈ R,r.body < N.length)/\∃ E:Nat->Nat,(∀ n (hn:n < N.length),Chn E (n+1) N[n].kids (E n)/\E n<=N.length/\NodeL l N[n] N[n+1]?)/\Chn E 0 (R.map (·.body)) N.length/\
   (∀ r ∈ R,r.at_<=l.length/\∃ w,nextW l r.at_=some w/\w.tx=r.nm)/\(∀ i (hi:i+1 < R.length),R[i].at_ < R[i+1].at_):=by
 unfold readT at h
 cases hw:(wordsOf l).2 with
 | some p=>rw [hw] at h;simp at h
 | none=>
  rw [hw] at h
  have hA:=words_at hw
  simp only [] at h
  cases hr:readW (wordsOf l).1 with
  | err b c=>
   rw [hr] at h
   simp only [Prod.mk.injEq] at h
   have:=(readW_err hA.ok (n:=l.length) (fun i=>wdAt_le (fun i hi=>(hA.at_ i hi).2.1) i) hr).1
   omega
  | ok x j=>
   rw [hr] at h
   simp only [Prod.mk.injEq] at h
   obtain ⟨ht,-,ha⟩:=h
   obtain ⟨hx,hR⟩:=readW_ok hA.ok hr
   obtain ⟨t1,t2,t3,t4⟩:=treeF_is 0 x
   rw [ht] at t1 t2 t3 t4
   simp only at t1 t2 t3 t4
   have hlen:R.length=x.length:=by have:=congrArg List.length t4;simpa using this
   have hnl:N.length=szL (x.map (·.2)):=by rw [t1,flatL_len]
   refine ⟨ha.symm,fun e=>hx (by rw [e] at hlen;exact List.eq_nil_of_length_eq_zero (by simpa using hlen.symm)),?_,?_,endE (szsL (x.map (·.2))),?_,?_,?_,?_⟩
   ·have:=tree_up x;rw [ht] at this;exact this
   ·intro r hr'
    have:=treeF_body 0 x r (by rw [ht];exact hr')
    rw [ht] at this
    simpa using this.2
   ·intro n hn
    have hn':n < (flatL 0 (x.map (·.2))).length:=t1 ▸ hn
    have c1:=flatL_chn (S:=szsL (x.map (·.2))) 0 (x.map (·.2)) [] (by simp) n hn'
    have c2:=(flatL_ok 0 _ hR.wf n hn').text hA
    subst t1
    simp only [Nat.zero_add] at c1
    exact ⟨c1.1,by rw [hnl];exact c1.2,c2⟩
   ·have:=kidsAt_chn (S:=szsL (x.map (·.2))) 0 (x.map (·.2)) [] (by simp)
    rw [t2,hnl]
    simpa using this
   ·intro r hr'
    obtain ⟨i,hi,rfl⟩:=List.mem_iff_getElem.1 hr'
    have e1:R[i].at_=(x[i]'(by omega)).1.at_:=by
     have:=congrArg (fun l=>l[i]?) t4
     simpa [hi,show i < x.length by omega] using this
    have e2:R[i].nm=(x[i]'(by omega)).1.tx:=by
     have:=congrArg (fun l=>l[i]?) t3
     simpa [hi,show i < x.length by omega] using this
    obtain ⟨k,k1,k2,k3,k4⟩:=hR.nm x[i] (List.getElem_mem _)
    have hk:k < (wordsOf l).1.length:=by omega
    refine ⟨?_,(wordsOf l).1[k],?_,?_⟩
    ·rw [e1,k3,wdAt_in hk];exact (hA.at_ k hk).2.1
    ·rw [e1,k3,wdAt_in hk];exact (hA.at_ k hk).2.2.1
    ·rw [e2,k3,wdAt_in hk]
   ·intro i hi
    have e1:∀ m (h:m < R.length),R[m].at_=(x[m]'(by omega)).1.at_:=fun m hm=>by
     have:=congrArg (fun l=>l[m]?) t4
     simpa [hm,show m < x.length by omega] using this
    obtain ⟨a,b,h1,h2,h3,h4⟩:=hR.up i (by omega)
    rw [e1 i (by omega),e1 (i+1) hi,h3,h4]
    exact at_lt hA h1 (by omega)
end Go.Proofs.YtgjhepblpdnkcaaGreatDoor
namespace Go.Proofs.YtgjhepblpdnkcaaGreatDoor

def Ext {α:Type} (k:Nat):Rs α->Prop
 | .ok _ j=>k<=j
 | .err _ _=>True
/-- Signs behind a part: more fuel than words changes nothing. -/
theorem suf_fuel {L:List Wd} (h:WsOk L):∀ (f g:Nat) (p:Pt) (i:Nat),i < L.length->L.length<=f+i->L.length<=g+i->sufF L f p i=sufF L g p i
 | 0,_,p,i,hi,hf,_=>by omega
 | _+1,0,p,i,hi,_,hg=>by omega
 | f+1,g+1,p,i,hi,hf,hg=>by
  unfold sufF
  split
  ·rename_i hh;exact suf_fuel h f g _ _ (h.after hi hh) (by omega) (by omega)
  ·split
   ·rename_i hh;exact suf_fuel h f g _ _ (h.after hi hh) (by omega) (by omega)
   ·split
    ·rename_i hh;exact suf_fuel h f g _ _ (h.after hi hh) (by omega) (by omega)
    ·rfl
theorem Ext.of {α β:Type} {k j:Nat} {r:Rs α} {x:β} (h:∀ p i,r=.ok p i->j<=i) (hk:Ext k (.ok x j)):Ext k r:=by
 cases r with
 | ok p i=>have:=h p i rfl;simp only [Ext] at hk ⊢;omega
 | err a b=>trivial
/-! ### More fuel -/
/-! ### Rules -/
end Go.Proofs.YtgjhepblpdnkcaaGreatDoor
namespace Go.Proofs.YtgjhepblpdnkcaaGreatDoor
open Go.RowKit Go.Shelf
set_option maxRecDepth 100000
set_option maxHeartbeats 4000000

theorem ptW_overF (F:Nat->Prop) (k a b:Nat) (p:Pt) (w:World) (hp:PtW w F p b) (hF:∀ k,w.heap.size<=k->F k):
  PtW ((w.alloc (.cells #[.pointer (some ⟨b,0,none⟩)] 139)).alloc (.cells (ptC k [] [] 0 a [] (some ⟨w.heap.size,0,none⟩) 1 1) 187)) F (ovr k a p) (w.heap.size+1):=by
 have hb1:=(Below.refl _ w).alloc (Nat.le_refl _) (.cells #[.pointer (some ⟨b,0,none⟩)] 139)
 have hb2:=(Below.refl _ (w.alloc (.cells #[.pointer (some ⟨b,0,none⟩)] 139))).alloc (Nat.le_refl _) (.cells (ptC k [] [] 0 a [] (some ⟨w.heap.size,0,none⟩) 1 1) 187)
 unfold ovr PtW
 refine ⟨hF _ (by omega),some ⟨w.heap.size,0,none⟩,1,[b],?_,(Sv.lit w 139 #[.pointer (some ⟨b,0,none⟩)] 1 1 (by unfold maxLen;omega) rfl).below hb2,fun x hx _=>by cases hx;exact hF _ (Nat.le_refl _),?_⟩
 ·have:=hrow.new (w.alloc (.cells #[.pointer (some ⟨b,0,none⟩)] 139)) (ptC k [] [] 0 a [] (some ⟨w.heap.size,0,none⟩) 1 1) 187
  rwa [World.size_alloc] at this
 ·unfold PtsW
  refine ⟨b,[],rfl,?_,by unfold PtsW;rfl⟩
  exact PtW.fr (G:=fun _=>False) (Fr.of_below (hb1.trans (hb2.mono hb1.size))) (fun _ _=>id) (fun _ h=>h) p b hp
theorem over_anyF (F:Nat->Prop) (k a b:Nat) (p:Pt) (w:World) (hp:PtW w F p b) (hF:∀ k,w.heap.size<=k->F k):
  Calls Tryz.prog 189 #[.int .i64 k,.int .i64 a,ptr b] w fun e w'=>∃ b',e=.returned (ptr b')/\PtW w' F (ovr k a p) b'/\Below w.heap.size w w':=by
 have HP:=Lib.hid (ptW_overF F k a b p w hp hF);clear hp hF
 unfold ptr
 go_enter Tryz.func189,Tryz.ntmps189
 go_wp2_with fail
 go_ret
 exact ⟨w.heap.size+1,rfl,HP.out,al2 (Below.refl _ _) _ _⟩
/-- The signs ahead, as they lie. -/
def sgnL (L:List Wd) (i n:Nat):List Wd:=(List.range n).map fun k=>wdAt L (i+k)
theorem sgnL_len (L:List Wd) (i n:Nat):(sgnL L i n).length=n:=by simp [sgnL]
/-- While the signs behind a part are read: the part in its own cell; the signs ahead of it in their row. -/
structure SufI (L:List Wd) (B gr d i n:Nat) (w:World) (v:Value) (G:Nat) (pf:Pt) (jf:Nat) (wr:World) (p:Pt) (b j:Nat):Prop where
 cell:hrow wr G #[ptr b] 139
 pt:PtW wr (fun k=>B<=k/\k ≠ G) p b
 eq:sufF L L.length p j=(pf,jf)
 lt:j < L.length
 ge:w.heap.size<=G
 own:wr.ownsRow w.heap.size 82 9 v n ((sgnL L i n).flatMap fun x=>(wdD x).toList)
 ne:v.ownBlock ≠ some G
 rd:RdW L B gr j d wr
 fr:Fr (fun k=>k=gr) w wr
theorem SufI.start {L:List Wd} {B gr d i n:Nat} {w w1 w2:World} {v:Value} {p:Pt} {b j:Nat} (hs:SgnI L B gr d i w v w1 n) (hB:B<=w.heap.size) (hp:PtW w2 (fun k=>w1.heap.size<=k) p b) (hr:RdW L B gr j d w2) (hf:Fr (fun k=>k=gr) w1 w2) (hj:j < L.length) (hgr:gr < w.heap.size):
  SufI L B gr d i n w v w2.heap.size (sufF L L.length p j).1 (sufF L L.length p j).2 (w2.alloc (.cells #[ptr b] 139)) p b j:=by
 have hA:Fr (fun _=>False) w2 (w2.alloc (.cells #[ptr b] 139)):=Fr.of_below ((Below.refl _ _).alloc (Nat.le_refl _) _)
 have hs1:=hs.fr.size
 have hs2:=hf.size
 have ho:w2.ownsRow w.heap.size 82 9 v n ((sgnL L i n).flatMap fun x=>(wdD x).toList):=owns_fr hs.own hf (fun k hk e=>by have:=(hs.own.lt k hk).1;omega)
 exact {
  cell:=hrow.new _ _ _
  pt:=PtW.fr hA (fun _ _=>id) (fun k hk=>⟨by have:=hk.1;omega,by have:=hk.2;omega⟩) _ _ (PtW.bound _ _ hp)
  eq:=rfl
  lt:=hj
  ge:=Nat.le_trans hs1 hs2
  own:=owns_fr ho hA (fun _ _=>id)
  ne:=fun e=>by have:=(ho.lt _ e).2;omega
  rd:=hr.fr hA (fun _ e=>e.elim)
  fr:=(hs.fr.trans hf (fun _ _ h=>h)).trans hA (fun _ _ e=>e.elim) }
/-- A sign behind is taken. -/
theorem SufI.more {L:List Wd} {B gr d i n:Nat} {w:World} {v:Value} {G:Nat} {pf:Pt} {jf:Nat} {wr w2:World} {p:Pt} {b b' j K:Nat} (h:SufI L B gr d i n w v G pf jf wr p b j) (hW:WsOk L) (hB:B<=w.heap.size) (hgr:gr < w.heap.size)
  (hK:(hereW L j [42]=true/\K=8)∨(hereW L j [43]=true/\K=9)∨(hereW L j [63]=true/\K=10)) (hf:Fr (fun k=>k=gr) wr w2) (hr:RdW L B gr (j+1) d w2)
  (hp:PtW w2 (fun k=>B<=k/\k ≠ G) (ovr K (wdAt L j).at_ p) b'):SufI L B gr d i n w v G pf jf (w2.setCell ⟨G,0,none⟩ (ptr b')) (ovr K (wdAt L j).at_ p) b' (j+1):=by
 have hge:=h.ge
 have hlt:j+1 < L.length:=by rcases hK with h1 | h1 | h1 <;> exact hW.after h.lt h1.1
 have hS:=Fr.setCell w2 ⟨G,0,none⟩ (ptr b')
 have hG:G < w2.heap.size:=Nat.lt_of_lt_of_le h.cell.lt hf.size
 have hc:hrow w2 G #[ptr b] 139:=h.cell.fr hf (fun e=>by have:G=gr:=e;omega)
 have ho:=owns_fr h.own hf (fun k hk e=>by have:=(h.own.lt k hk).1;have:k=gr:=e;omega)
 exact {
  cell:=hc.setCell 0 _
  pt:=PtW.fr hS (fun k hk e=>hk.2 e) (fun _ h=>h) _ _ hp
  eq:=by
   rw [← h.eq,suf_fuel hW L.length (L.length+1) p j h.lt (by omega) (by omega)]
   conv=>rhs;unfold sufF
   rcases hK with ⟨h1,rfl⟩ | ⟨h1,rfl⟩ | ⟨h1,rfl⟩
   ·rw [if_pos h1]
   ·have h2:hereW L j [42]=false:=by unfold hereW;rw [(here_kind h1).2];simp
    rw [h2,if_neg Bool.false_ne_true,if_pos h1]
   ·have h2:hereW L j [42]=false:=by unfold hereW;rw [(here_kind h1).2];simp
    have h3:hereW L j [43]=false:=by unfold hereW;rw [(here_kind h1).2];simp
    rw [h2,if_neg Bool.false_ne_true,h3,if_neg Bool.false_ne_true,if_pos h1]
  lt:=hlt
  ge:=hge
  own:=owns_fr ho hS (fun k hk e=>h.ne (by rw [hk];exact congrArg some e))
  ne:=h.ne
  rd:=hr.fr hS (fun k e=>by have:k=G:=e;omega)
  fr:=(h.fr.trans hf (fun _ _ h=>h)).trans hS (fun k hk e=>by have:k=G:=e;omega) }
/-- No sign is behind. -/
theorem SufI.done {L:List Wd} {B gr d i n:Nat} {w:World} {v:Value} {G:Nat} {pf:Pt} {jf:Nat} {wr:World} {p:Pt} {b j:Nat} (h:SufI L B gr d i n w v G pf jf wr p b j) (h1:hereW L j [42]=false) (h2:hereW L j [43]=false) (h3:hereW L j [63]=false):p=pf/\j=jf:=by
 have:=h.eq
 have hl:=h.lt
 obtain ⟨m,hm⟩:∃ m,L.length=m+1:=⟨L.length - 1,by omega⟩
 rw [hm] at this
 unfold sufF at this
 rw [h1,h2,h3] at this
 simpa using this
end Go.Proofs.YtgjhepblpdnkcaaGreatDoor
